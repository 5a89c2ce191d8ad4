import Derived.Test.YtonfljoibcnlgaaGreatDoorBh
import Derived.RangeFuncCalls
namespace Bd
open Go
mutual
def AV.ren (g : Nat → Nat) : AV → AV
 | .d x => .d x
 | .st xs => .st (rens g xs)
 | .ptr o off p => .ptr (g o) off p
 | .slc o off len sz => .slc (g o) off len sz
 | .fn f first caps => .fn f (rens g first) (rens g caps)
 | .pref x => .pref x
 | .res xs => .res (rens g xs)
 | .yld o => .yld (g o)
 | .junk => .junk
def rens (g : Nat → Nat) : List AV → List AV
 | [] => []
 | x :: xs => x.ren g :: rens g xs
end
def HO.ren (g : Nat → Nat) : HO → HO
 | .av c => .av (c.ren g)
 | .raw o => .raw o
 | .dead => .dead
def Heap.has : Heap → Nat → Bool
 | [], _ => false
 | (i, _) :: h, o => Nat.beq i o || Heap.has h o
theorem heap_has {h : Heap} {o : Nat} : h.has o = true ↔ h.get o ≠ none := by
 induction h with
 | nil => simp [Heap.has, Heap.get]
 | cons p h ih =>
  obtain ⟨i, c⟩ := p
  rw [heap_get_cons]
  simp only [Heap.has, Bool.or_eq_true, ih]
  by_cases e : i = o
  ·subst e; simp
  ·have : Nat.beq i o = false := by cases hb : Nat.beq i o with | false => rfl | true => exact absurd (Nat.eq_of_beq_eq_true hb) e
   simp [e, this]
mutual
def AV.refsIn (h : Heap) : AV → Bool
 | .d _ => true
 | .st xs => refsIns h xs
 | .ptr o _ _ => h.has o
 | .slc o _ _ _ => h.has o
 | .fn _ first caps => refsIns h first && refsIns h caps
 | .pref _ => true
 | .res xs => refsIns h xs
 | .yld o => h.has o
 | .junk => true
def refsIns (h : Heap) : List AV → Bool
 | [] => true
 | x :: xs => x.refsIn h && refsIns h xs
end
mutual
theorem size_ren (g : Nat → Nat) : ∀ x : AV, (x.ren g).size = x.size
 | .d x => rfl
 | .st xs => by simp only [AV.ren, AV.size, sizes_rens g xs]
 | .ptr .. => rfl
 | .slc .. => rfl
 | .fn .. => rfl
 | .pref _ => rfl
 | .res _ => rfl
 | .yld _ => rfl
 | .junk => rfl
theorem sizes_rens (g : Nat → Nat) : ∀ xs : List AV, asizes (rens g xs) = asizes xs
 | [] => rfl
 | x :: xs => by simp only [rens, asizes, size_ren g x, sizes_rens g xs]
end
theorem isAgg_ren (g : Nat → Nat) (x : AV) : (x.ren g).isAgg = x.isAgg := by cases x <;> rfl
mutual
theorem ra_ren {F : Nat → Prop} {μ μ' : Mu} {w : World} {g : Nat → Nat} {h : Heap} (hm : ∀ o, h.get o ≠ none → ∀ p, μ (g o) = some p → μ' o = some p) : ∀ {x : AV} {cs : List Value}, RA F μ w (x.ren g) cs → x.refsIn h = true → RA F μ' w x cs
 | .d x, cs, hr, _ => by simp only [AV.ren, RA] at *; exact hr
 | .st xs, cs, hr, hx => by simp only [AV.ren, RA, AV.refsIn] at *; exact ras_ren hm hr hx
 | .ptr o off p, cs, hr, hx => by
  simp only [AV.ren, RA, AV.refsIn] at *
  obtain ⟨b, base, tot, h1, h2⟩ := hr
  exact ⟨b, base, tot, hm o (heap_has.1 hx) _ h1, h2⟩
 | .slc o off len sz, cs, hr, hx => by
  simp only [AV.ren, RA, AV.refsIn] at *
  rcases hr with ⟨⟨p, h1⟩, h2⟩ | ⟨b, base, tot, cap, h1, h2⟩
  ·exact .inl ⟨⟨p, hm o (heap_has.1 hx) _ h1⟩, h2⟩
  ·exact .inr ⟨b, base, tot, cap, hm o (heap_has.1 hx) _ h1, h2⟩
 | .fn f first caps, cs, hr, hx => by
  simp only [AV.ren, RA, AV.refsIn, Bool.and_eq_true] at *
  obtain ⟨fs, vs, h0, h1, h2⟩ := hr
  exact ⟨fs, vs, h0, rac_ren hm h1 hx.1, rac_ren hm h2 hx.2⟩
 | .pref x, cs, hr, _ => by simp only [AV.ren, RA] at *; exact hr
 | .res xs, cs, hr, _ => by simp only [AV.ren, RA] at hr
 | .yld o, cs, hr, hx => by
  simp only [AV.ren, RA, AV.refsIn] at *
  obtain ⟨b, base, tot, h1, h2⟩ := hr
  exact ⟨b, base, tot, hm o (heap_has.1 hx) _ h1, h2⟩
 | .junk, cs, hr, _ => by simp only [AV.ren, RA] at hr
theorem ras_ren {F : Nat → Prop} {μ μ' : Mu} {w : World} {g : Nat → Nat} {h : Heap} (hm : ∀ o, h.get o ≠ none → ∀ p, μ (g o) = some p → μ' o = some p) : ∀ {xs : List AV} {cs : List Value}, RAs F μ w (rens g xs) cs → refsIns h xs = true → RAs F μ' w xs cs
 | [], cs, hr, _ => hr
 | x :: xs, cs, hr, hx => by
  simp only [rens, RAs, refsIns, Bool.and_eq_true] at *
  obtain ⟨c1, c2, h0, h1, h2⟩ := hr
  exact ⟨c1, c2, h0, ra_ren hm h1 hx.1, ras_ren hm h2 hx.2⟩
theorem rac_ren {F : Nat → Prop} {μ μ' : Mu} {w : World} {g : Nat → Nat} {h : Heap} (hm : ∀ o, h.get o ≠ none → ∀ p, μ (g o) = some p → μ' o = some p) : ∀ {xs : List AV} {vs : List Value}, RAc F μ w (rens g xs) vs → refsIns h xs = true → RAc F μ' w xs vs
 | [], vs, hr, _ => hr
 | x :: xs, vs, hr, hx => by
  simp only [rens, RAc, refsIns, Bool.and_eq_true] at *
  obtain ⟨v, vs', h0, h1, h2, h3⟩ := hr
  exact ⟨v, vs', h0, ra_ren hm h1 hx.1, by rw [h2, isAgg_ren], rac_ren hm h3 hx.2⟩
end
theorem rv_ren {F : Nat → Prop} {μ μ' : Mu} {w : World} {g : Nat → Nat} {h : Heap} (hm : ∀ o, h.get o ≠ none → ∀ p, μ (g o) = some p → μ' o = some p) {x : AV} {v : Value} (hr : RV F μ w (x.ren g) v) (hx : x.refsIn h = true) : RV F μ' w x v := by
 cases x with
 | res xs => obtain ⟨vs, h1, h2⟩ := hr; exact ⟨vs, h1, rac_ren hm h2 hx⟩
 | junk => trivial
 | _ => exact ⟨ra_ren hm hr.1 hx, by rw [hr.2]; exact isAgg_ren g _⟩
inductive RenEnv (g : Nat → Nat) (e : Env) : Env → Prop
 | nil : RenEnv g e []
 | cons {t : Nat} {x : AV} {l : Env} (h : e.get t = some (x.ren g)) (k : RenEnv g e l) : RenEnv g e ((t, x) :: l)
inductive RenHp (g : Nat → Nat) (e : Heap) : Heap → Prop
 | nil : RenHp g e []
 | cons {t : Nat} {x : HO} {l : Heap} (h : e.get (g t) = some (x.ren g)) (k : RenHp g e l) : RenHp g e ((t, x) :: l)
theorem renEnv_get {g e l} (h : RenEnv g e l) : ∀ t x, Env.get l t = some x → (t, x) ∈ l ∧ e.get t = some (x.ren g) := by
 induction h with
 | nil => intro t x h; simp [Env.get] at h
 | @cons t' x' l h k ih =>
  intro t x hx
  rw [env_get_cons] at hx
  by_cases e' : t' = t
  ·subst e'; simp at hx; subst hx; exact ⟨by simp, h⟩
  ·simp [e'] at hx; have := ih t x hx; exact ⟨List.mem_cons_of_mem _ this.1, this.2⟩
theorem renHp_get {g e l} (h : RenHp g e l) : ∀ t x, Heap.get l t = some x → (t, x) ∈ l ∧ e.get (g t) = some (x.ren g) := by
 induction h with
 | nil => intro t x h; simp [Heap.get] at h
 | @cons t' x' l h k ih =>
  intro t x hx
  rw [heap_get_cons] at hx
  by_cases e' : t' = t
  ·subst e'; simp at hx; subst hx; exact ⟨by simp, h⟩
  ·simp [e'] at hx; have := ih t x hx; exact ⟨List.mem_cons_of_mem _ this.1, this.2⟩
def injB (g : Nat → Nat) : Heap → Bool
 | [] => true
 | (o, _) :: h => (h.all fun p => Nat.beq p.1 o || !Nat.beq (g p.1) (g o)) && injB g h
def hoRefs (h : Heap) : HO → Bool
 | .av c => c.refsIn h
 | _ => true
def weakB (g : Nat → Nat) (hp0 : Heap) (s : AS) : Bool :=
 (s.env.all fun p => p.2.refsIn s.hp) && (s.hp.all fun p => hoRefs s.hp p.2) && injB g s.hp && (hp0.all fun p => s.hp.has p.1 && Nat.beq (g p.1) p.1) && (s.dfs.all fun o => s.hp.has o && Nat.beq (g o) o)
theorem has_mem : ∀ {l : Heap} {q : Nat}, l.has q = true → ∃ c, (q, c) ∈ l
 | [], q, h => by simp [Heap.has] at h
 | (j, cj) :: l, q, h => by
  simp only [Heap.has, Bool.or_eq_true] at h
  rcases h with h | h
  ·have := Nat.eq_of_beq_eq_true h; subst this; exact ⟨cj, by simp⟩
  ·obtain ⟨c, hc⟩ := has_mem h; exact ⟨c, List.mem_cons_of_mem _ hc⟩
theorem injB_spec {g : Nat → Nat} : ∀ {h : Heap}, injB g h = true → ∀ o o', h.has o = true → h.has o' = true → g o = g o' → o = o'
 | [], _, o, o', h, _, _ => by simp [Heap.has] at h
 | (i, c) :: h, hi, o, o', ho, ho', e => by
  simp only [injB, Bool.and_eq_true, List.all_eq_true, Bool.or_eq_true] at hi
  obtain ⟨h1, h2⟩ := hi
  simp only [Heap.has, Bool.or_eq_true] at ho ho'
  have key : ∀ q, Heap.has h q = true → g q = g i → q = i := fun q hq hg => by
   obtain ⟨cq, hm⟩ := has_mem hq
   rcases h1 _ hm with hb | hb
   ·exact Nat.eq_of_beq_eq_true hb
   ·simp only [hg] at hb; simp at hb
  rcases ho with ho | ho
  ·have := Nat.eq_of_beq_eq_true ho; subst this
   rcases ho' with ho' | ho'
   ·exact Nat.eq_of_beq_eq_true ho'
   ·exact (key o' ho' e.symm).symm
  ·rcases ho' with ho' | ho'
   ·have := Nat.eq_of_beq_eq_true ho'; subst this
    exact key o ho e
   ·exact injB_spec h2 o o' ho ho' e
theorem sat_weak {P₀ : Program} {ns : Nat} {C : Ctx P₀ ns} {s s' : AS} {a : Act} {w : World} {hp0 : Heap} (g : Nat → Nat) (hb : ∀ o, hp0.get o = none → C.base o = none) (hE : RenEnv g s.env s'.env) (hH : RenHp g s.hp s'.hp)
  (hd : s'.dfs = s.dfs) (hc : weakB g hp0 s' = true) (h : Sat C s a w) : Sat C s' a w := by
 obtain ⟨F, μ, h⟩ := h
 simp only [weakB, Bool.and_eq_true, List.all_eq_true] at hc
 obtain ⟨⟨⟨⟨c1, c2⟩, c3⟩, c4⟩, c5⟩ := hc
 let μ' : Mu := fun o => if s'.hp.has o = true then μ (g o) else none
 have hm : ∀ o, s'.hp.get o ≠ none → ∀ p, μ (g o) = some p → μ' o = some p := fun o ho p hp => by
  show (if s'.hp.has o = true then μ (g o) else none) = some p
  rw [if_pos (heap_has.2 ho)]; exact hp
 have hm' : ∀ o p, μ' o = some p → s'.hp.has o = true ∧ μ (g o) = some p := fun o p hp => by
  have hp : (if s'.hp.has o = true then μ (g o) else none) = some p := hp
  split at hp
  ·exact ⟨by assumption, hp⟩
  ·cases hp
 refine ⟨F, μ', ⟨h.inv.fro, fun o c hc => ?_, fun o o' b ba t ba' t' c c' h1 h2 h3 h4 h5 h6 => ?_, fun o ho => ?_⟩, fun t x hx => ?_, h.size, ?_, h.fr, h.f0, fun o p hp => ?_, h.globs, h.fm⟩
 ·obtain ⟨hmem, hold⟩ := renHp_get hH o c hc
  have hne : s'.hp.get o ≠ none := by rw [hc]; simp
  have := h.inv.obj (g o) _ hold
  cases c with
  | av x =>
   have hrx : x.refsIn s'.hp = true := c2 _ hmem
   rcases this with ⟨k1, k2, k3⟩ | ⟨b, base, tot, e, cs, k1, k2, k3, k4, k5, k6, k7⟩
   ·exact .inl ⟨hm o hne _ k1, by rw [← size_ren g x]; exact k2, ra_ren hm k3 hrx⟩
   ·exact .inr ⟨b, base, tot, e, cs, hm o hne _ k1, k2, k3, k4, k5, by rw [← size_ren g x]; exact k6, ra_ren hm (by rw [← size_ren g x]; exact k7) hrx⟩
  | raw ob => obtain ⟨b, base, tot, k1, k2⟩ := this; exact ⟨b, base, tot, hm o hne _ k1, k2⟩
  | dead => obtain ⟨p, hp⟩ := this; exact ⟨p, hm o hne _ hp⟩
 ·obtain ⟨m1, e1⟩ := hm' _ _ h5
  obtain ⟨m2, e2⟩ := hm' _ _ h6
  obtain ⟨_, g1⟩ := renHp_get hH o c h1
  obtain ⟨_, g2⟩ := renHp_get hH o' c' h2
  refine injB_spec c3 o o' m1 m2 (h.inv.apart (g o) (g o') b ba t ba' t' _ _ g1 g2 ?_ ?_ e1 e2)
  ·cases c <;> simp_all [HO.ren]
  ·cases c' <;> simp_all [HO.ren]
 ·show (if s'.hp.has o = true then μ (g o) else none) = none
  have : ¬ s'.hp.has o = true := fun e => heap_has.1 e ho
  rw [if_neg this]
 ·obtain ⟨hmem, hold⟩ := renEnv_get hE t x hx
  exact rv_ren hm (h.env t _ hold) (c1 _ hmem)
 ·have key : ∀ (os : List Nat) (l : List Deferred), (∀ o ∈ os, s'.hp.has o = true ∧ Nat.beq (g o) o = true) → DfsOk μ os l → DfsOk μ' os l := by
   intro os
   induction os with
   | nil => intro l _ h; exact h
   | cons o os ih =>
    intro l hall h
    obtain ⟨b, base, tot, l', h1, h2, h3⟩ := h
    obtain ⟨q1, q2⟩ := hall o (by simp)
    exact ⟨b, base, tot, l', hm o (heap_has.1 q1) _ (by rw [Nat.eq_of_beq_eq_true q2]; exact h1), h2, ih l' (fun x hx => hall x (by simp [hx])) h3⟩
  exact key _ _ c5 (by rw [hd]; exact h.dfs)
 ·have hne : hp0.get o ≠ none := fun e => by rw [hb o e] at hp; cases hp
  have hmem := get_mem hne
  obtain ⟨q, hq, rfl⟩ := List.mem_map.1 hmem
  have := c4 q hq
  have hg := Nat.eq_of_beq_eq_true this.2
  show (if s'.hp.has q.1 = true then μ (g q.1) else none) = some p
  rw [if_pos this.1, hg]; exact h.base _ _ hp
theorem aw_weak {P₀ : Program} {ns : Nat} {C : Ctx P₀ ns} {s s' : AS} {c : Code} {Q : Exit → Act → World → Prop} {hp0 : Heap} (g : Nat → Nat) (hb : ∀ o, hp0.get o = none → C.base o = none) (hE : RenEnv g s.env s'.env) (hH : RenHp g s.hp s'.hp)
  (hd : s'.dfs = s.dfs) (hc : weakB g hp0 s' = true) (h : AW C c Q s') : AW C c Q s := fun a w hs => h a w (sat_weak g hb hE hH hd hc hs)
theorem aq_weak {P₀ : Program} {ns : Nat} {C : Ctx P₀ ns} {s s' : AS} {e : Exit} {Q : Exit → Act → World → Prop} {hp0 : Heap} (g : Nat → Nat) (hb : ∀ o, hp0.get o = none → C.base o = none) (hE : RenEnv g s.env s'.env) (hH : RenHp g s.hp s'.hp)
  (hd : s'.dfs = s.dfs) (hc : weakB g hp0 s' = true) (h : AQ C Q e s') : AQ C Q e s := fun a w hs => h a w (sat_weak g hb hE hH hd hc hs)
def ACallF (P : Program) (gs : List (Nat × D)) (f : FuncId) (args : List AV) (hr : List (Nat × HO)) (hn : List Nat) (r : AV) (hw : Heap) : Prop :=
 ∀ hp, HeapHas hp hr → HeapNo hp hn → ACall P gs f args hp (fun r' hp' => r' = r ∧ hp' = hw ++ hp)
theorem acall_globs {P gs f args hp K} (h : ACall P [] f args hp K) : ACall P gs f args hp K :=
 fun F μ may w vs h1 h2 _ h4 h5 => h F μ may w vs h1 h2 (fun _ _ h => by cases h) h4 h5
theorem ren_id_get (N : Nat) : ∀ (h : Heap) (k : Nat), Heap.get (h.map fun p => (N + p.1, p.2.ren (N + ·))) (N + k) = (h.get k).map (·.ren (N + ·))
 | [], k => rfl
 | (i, c) :: h, k => by
  rw [List.map_cons, heap_get_cons, heap_get_cons]
  by_cases e : i = k
  ·subst e; simp
  ·rw [if_neg (by omega), if_neg e]; exact ren_id_get N h k
theorem ren_id_lt (N : Nat) : ∀ (h : Heap) (k : Nat), k < N → Heap.get (h.map fun p => (N + p.1, p.2.ren (N + ·))) k = none
 | [], k, _ => rfl
 | (i, c) :: h, k, hk => by
  rw [List.map_cons, heap_get_cons, if_neg (by omega)]; exact ren_id_lt N h k hk
mutual
theorem ra_shift {F : Nat → Prop} {μ μ' : Mu} {w : World} {N : Nat} (hm : ∀ o p, μ o = some p → μ' (N + o) = some p) : ∀ {x : AV} {cs : List Value}, RA F μ w x cs → RA F μ' w (x.ren (N + ·)) cs
 | .d x, cs, hr => by simp only [AV.ren, RA] at *; exact hr
 | .st xs, cs, hr => by simp only [AV.ren, RA] at *; exact ras_shift hm hr
 | .ptr o off p, cs, hr => by simp only [AV.ren, RA] at *; obtain ⟨b, base, tot, h1, h2⟩ := hr; exact ⟨b, base, tot, hm _ _ h1, h2⟩
 | .slc o off len sz, cs, hr => by
  simp only [AV.ren, RA] at *
  rcases hr with ⟨⟨p, h1⟩, h2⟩ | ⟨b, base, tot, cap, h1, h2⟩
  ·exact .inl ⟨⟨p, hm _ _ h1⟩, h2⟩
  ·exact .inr ⟨b, base, tot, cap, hm _ _ h1, h2⟩
 | .fn f first caps, cs, hr => by simp only [AV.ren, RA] at *; obtain ⟨fs, vs, h0, h1, h2⟩ := hr; exact ⟨fs, vs, h0, rac_shift hm h1, rac_shift hm h2⟩
 | .pref x, cs, hr => by simp only [AV.ren, RA] at *; exact hr
 | .res xs, cs, hr => by simp only [RA] at hr
 | .yld o, cs, hr => by simp only [AV.ren, RA] at *; obtain ⟨b, base, tot, h1, h2⟩ := hr; exact ⟨b, base, tot, hm _ _ h1, h2⟩
 | .junk, cs, hr => by simp only [RA] at hr
theorem ras_shift {F : Nat → Prop} {μ μ' : Mu} {w : World} {N : Nat} (hm : ∀ o p, μ o = some p → μ' (N + o) = some p) : ∀ {xs : List AV} {cs : List Value}, RAs F μ w xs cs → RAs F μ' w (rens (N + ·) xs) cs
 | [], cs, hr => hr
 | x :: xs, cs, hr => by simp only [rens, RAs] at *; obtain ⟨c1, c2, h0, h1, h2⟩ := hr; exact ⟨c1, c2, h0, ra_shift hm h1, ras_shift hm h2⟩
theorem rac_shift {F : Nat → Prop} {μ μ' : Mu} {w : World} {N : Nat} (hm : ∀ o p, μ o = some p → μ' (N + o) = some p) : ∀ {xs : List AV} {vs : List Value}, RAc F μ w xs vs → RAc F μ' w (rens (N + ·) xs) vs
 | [], vs, hr => hr
 | x :: xs, vs, hr => by simp only [rens, RAc] at *; obtain ⟨v, vs', h0, h1, h2, h3⟩ := hr; exact ⟨v, vs', h0, ra_shift hm h1, by rw [h2, isAgg_ren], rac_shift hm h3⟩
end
theorem rv_shift {F : Nat → Prop} {μ μ' : Mu} {w : World} {N : Nat} (hm : ∀ o p, μ o = some p → μ' (N + o) = some p) {x : AV} {v : Value} (hr : RV F μ w x v) : RV F μ' w (x.ren (N + ·)) v := by
 cases x with
 | res xs => obtain ⟨vs, h1, h2⟩ := hr; exact ⟨vs, h1, rac_shift hm h2⟩
 | junk => trivial
 | _ => exact ⟨ra_shift hm hr.1, by rw [hr.2]; exact (isAgg_ren _ _).symm⟩
mutual
def AV.pure : AV → Bool
 | .d _ => true
 | .st xs => pures xs
 | .fn _ first caps => pures first && pures caps
 | .pref _ => true
 | .res xs => pures xs
 | _ => false
def pures : List AV → Bool
 | [] => true
 | x :: xs => x.pure && pures xs
end
mutual
theorem ra_pure {F : Nat → Prop} {μ μ' : Mu} {w : World} : ∀ {x : AV} {cs : List Value}, RA F μ w x cs → x.pure = true → RA F μ' w x cs
 | .d x, cs, hr, _ => by simp only [RA] at *; exact hr
 | .st xs, cs, hr, hx => by simp only [RA, AV.pure] at *; exact ras_pure hr hx
 | .ptr .., cs, hr, hx => by simp [AV.pure] at hx
 | .slc .., cs, hr, hx => by simp [AV.pure] at hx
 | .fn f first caps, cs, hr, hx => by simp only [RA, AV.pure, Bool.and_eq_true] at *; obtain ⟨fs, vs, h0, h1, h2⟩ := hr; exact ⟨fs, vs, h0, rac_pure h1 hx.1, rac_pure h2 hx.2⟩
 | .pref x, cs, hr, _ => by simp only [RA] at *; exact hr
 | .res xs, cs, hr, _ => by simp only [RA] at hr
 | .yld _, cs, hr, hx => by simp [AV.pure] at hx
 | .junk, cs, hr, _ => by simp only [RA] at hr
theorem ras_pure {F : Nat → Prop} {μ μ' : Mu} {w : World} : ∀ {xs : List AV} {cs : List Value}, RAs F μ w xs cs → pures xs = true → RAs F μ' w xs cs
 | [], cs, hr, _ => hr
 | x :: xs, cs, hr, hx => by simp only [RAs, pures, Bool.and_eq_true] at *; obtain ⟨c1, c2, h0, h1, h2⟩ := hr; exact ⟨c1, c2, h0, ra_pure h1 hx.1, ras_pure h2 hx.2⟩
theorem rac_pure {F : Nat → Prop} {μ μ' : Mu} {w : World} : ∀ {xs : List AV} {vs : List Value}, RAc F μ w xs vs → pures xs = true → RAc F μ' w xs vs
 | [], vs, hr, _ => hr
 | x :: xs, vs, hr, hx => by simp only [RAc, pures, Bool.and_eq_true] at *; obtain ⟨v, vs', h0, h1, h2, h3⟩ := hr; exact ⟨v, vs', h0, ra_pure h1 hx.1, h2, rac_pure h3 hx.2⟩
end
theorem acallF_closed {P : Program} {gs : List (Nat × D)} {f : FuncId} {args : List AV} {r : AV} {hp0 : Heap} (N : Nat) (hp1 : pures args = true) (h : ACall P gs f args [] (fun r' hp' => r' = r ∧ hp' = hp0)) :
  ACallF P gs f args [] (hp0.map fun p => N + p.1) (r.ren (N + ·)) (hp0.map fun p => (N + p.1, p.2.ren (N + ·))) := by
 intro hp _ hno F μ may w vs hinv hargs hgl hnew hap
 have hno := heapNo_iff.1 hno
 have hFlt : ∀ b, F b → b < w.heap.size := fun b hb => by obtain ⟨c, hc⟩ := hinv.fro b hb; exact blk_lt hc
 refine (h F (fun _ => none) (fun b => w.heap.size ≤ b) w vs ⟨hinv.fro, fun o c hc => by simp [Heap.get] at hc, fun o o' b ba t ba' t' c c' h1 => by simp [Heap.get] at h1, fun _ _ => rfl⟩ (rac_pure hargs hp1) hgl (fun _ h => h)
  (fun b hb hle => by have := hFlt b hb; omega)).mono ?_
 rintro e w' ⟨v, r', hp', F', μ', rfl, ⟨rfl, rfl⟩, hext, hF', hinv', hrv, hfr⟩
 let μ'' : Mu := fun o => match Heap.get (hp'.map fun p => (N + p.1, p.2.ren (N + ·))) o with | some _ => μ' (o - N) | none => μ o
 have hold : ∀ o, hp.get o ≠ none → Heap.get (hp'.map fun p => (N + p.1, p.2.ren (N + ·))) o = none := fun o ho => by
  cases hg : Heap.get (hp'.map fun p => (N + p.1, p.2.ren (N + ·))) o with
  | none => rfl
  | some c =>
   exfalso
   have hm := get_mem (h := hp'.map fun p => (N + p.1, p.2.ren (N + ·))) (o := o) (by rw [hg]; simp)
   simp only [List.map_map] at hm
   obtain ⟨p, hp1, hp2⟩ := List.mem_map.1 hm
   simp only [Function.comp] at hp2
   exact ho (by have := hno (N + p.1) (List.mem_map.2 ⟨p, hp1, rfl⟩); rw [hp2] at this; exact this)
 have hmu : ∀ o p, μ o = some p → μ'' o = some p := fun o p ho => by
  have hne : hp.get o ≠ none := fun e => by rw [hinv.dom o e] at ho; cases ho
  show (match Heap.get (hp'.map fun p => (N + p.1, p.2.ren (N + ·))) o with | some _ => μ' (o - N) | none => μ o) = some p
  rw [hold o hne]; exact ho
 have hmu' : ∀ o p, μ' o = some p → μ'' (N + o) = some p := fun o p ho => by
  have hne : hp'.get o ≠ none := fun e => by rw [hinv'.dom o e] at ho; cases ho
  show (match Heap.get (hp'.map fun p => (N + p.1, p.2.ren (N + ·))) (N + o) with | some _ => μ' (N + o - N) | none => μ (N + o)) = some p
  rw [ren_id_get]
  cases hg : hp'.get o with
  | none => exact absurd hg hne
  | some c => simp only [Option.map_some]; rw [Nat.add_sub_cancel_left]; exact ho
 have hkeep : ∀ b, b < w.heap.size → w'.heap[b]? = w.heap[b]? := fun b hb => hfr.block b (by omega)
 have hext2 : Ext F μ w F' μ'' w' := ⟨hext.fro, hext.kept, hmu⟩
 have split : ∀ o c, Heap.get ((hp'.map fun p => (N + p.1, p.2.ren (N + ·))) ++ hp) o = some c →
   (∃ k c0, o = N + k ∧ hp'.get k = some c0 ∧ c = c0.ren (N + ·)) ∨ (hp.get o = some c ∧ Heap.get (hp'.map fun p => (N + p.1, p.2.ren (N + ·))) o = none) := fun o c hc => by
  rw [heap_get_append] at hc
  cases hg : Heap.get (hp'.map fun p => (N + p.1, p.2.ren (N + ·))) o with
  | some c1 =>
   rw [hg] at hc; simp at hc; subst hc
   by_cases hlt : o < N
   ·rw [ren_id_lt N hp' o hlt] at hg; cases hg
   ·refine .inl ⟨o - N, ?_⟩
    have e : o = N + (o - N) := by omega
    rw [e, ren_id_get] at hg
    cases hk : hp'.get (o - N) with
    | none => rw [hk] at hg; cases hg
    | some c0 => rw [hk] at hg; simp at hg; exact ⟨c0, by omega, rfl, hg.symm⟩
  | none => rw [hg] at hc; simp at hc; exact .inr ⟨hc, rfl⟩
 have bnew : ∀ k c0 b ba t, hp'.get k = some c0 → c0 ≠ .dead → μ' k = some (.at b ba t) → w.heap.size ≤ b := fun k c0 b ba t hk hd hm => by
  have := hinv'.obj k c0 hk
  cases c0 with
  | av x =>
   rcases this with ⟨k1, _⟩ | ⟨b1, ba1, t1, e, cs, k1, k2, k3, _⟩
   ·rw [hm] at k1; cases k1
   ·rw [hm] at k1; cases k1; exact k3
  | raw ob => obtain ⟨b1, ba1, t1, k1, k2, k3, _⟩ := this; rw [hm] at k1; cases k1; exact k3
  | dead => exact absurd rfl hd
 have bold : ∀ k c0 b ba t, hp.get k = some c0 → c0 ≠ .dead → μ k = some (.at b ba t) → b < w.heap.size := fun k c0 b ba t hk hd hm => by
  have := hinv.obj k c0 hk
  cases c0 with
  | av x =>
   rcases this with ⟨k1, _⟩ | ⟨b1, ba1, t1, e, cs, k1, k2, k3, k4, _⟩
   ·rw [hm] at k1; cases k1
   ·rw [hm] at k1; cases k1; exact (Array.getElem?_eq_some_iff.1 k4).1
  | raw ob => obtain ⟨b1, ba1, t1, k1, k2, k3, k4⟩ := this; rw [hm] at k1; cases k1; exact (Array.getElem?_eq_some_iff.1 k4).1
  | dead => exact absurd rfl hd
 have mu1 : ∀ k, hp'.get k ≠ none → μ'' (N + k) = μ' k := fun k hk => by
  show (match Heap.get (hp'.map fun p => (N + p.1, p.2.ren (N + ·))) (N + k) with | some _ => μ' (N + k - N) | none => μ (N + k)) = μ' k
  rw [ren_id_get]
  cases hg : hp'.get k with
  | none => exact absurd hg hk
  | some c => simp only [Option.map_some]; rw [Nat.add_sub_cancel_left]
 have mu2 : ∀ o, Heap.get (hp'.map fun p => (N + p.1, p.2.ren (N + ·))) o = none → μ'' o = μ o := fun o ho => by
  show (match Heap.get (hp'.map fun p => (N + p.1, p.2.ren (N + ·))) o with | some _ => μ' (o - N) | none => μ o) = μ o
  rw [ho]
 have notF : ∀ b, ¬ F b → b < w.heap.size → ¬ F' b := fun b h1 h2 h3 => by
  rcases hF' b h3 with h | h
  ·exact h1 h
  ·omega
 refine ⟨v, _, _, F', μ'', rfl, ⟨rfl, rfl⟩, hext2, fun b hb => (hF' b hb).imp id (hnew b), ⟨hinv'.fro, fun o c hc => ?_, fun o o' b ba t ba' t' c c' h1 h2 h3 h4 h5 h6 => ?_, fun o ho => ?_⟩, rv_shift hmu' hrv, hfr.weak hnew⟩
 ·rcases split o c hc with ⟨k, c0, rfl, hk, rfl⟩ | ⟨hk, hn⟩
  ·have := hinv'.obj k c0 hk
   have e := mu1 k (by rw [hk]; simp)
   cases c0 with
   | av x =>
    rcases this with ⟨k1, k2, k3⟩ | ⟨b, ba, t, e', cs, k1, k2, k3, k4, k5, k6, k7⟩
    ·exact .inl ⟨by rw [e]; exact k1, by rw [size_ren]; exact k2, ra_shift hmu' k3⟩
    ·exact .inr ⟨b, ba, t, e', cs, by rw [e]; exact k1, k2, hnew _ k3, k4, k5, by rw [size_ren]; exact k6, by rw [size_ren]; exact ra_shift hmu' k7⟩
   | raw ob => obtain ⟨b, ba, t, k1, k2, k3, k4⟩ := this; exact ⟨b, ba, t, by rw [e]; exact k1, k2, hnew _ k3, k4⟩
   | dead => obtain ⟨p, hp⟩ := this; exact ⟨p, by rw [e]; exact hp⟩
  ·have := hinv.obj o c hk
   have e := mu2 o hn
   cases c with
   | av x =>
    rcases this with ⟨k1, k2, k3⟩ | ⟨b, ba, t, e', cs, k1, k2, k3, k4, k5, k6, k7⟩
    ·exact .inl ⟨by rw [e]; exact k1, k2, ra_mono hext2 k3⟩
    ·have hlt := (Array.getElem?_eq_some_iff.1 k4).1
     exact .inr ⟨b, ba, t, e', cs, by rw [e]; exact k1, notF b k2 hlt, k3, by rw [hkeep b hlt]; exact k4, k5, k6, ra_mono hext2 k7⟩
   | raw ob =>
    obtain ⟨b, ba, t, k1, k2, k3, k4⟩ := this
    have hlt := (Array.getElem?_eq_some_iff.1 k4).1
    exact ⟨b, ba, t, by rw [e]; exact k1, notF b k2 hlt, k3, by rw [hkeep b hlt]; exact k4⟩
   | dead => obtain ⟨p, hp⟩ := this; exact ⟨p, by rw [e]; exact hp⟩
 ·rcases split o c h1 with ⟨k, c0, rfl, hk, rfl⟩ | ⟨hk, hn⟩
  ·have d0 : c0 ≠ .dead := fun e => h3 (by rw [e]; rfl)
   rw [mu1 k (by rw [hk]; simp)] at h5
   have hb := bnew k c0 b ba t hk d0 h5
   rcases split o' c' h2 with ⟨k', c0', rfl, hk', rfl⟩ | ⟨hk', hn'⟩
   ·have d0' : c0' ≠ .dead := fun e => h4 (by rw [e]; rfl)
    rw [mu1 k' (by rw [hk']; simp)] at h6
    rw [hinv'.apart k k' b ba t ba' t' c0 c0' hk hk' d0 d0' h5 h6]
   ·rw [mu2 o' hn'] at h6
    have := bold o' c' b ba' t' hk' h4 h6
    omega
  ·rw [mu2 o hn] at h5
   have hb := bold o c b ba t hk h3 h5
   rcases split o' c' h2 with ⟨k', c0', rfl, hk', rfl⟩ | ⟨hk', hn'⟩
   ·have d0' : c0' ≠ .dead := fun e => h4 (by rw [e]; rfl)
    rw [mu1 k' (by rw [hk']; simp)] at h6
    have := bnew k' c0' b ba' t' hk' d0' h6
    omega
   ·rw [mu2 o' hn'] at h6
    exact hinv.apart o o' b ba t ba' t' c c' hk hk' h3 h4 h5 h6
 ·rw [heap_get_append] at ho
  cases hg : Heap.get (hp'.map fun p => (N + p.1, p.2.ren (N + ·))) o with
  | some c => rw [hg] at ho; cases ho
  | none => rw [mu2 o hg]; rw [hg] at ho; exact hinv.dom o (by simpa using ho)
def enterB (P : Program) (f : FuncId) : Bool := match P.funcs[f]? with | some fn => !(fn.name == "runtime.NumGoroutine") && fn.body.isSome | none => false
theorem run_callFunc {P f args} {w : World} (h : enterB P f = true) : (callFunc f args).run P w = .ok (.enter f args) w := by
 unfold enterB at h
 cases hf : P.funcs[f]? with
 | none => simp [hf] at h
 | some fn =>
  simp only [hf, Bool.and_eq_true] at h
  obtain ⟨h1, h2⟩ := h
  have h1' : (fn.name == "runtime.NumGoroutine") = false := by simpa using h1
  have h2' : fn.body.isNone = false := by cases hb : fn.body <;> simp_all
  simp only [callFunc, program, Sem.run_bind, Sem.run, Result.andThen_ok, hf, h1', h2', Bool.false_eq_true, if_false, Sem.run_pure]
theorem rac_evals {P₀ : Program} {ns : Nat} {C : Ctx P₀ ns} {s : AS} {a : Act} {w : World} {F μ} (hs : SatW C s a w F μ) : ∀ {as : List Operand} {xs : List AV}, as.length = xs.length → EnvHas C s.env (as.zip xs) → (xs.all AV.mem) = true → RAc F μ w xs (as.map a.eval)
 | [], [], _, _, _ => rfl
 | o :: as, x :: xs, hl, he, hm => by
  simp only [List.zip_cons_cons] at he
  simp only [List.all_cons, Bool.and_eq_true] at hm
  cases he with
  | cons h1 h2 =>
   obtain ⟨r1, r2⟩ := rv_mem (evalE_ok hs h1) hm.1
   exact ⟨a.eval o, as.map a.eval, rfl, r1, r2, rac_evals hs (by simpa using hl) h2 hm.2⟩
 | [], _ :: _, hl, _, _ => by simp at hl
 | _ :: _, [], hl, _, _ => by simp at hl
theorem callsIn_fence {P₀ : Program} {ns : Nat} {C : Ctx P₀ ns} {n f args w R} (h : CallsIn Fence.wide n C.P f args w R) : CallsIn C.fence n C.P f args w R := by
 unfold Ctx.fence
 cases C.round with
 | none => exact h
 | some l => exact CallsIn.inRound l h
section
variable {P₀ : Program} {ns : Nat} {C : Ctx P₀ ns} {ops : Array Oper} {d ty : Nat} {ps : String} {af : Array Edge} {gd : Option (Nat × Bool)} {x y : Operand} {u v : AV}
theorem upon_call {s : AS} {a : Act} {w : World} {F μ} {f : FuncId} {vs : List Value} {o : Oper} {nx : Act → World → Prop} {Q : Exit → Act → World → Prop} {K : AV → Heap → Prop} (hs : SatW C s a w F μ)
  (h : CallsIn Fence.wide 0 C.P f vs.toArray w (Post K F μ (fun b => C.may b ∧ ¬ F b) w))
  (k : ∀ v r hp' F' μ' w', K r hp' → SatW C ⟨s.env, hp', s.dfs⟩ a w' F' μ' → RV F' μ' w' r v → nx (a.put o.dst v) w') :
  o.uponIn C.fence 0 C.P a nx Q (.ok (.enter f vs.toArray) w) := by
 rw [Oper.uponIn_enter]
 refine ⟨(fun h => by rw [C.fence_depth] at h; cases h), callsIn_fence (h.mono ?_)⟩
 rintro e w' ⟨v, r, hp', F', μ', rfl, hK, hext, hF', hinv, hrv, hfr⟩
 refine k v r hp' F' μ' w' hK ⟨⟨hinv.fro, fun o c hc => ?_, hinv.apart, hinv.dom⟩, envOk_mono hext hs.env, hs.size, dfsOk_mono hext.mu hs.dfs, hs.fr.trans (hfr.weak fun b h => h.1), fun b hb => hext.fro b (hs.f0 b hb), fun o p hp => hext.mu o p (hs.base o p hp), globs_mono hext.fro hext.kept hs.globs, fun b hb => by
  rcases hF' b hb with h | h
  ·exact hs.fm b h
  ·exact .inr h.1⟩ hrv
 have := hinv.obj o c hc
 cases c with
 | av x =>
  rcases this with h | ⟨b, ba, t, e, cs, k1, k2, k3, k4⟩
  ·exact .inl h
  ·exact .inr ⟨b, ba, t, e, cs, k1, k2, k3.1, k4⟩
 | raw ob => obtain ⟨b, ba, t, k1, k2, k3, k4⟩ := this; exact ⟨b, ba, t, k1, k2, k3.1, k4⟩
 | dead => exact this
theorem inv_may {F μ may may' hp w} (h : Inv F μ may hp w) (hm : ∀ b, may b → ¬ F b → may' b) : Inv F μ may' hp w :=
 ⟨h.fro, fun o c hc => by
  have := h.obj o c hc
  cases c with
  | av x =>
   rcases this with h | ⟨b, ba, t, e, cs, k1, k2, k3, k4⟩
   ·exact .inl h
   ·exact .inr ⟨b, ba, t, e, cs, k1, k2, hm b k3 k2, k4⟩
  | raw ob => obtain ⟨b, ba, t, k1, k2, k3, k4⟩ := this; exact ⟨b, ba, t, k1, k2, hm b k3 k2, k4⟩
  | dead => exact this, h.apart, h.dom⟩
theorem f_call {f : FuncId} {as : Array Operand} {ats : Array TypeId} {xs : List AV} {hr : List (Nat × HO)} {hn : List Nat} {r : AV} {hw : Heap} (hlt : Nat.blt d C.n = true) (hf : enterB C.P f = true)
  (hl : as.toList.length = xs.length) (hm : (xs.all AV.mem) = true) (hA : ACallF C.P C.globs f xs hr hn r hw) :
  Fact C ⟨some d, .call ⟨.value (.func f), as, ats⟩, ty, ps, af, gd⟩ { er := as.toList.zip xs, hr := hr, hn := hn, d := some (d, r), hw := hw } := by
 intro s hp a w nx Q hs k
 obtain ⟨F, μ, hs⟩ := hs
 refine ⟨fun f _ => C.fence_fn f, ?_⟩
 rw [Oper.semAt_eq _ _ _ (by intro c h; cases h)]
 have hargs := rac_evals hs hl hp.er hm
 have hFlt : ∀ b, F b → b < w.heap.size := fun b hb => by obtain ⟨c, hc⟩ := hs.inv.fro b hb; exact blk_lt hc
 have hcall := hA s.hp hp.hr hp.hn F μ (fun b => C.may b ∧ ¬ F b) w (as.toList.map a.eval) (inv_may hs.inv fun b h1 h2 => ⟨h1, h2⟩) hargs hs.globs
  (fun b hb => ⟨C.new b (Nat.le_trans hs.fr.size hb), fun hF => by have := hFlt b hF; omega⟩) (fun b hb h => h.2 hb)
 have hrun : (execOp a.eval ⟨some d, .call ⟨.value (.func f), as, ats⟩, ty, ps, af, gd⟩).run C.P w = .ok (.enter f (as.toList.map a.eval).toArray) w := by
  have e : (as.toList.map a.eval).toArray = as.map a.eval := by rw [← Array.toList_map]
  simp only [execOp, resolve, Act.eval, Deferred.ofValue, Sem.run_bind, Sem.run_pure, Result.andThen_ok, invoke]
  rw [run_callFunc hf, e]; simp
 rw [hrun]
 refine upon_call hs hcall fun v r' hp' F' μ' w' hK hs' hrv => ?_
 obtain ⟨rfl, rfl⟩ := hK
 exact k _ _ ⟨F', μ', sat_put hs' (by simpa [Nat.blt_eq] using hlt) hrv⟩
end
inductive ResV {P₀ : Program} {ns : Nat} (C : Ctx P₀ ns) (s : AS) : List ResultVar → List AV → Prop
 | nil : ResV C s [] []
 | tmp {t : Nat} {x : AV} {rs : List ResultVar} {xs : List AV} (h : s.env.get t = some x) (hm : x.mem = true) (k : ResV C s rs xs) : ResV C s (.tmp t :: rs) (x :: xs)
 | cell {t ty : Nat} {o : Nat} {x : AV} {rs : List ResultVar} {xs : List AV} (h : s.env.get t = some (.ptr o 0 [])) (ho : s.hp.get o = some (.av x)) (ht : tyB C.P ty = some (x.isAgg, x.size)) (hm : x.mem = true)
   (k : ResV C s rs xs) : ResV C s (.cell t ty :: rs) (x :: xs)
def retA : List AV → AV
 | [x] => x
 | xs => .res xs
def resOf (tmps : Array Value) : ResultVar → Sem Value
 | .tmp t => Pure.pure (tmps.getD t undef)
 | .cell c t => do loadVar t (← asAddr (tmps.getD c undef))
theorem results_eq (fn : Func) (tmps : Array Value) : results fn tmps = (do
  let vs ← fn.results.mapM (resOf tmps)
  Pure.pure (if h : vs.size = 1 then vs[0] else .tuple vs)) := by
 unfold results
 congr 1
theorem resV_run {P₀ : Program} {ns : Nat} {C : Ctx P₀ ns} {s : AS} {a : Act} {w : World} {F μ} (hs : SatW C s a w F μ) {rs : List ResultVar} {xs : List AV} (h : ResV C s rs xs) :
  ∃ vs, (rs.mapM (resOf a.tmps)).run C.P w = .ok vs w ∧ RAc F μ w xs vs := by
 induction h with
 | nil => exact ⟨[], rfl, rfl⟩
 | @tmp t x rs xs h hm k ih =>
  obtain ⟨vs, h1, h2⟩ := ih
  obtain ⟨r1, r2⟩ := rv_mem (hs.env t x h) hm
  refine ⟨a.tmps.getD t undef :: vs, ?_, ⟨_, _, rfl, r1, r2, h2⟩⟩
  rw [List.mapM_cons]
  simp only [resOf, Sem.run_bind, Sem.run_pure, Result.andThen_ok, h1]
 | @cell t ty o x rs xs h ho ht hm k ih =>
  obtain ⟨vs, h1, h2⟩ := ih
  obtain ⟨b, base, tot, hm', hv⟩ := rv_ptr (hs.env t _ h)
  rcases hs.inv.obj o _ ho with ⟨k1, k2, k3⟩ | ⟨b', base', tot', e, cs, k1, k2, k3, k4, k5, k6, k7⟩
  ·rw [hm'] at k1; cases k1
  ·rw [hm'] at k1; cases k1
   have hrun := run_loadVar (P := C.P) ht (blk_of k4) (off := base) (by simp; omega) (fun hz => by have := ra_length k7; obtain ⟨v, e1, _⟩ := ra_single k7 hz; rw [e1] at this; simpa using this.symm)
   have hp := rv_pack k7
   obtain ⟨r1, r2⟩ := rv_mem hp hm
   refine ⟨_ :: vs, ?_, ⟨_, _, rfl, r1, r2, h2⟩⟩
   rw [List.mapM_cons]
   simp only [resOf, Sem.run_bind, hv, asAddr, Sem.run_pure, Result.andThen_ok, Nat.add_zero, hrun, h1]
theorem mapM_toList {α β : Type} (f : α → Sem β) (xs : Array α) (P : Program) (w w' : World) (vs : List β) (h : (xs.toList.mapM f).run P w = .ok vs w') : (xs.mapM f).run P w = .ok vs.toArray w' := by
 rw [Array.mapM_eq_mapM_toList]
 simp [h]
theorem aq_fin {P₀ : Program} {ns : Nat} {C : Ctx P₀ ns} {s : AS} {fn : Func} {K : AV → Heap → Prop} {e : Exit} {xs : List AV} (he : e = .ret ∨ e = .normal) (hr : ResV C s fn.results.toList xs) (hd : s.dfs = []) (hk : K (retA xs) s.hp) : AQ C (Fin C fn K) e s := by
 intro a w hs
 obtain ⟨F, μ, hs⟩ := hs
 obtain ⟨vs, h1, h2⟩ := resV_run hs hr
 have hrun : (results fn a.tmps).run C.P w = .ok (if h : vs.toArray.size = 1 then vs.toArray[0] else .tuple vs.toArray) w := by
  rw [results_eq, Sem.run_bind, mapM_toList _ fn.results C.P w w vs h1]
  rfl
 have hpost : Post K C.F0 C.base C.may C.w0 (.returned (if h : vs.toArray.size = 1 then vs.toArray[0] else .tuple vs.toArray)) w := by
  refine ⟨_, retA xs, s.hp, F, μ, rfl, hk, ⟨hs.f0, hs.ext, hs.base⟩, fun b hb => ?_, hs.inv, ?_, hs.fr⟩
  ·exact hs.fm b hb
  ·have hl := rac_length h2
   match xs, vs, h2, hl with
   | [], [], h2, _ => exact ⟨[], rfl, rfl⟩
   | [x], [v], h2, _ =>
    obtain ⟨v', vs', e1, r1, r2, _⟩ := h2
    simp only [List.cons.injEq] at e1
    obtain ⟨rfl, _⟩ := e1
    simp only [retA]
    cases x with
    | res xs => simp only [RA] at r1
    | junk => simp only [RA] at r1
    | _ => exact ⟨r1, r2⟩
   | x :: y :: xs, u :: v :: vs, h2, _ => exact ⟨u :: v :: vs, by simp, h2⟩
 have hleave : LeavesInM Fence.wide 0 C.P fn a.tmps (Post K C.F0 C.base C.may C.w0) a.defers .returning w := by
  have hdf := hs.dfs
  rw [hd] at hdf
  rw [show a.defers = [] from hdf]
  exact ⟨_, hrun, hpost⟩
 rcases he with rfl | rfl <;> exact hleave
theorem aq_fin_pure {P₀ : Program} {ns : Nat} {C : Ctx P₀ ns} {s : AS} {fn : Func} {K : AV → Heap → Prop} {e : Exit} {xs : List AV} {hp0 : Heap} (hb : ∀ o, hp0.get o = none → C.base o = none) (h0 : hp0 = []) (he : e = .ret ∨ e = .normal) (hr : ResV C s fn.results.toList xs) (hx : pures xs = true) (hd : s.dfs = []) (hk : K (retA xs) []) : AQ C (Fin C fn K) e s := by
 intro a w hs
 obtain ⟨F, μ, hs⟩ := hs
 obtain ⟨vs, h1, h2⟩ := resV_run hs hr
 have hrun : (results fn a.tmps).run C.P w = .ok (if h : vs.toArray.size = 1 then vs.toArray[0] else .tuple vs.toArray) w := by
  rw [results_eq, Sem.run_bind, mapM_toList _ fn.results C.P w w vs h1]
  rfl
 have hpost : Post K C.F0 C.base C.may C.w0 (.returned (if h : vs.toArray.size = 1 then vs.toArray[0] else .tuple vs.toArray)) w := by
  refine ⟨_, retA xs, [], F, fun _ => none, rfl, hk, ⟨hs.f0, hs.ext, fun o p hp => by rw [hb o (by rw [h0]; rfl)] at hp; cases hp⟩, fun b hb => ?_, ⟨hs.inv.fro, fun o c hc => by simp [Heap.get] at hc, fun o o' b ba t ba' t' c c' h1 => by simp [Heap.get] at h1, fun _ _ => rfl⟩, ?_, hs.fr⟩
  ·exact hs.fm b hb
  ·have h2 : RAc F (fun _ => none) w xs vs := rac_pure h2 hx
   have hl := rac_length h2
   match xs, vs, h2, hl with
   | [], [], h2, _ => exact ⟨[], rfl, rfl⟩
   | [x], [v], h2, _ =>
    obtain ⟨v', vs', e1, r1, r2, _⟩ := h2
    simp only [List.cons.injEq] at e1
    obtain ⟨rfl, _⟩ := e1
    simp only [retA]
    cases x with
    | res xs => simp only [RA] at r1
    | junk => simp only [RA] at r1
    | _ => exact ⟨r1, r2⟩
   | x :: y :: xs, u :: v :: vs, h2, _ => exact ⟨u :: v :: vs, by simp, h2⟩
 have hleave : LeavesInM Fence.wide 0 C.P fn a.tmps (Post K C.F0 C.base C.may C.w0) a.defers .returning w := by
  have hdf := hs.dfs
  rw [hd] at hdf
  rw [show a.defers = [] from hdf]
  exact ⟨_, hrun, hpost⟩
 rcases he with rfl | rfl <;> exact hleave
mutual
theorem ren_id : ∀ x : AV, x.ren id = x
 | .d x => rfl
 | .st xs => by simp only [AV.ren, rens_id xs]
 | .ptr .. => rfl
 | .slc .. => rfl
 | .fn f a b => by simp only [AV.ren, rens_id a, rens_id b]
 | .pref _ => rfl
 | .res xs => by simp only [AV.ren, rens_id xs]
 | .yld _ => rfl
 | .junk => rfl
theorem rens_id : ∀ xs : List AV, rens id xs = xs
 | [] => rfl
 | x :: xs => by simp only [rens, ren_id x, rens_id xs]
end
theorem RenEnv.keep {e : Env} {t : Nat} {x : AV} {l : Env} (h : e.get t = some x) (k : RenEnv id e l) : RenEnv id e ((t, x) :: l) := .cons (by rw [ren_id]; exact h) k
theorem RenHp.keep {e : Heap} {t : Nat} {x : AV} {l : Heap} (h : e.get t = some (.av x)) (k : RenHp id e l) : RenHp id e ((t, .av x) :: l) := .cons (by show _ = some (HO.av (x.ren id)); rw [ren_id]; exact h) k
theorem RenHp.keepH {e : Heap} {t : Nat} {x : HO} {l : Heap} (h : e.get t = some x) (k : RenHp id e l) : RenHp id e ((t, x) :: l) := .cons (by
 show _ = some (HO.ren id x)
 rw [show HO.ren id x = x from by cases x <;> simp [HO.ren, ren_id]]; exact h) k
end Bd
