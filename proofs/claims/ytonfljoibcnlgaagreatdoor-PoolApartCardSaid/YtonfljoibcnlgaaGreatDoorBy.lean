import Derived.Test.YtonfljoibcnlgaaGreatDoorBx
namespace Bd
open Go
def fieldsQ (P : Program) (t : TypeId) : List (Nat × Nat × Bool) := (P.fieldsOf t).toList.map fun f => (f.type, f.offset, f.name == "_")
def fitQ (P : Program) (d : Nat) : List (Nat × Nat × Bool) → List D → Nat → Prop
 | (t, off, b) :: q, x :: xs, n => off = n ∧ b = false ∧ tyB P t = some (x.isAgg, x.size) ∧ Fits P d t x ∧ fitQ P d q xs (n + x.size)
 | [], [], _ => True
 | _, _, _ => False
theorem fitQ_get {P : Program} {d : Nat} : ∀ {l : List Field} {fs : List D} {n : Nat}, fitQ P d (l.map fun f => (f.type, f.offset, f.name == "_")) fs n →
  fs.length = l.length ∧ ∀ (i : Nat) (f : Field) (x : D), l[i]? = some f → fs[i]? = some x → f.offset = n + sizes (fs.take i) ∧ f.name ≠ "_" ∧ tyB P f.type = some (x.isAgg, x.size) ∧ Fits P d f.type x
 | [], [], n, _ => ⟨rfl, fun i f x h => by simp at h⟩
 | f :: l, x :: fs, n, h => by
  simp only [List.map_cons, fitQ] at h
  obtain ⟨h1, h2, h3, h4, h5⟩ := h
  obtain ⟨k1, k2⟩ := fitQ_get h5
  refine ⟨by simp [k1], fun i g y hg hy => ?_⟩
  cases i with
  | zero =>
   simp at hg hy; subst hg; subst hy
   exact ⟨by simp [sizes, h1], by simpa using h2, h3, h4⟩
  | succ i =>
   simp at hg hy
   obtain ⟨q1, q2⟩ := k2 i g y hg hy
   exact ⟨by rw [q1]; simp [sizes, Nat.add_assoc], q2⟩
 | [], _ :: _, n, h => by simp [fitQ] at h
 | _ :: _, [], n, h => by simp [fitQ] at h
theorem fits_st {P : Program} {d t : Nat} {q : List (Nat × Nat × Bool)} {fs : List D} (h : P.underlying t = some (.struct (P.fieldsOf t))) (hs : P.stoodInHeld t = false) (hq : fieldsQ P t = q) (hf : fitQ P d q fs 0) : Fits P (d + 1) t (.st fs) := by
 subst hq
 obtain ⟨h1, h2⟩ := fitQ_get hf
 exact .st h hs h1 (fun i f x hi hx => by have := h2 i f x hi hx; exact ⟨by rw [this.1, Nat.zero_add], this.2.1, this.2.2.1⟩) (fun i f x hi hx => (h2 i f x hi hx).2.2.2)
theorem ras_d {F : Nat → Prop} {μ : Mu} {w : World} : ∀ {ds : List D} {cs : List Value}, RepAll F w ds cs → RAs F μ w (ds.map .d) cs
 | [], cs, h => by simp only [RepAll] at h; simp only [List.map_nil, RAs]; exact h
 | x :: ds, cs, h => by
  simp only [RepAll] at h
  obtain ⟨c1, c2, rfl, h1, h2⟩ := h
  simp only [List.map_cons, RAs, RA]
  exact ⟨c1, c2, rfl, h1, ras_d h2⟩
theorem zero_st {P : Program} {t : TypeId} {ds : List D} (h : ∃ zv, zeroB P t = some zv ∧ ∀ F μ w, RA F μ w (.d (.st ds)) zv.cells.toList) : ∃ zv, zeroB P t = some zv ∧ ∀ F μ w, RA F μ w (.st (ds.map .d)) zv.cells.toList :=
 let ⟨zv, h1, h2⟩ := h
 ⟨zv, h1, fun F μ w => by have := h2 F μ w; simp only [RA, Rep] at this ⊢; exact ras_d this⟩
section
variable {P₀ : Program} {ns : Nat} {C : Ctx P₀ ns} {d ty : Nat} {ps : String} {af : Array Edge} {gd : Option (Nat × Bool)}
theorem srcW {y : Operand} {o sz n : Nat} {xs : List D} : Src C y sz xs [(y, .slc o 0 n sz)] [(o, .av (.d (.arr sz n xs)))] := fun s a w F μ hs he hh => by
 have hl : xs.length = n := by
  cases hh with
  | cons ho _ =>
   rcases hs.inv.obj o _ ho with ⟨_, _, k⟩ | ⟨b, base, tot, el, c, _, _, _, _, _, _, k⟩
   ·simp only [RA, Rep] at k; exact k.1
   ·simp only [RA, Rep] at k; exact k.1
 subst hl
 exact srcO (off := 0) (len := xs.length) (by omega) (by rw [List.drop_zero, List.take_of_length_le (Nat.le_refl _)]) s a w F μ hs he hh
theorem f_makeSE {t : TypeId} {l : Operand} {k : IntKind} {n : Int} {sz bts m : Nat} {z : D} {zs : List D} (o : Nat) (hlt : Nat.blt d C.n = true) (ht : elB C.P t = some (sz, bts)) (hz : zelB C.P t = some z.cells) (hf : z.flat = true) (h0 : 0 ≤ n) (hb : bts * n ≤ 140737488355328)
  (h63 : n ≤ 140737488355328) (hm : n.toNat = m) (hzs : List.replicate n.toNat z = zs) :
  Fact C ⟨some d, .makeSlice t l l, ty, ps, af, gd⟩ { er := [(l, .d (.val (.int k n)))], hn := [o], d := some (d, .slc o 0 m sz), hw := [(o, .av (.d (.arr sz m zs)))] } := by
 subst hm; subst hzs
 exact f_makeS o hlt ht hz hf h0 hb h63
theorem f_indexSW {x y : Operand} {t : TypeId} {o n sz : Nat} {i : Int} {k : IntKind} {xs : List D} {z : D} (hlt : Nat.blt d C.n = true) (ht : slB C.P t = some sz) (h0 : 0 ≤ i) (hi : xs[i.toNat]? = some z) :
  Fact C ⟨some d, .indexAddr t x y, ty, ps, af, gd⟩ { er := [(x, .slc o 0 n sz), (y, .d (.val (.int k i)))], hr := [(o, .av (.d (.arr sz n xs)))], d := some (d, .ptr o ((0 + i.toNat) * sz) [0 + i.toNat]) } := by
 intro s hp a w nx Q hs kk
 have hl : xs.length = n := by
  obtain ⟨F, μ, hs⟩ := hs
  cases hp.hr with
  | cons ho _ =>
   rcases hs.inv.obj o _ ho with ⟨_, _, k⟩ | ⟨b, base, tot, el, c, _, _, _, _, _, _, k⟩
   ·simp only [RA, Rep] at k; exact k.1
   ·simp only [RA, Rep] at k; exact k.1
 have hlt2 := (List.getElem?_eq_some_iff.1 hi).1
 exact f_indexSO hlt ht h0 (by omega) s ⟨hp.er, .nil, .nil⟩ a w nx Q hs kk
end
end Bd
