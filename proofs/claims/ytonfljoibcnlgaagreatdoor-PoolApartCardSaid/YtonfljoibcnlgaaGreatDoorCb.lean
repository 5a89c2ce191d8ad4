import Derived.Test.YtonfljoibcnlgaaGreatDoorCa
namespace Bd
open Go
theorem elim_l {α β γ : Type} {f : α → γ} {g : β → γ} {x : α} {r : γ} (h : Sum.elim f g (.inl x) = r) : f x = r := h
theorem elim_r {α β γ : Type} {f : α → γ} {g : β → γ} {x : β} {r : γ} (h : Sum.elim f g (.inr x) = r) : g x = r := h
theorem Frz.slcE {zs : List (Nat × D)} {o off len sz n : Nat} {xs ys : List D} (h : (o, D.arr sz n xs) ∈ zs) (he : (xs.drop off).take len = ys) (hl : off + len ≤ xs.length) : Frz zs (.slc o off len sz) (.d (.sl sz ys)) := he ▸ Frz.slc h hl
theorem at_map2 {α : Type} {sz n i : Nat} {p : List Nat} {xs : List α} {z : α} {m off : Nat} {y : D} (f : α → D) (h : xs[i]? = some z) (hp : D.at (f z) p = some (m, y)) (ho : off = i * sz + m) : AV.at (.d (.arr sz n (xs.map f))) (i :: p) = some (off, .d y) := by
 simp [AV.at, D.at, h, hp, ho]
section
variable {P₀ : Program} {ns : Nat} {C : Ctx P₀ ns} {ops : Array Oper} {d ty : Nat} {ps : String} {af : Array Edge} {gd : Option (Nat × Bool)} {x y : Operand} {e : Env} {h : Heap} {ds : List Nat} {Q : Exit → Act → World → Prop}
theorem glob_ev {g : Nat} {gs : List (Nat × D)} {z : D} (hgl : C.globs = gs) (hz : gs.lookup g = some z) : evalA C e (.global g) = some (.pref z) := by simp [evalA, hgl, hz]
theorem f_nilCheck {o off : Nat} {p : List Nat} (hlt : Nat.blt d C.n = true) : Fact C ⟨some d, .nilCheck x, ty, ps, af, gd⟩ { er := [(x, .ptr o off p)], d := some (d, .ptr o off p) } :=
 fact_pure rfl hlt (by intro c h; cases h) fun s a w F μ he hh hs => by
  cases he with
  | cons h1 _ =>
   have hx := evalE_ok hs h1
   obtain ⟨b, base, tot, hm', hv⟩ := rv_ptr hx
   refine ⟨.pointer (some ⟨b, base + off, none⟩), ?_, hv ▸ hx⟩
   simp [execOp, hv]
theorem f_sliceOE {t : TypeId} {lo hi : Option Operand} {k1 k2 : IntKind} {i j : Int} {o off len sz off' len' : Nat} (hlt : Nat.blt d C.n = true) (ht : slB C.P t = some sz) (hl : lo = none → i = 0) (hh : hi = none → j = len)
  (h0 : 0 ≤ i) (h1 : i ≤ j) (h2 : j ≤ len) (e1 : off + i.toNat = off') (e2 : j.toNat - i.toNat = len') :
  Fact C ⟨some d, .slice t x lo hi none, ty, ps, af, gd⟩ { er := (x, .slc o off len sz) :: (bnd lo k1 i ++ bnd hi k2 j), d := some (d, .slc o off' len' sz) } := by
 subst e1; subst e2; exact f_sliceO hlt ht hl hh h0 h1 h2
theorem run_sliceVM {P : Program} {t : TypeId} {sz len cap : Nat} {a : Option Addr} {lo : Option Value} {k2 k3 : IntKind} {i j : Int} {w : World} (ht : slB P t = some sz) (hl : lo = none ∧ i = 0 ∨ ∃ k, lo = some (.int k i))
  (h0 : 0 ≤ i) (h1 : i ≤ j) (h2 : j ≤ len) (h3 : len ≤ cap) :
  (Instr.sliceAt t (.slice a len cap) lo (some (.int k2 j)) (some (.int k3 j))).run P w = .ok (.slice (if j.toNat = i.toNat then a else a.map (·.add (i.toNat * sz))) (j.toNat - i.toNat) (j.toNat - i.toNat)) w := by
 obtain ⟨e, ag, hu, he⟩ := slB_some ht
 have hj : (j.toNat : Int) = j := Int.toNat_of_nonneg (by omega)
 rcases hl with ⟨rfl, rfl⟩ | ⟨k, rfl⟩
 ·simp [Instr.sliceAt, Instr.slice, underlying, program, Sem.run, hu, Instr.sliceBounds, run_sizeOf he, run_sliceBound, h1, (by omega : j ≤ (cap : Int)), hj]
 ·simp [Instr.sliceAt, Instr.slice, underlying, program, Sem.run, hu, Instr.sliceBounds, run_sizeOf he, run_sliceBound, h0, h1, (by omega : 0 ≤ j), (by omega : j ≤ (cap : Int)), hj]
theorem f_sliceDM {t : TypeId} {lo : Option Operand} {y z : Operand} {k1 k2 k3 : IntKind} {i j : Int} {sz : Nat} {xs zs : List D} (hlt : Nat.blt d C.n = true) (ht : slB C.P t = some sz) (hl : lo = none → i = 0)
  (h0 : 0 ≤ i) (h1 : i ≤ j) (h2 : j ≤ xs.length) (hz : (xs.take j.toNat).drop i.toNat = zs) :
  Fact C ⟨some d, .slice t x lo (some y) (some z), ty, ps, af, gd⟩ { er := (x, .d (.sl sz xs)) :: (bnd lo k1 i ++ [(y, .d (.val (.int k2 j))), (z, .d (.val (.int k3 j)))]), d := some (d, .d (.sl sz zs)) } :=
 fact_pure rfl hlt (by intro c h; cases h) fun s a w F μ he _ hs => by
  cases he with
  | cons hx he =>
   obtain ⟨e1, e2⟩ := envHas_app he
   cases e2 with
   | cons q1 e2 => cases e2 with
    | cons q2 _ =>
     have hy := rv_val (evalE_ok hs q1)
     have hzz := rv_val (evalE_ok hs q2)
     obtain ⟨hx1, hx2⟩ := evalE_ok hs hx
     simp only [RA, Rep] at hx1
     obtain ⟨ad, cap, g1, g2, g3⟩ := hx1
     have hv : a.eval x = .slice ad xs.length cap := by
      have := cells_single (v := a.eval x) hx2
      rw [g1] at this; simpa using this.symm
     have hrun := run_sliceVM (P := C.P) (w := w) (a := ad) (k2 := k2) (k3 := k3) ht (bnd_ok hs e1 hl) h0 h1 h2 g2
     subst hz
     have hlen : ((xs.take j.toNat).drop i.toNat).length = j.toNat - i.toNat := by rw [List.length_drop, List.length_take]; omega
     refine ⟨.slice (if j.toNat = i.toNat then ad else ad.map (·.add (i.toNat * sz))) (j.toNat - i.toNat) (j.toNat - i.toNat), by simp only [execOp, hv, hy, hzz, Option.map_some, Sem.run_bind, hrun, Result.andThen_ok, Sem.run_pure], ?_, rfl⟩
     simp only [RA, Rep, hlen]
     refine ⟨_, j.toNat - i.toNat, rfl, Nat.le_refl _, ?_⟩
     rcases g3 with rfl | ⟨b, off, c, rfl, hF, hb, hlc, hr⟩
     ·exact .inl (by simp)
     ·by_cases hc : j.toNat = i.toNat
      ·refine .inl (List.eq_nil_of_length_eq_zero ?_)
       rw [hlen]; omega
      ·refine .inr ⟨b, off + i.toNat * sz, c, ?_, hF, hb, ?_, ?_⟩
       ·rw [if_neg hc]; simp [addr_add]
       ·have : j.toNat * sz ≤ xs.length * sz := Nat.mul_le_mul_right _ (by omega)
        have h3 : i.toNat * sz + (j.toNat - i.toNat) * sz = j.toNat * sz := by rw [← Nat.add_mul]; congr 1; omega
        omega
       ·have h7 := (repEach_split i.toNat (repEach_split j.toNat hr).2).1
        have h3 : i.toNat * sz + (j.toNat - i.toNat) * sz = j.toNat * sz := by rw [← Nat.add_mul]; congr 1; omega
        have h4 : j.toNat * sz ≤ xs.length * sz := Nat.mul_le_mul_right _ (by omega)
        have h8 : ((c.drop off).take (j.toNat * sz)).drop (i.toNat * sz) = (c.drop (off + i.toNat * sz)).take (j.toNat * sz - i.toNat * sz) := by rw [List.drop_take, List.drop_drop]
        rw [List.take_take, Nat.min_eq_left h4, h8] at h7
        rwa [show (j.toNat - i.toNat) * sz = j.toNat * sz - i.toNat * sz from by omega]
theorem aw_anewE {c : Code} {o off len sz n m : Nat} {xs zs : List D} (t o' : Nat) (hn : h.get o' = none) (hx : e.get t = some (.slc o off len sz)) (ho : h.get o = some (.av (.d (.arr sz n xs)))) (hz : xs.drop off = zs) (hend : off + len = n) (hm : len = m)
  (k : AW C c Q ⟨(t, .slc o' 0 m sz) :: e, (o', .av (.d (.arr sz m zs))) :: (o, .dead) :: h, ds⟩) : AW C c Q ⟨e, h, ds⟩ := by subst hz; subst hm; exact aw_anew t o' hn hx ho hend k
theorem aq_anewE {ex : Exit} {o off len sz n m : Nat} {xs zs : List D} (t o' : Nat) (hn : h.get o' = none) (hx : e.get t = some (.slc o off len sz)) (ho : h.get o = some (.av (.d (.arr sz n xs)))) (hz : xs.drop off = zs) (hend : off + len = n) (hm : len = m)
  (k : AQ C Q ex ⟨(t, .slc o' 0 m sz) :: e, (o', .av (.d (.arr sz m zs))) :: (o, .dead) :: h, ds⟩) : AQ C Q ex ⟨e, h, ds⟩ := by subst hz; subst hm; exact aq_anew t o' hn hx ho hend k
variable {a : Act} {w : World}
end
end Bd
