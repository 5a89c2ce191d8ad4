import Derived.Test.YtonfljoibcnlgaaGreatDoorBv
import Derived.Laws.Cover3
namespace Bd
open Go
section
variable {P₀ : Program} {ns : Nat} {C : Ctx P₀ ns} {ops : Array Oper} {d ty : Nat} {ps : String} {af : Array Edge} {gd : Option (Nat × Bool)} {x y : Operand} {s : AS} {a : Act} {w : World} {F : Nat → Prop} {μ : Mu} {e : Env} {h : Heap} {ds : List Nat} {os : List Oper}
 {Q : Exit → Act → World → Prop}
theorem R.eqNil {t t' m sz : Nat} {xs : List D} (hlt : Nat.blt d C.n = true) (ht : slB C.P t = some m) (hx : evalA C e x = some (.d (.sl sz xs))) (hy : evalA C e y = some (.d (.val (.slice none 0 0)))) (hg : gd = none)
  (k1 : xs = [] → R C ops os ⟨(d, .d (.val (.bool true))) :: e, h, ds⟩ Q) (k2 : R C ops os ⟨(d, .d (.val (.bool false))) :: e, h, ds⟩ Q) :
  R C ops (⟨some d, .binOp .eql t x y t', ty, ps, af, gd⟩ :: os) ⟨e, h, ds⟩ Q := by
 subst hg
 refine R.cons fun a w nx hs k => ?_
 rw [if_pos (by simp [Region.wanted])]
 obtain ⟨F, μ, hs⟩ := hs
 obtain ⟨el, ag, hu, _⟩ := slB_some ht
 obtain ⟨hx1, hx2⟩ := evalA_ok hs hx
 have hyv := rv_val (evalA_ok hs hy)
 simp only [RA, Rep] at hx1
 obtain ⟨ad, cap, e1, e2, e3⟩ := hx1
 have hv : a.eval x = .slice ad xs.length cap := by
  have := cells_single (v := a.eval x) hx2
  rw [e1] at this; simpa using this.symm
 have hrun : (execOp a.eval ⟨some d, .binOp .eql t x y t', ty, ps, af, none⟩).run C.P w = .ok (.value (.bool ad.isNone)) w := by
  have := run_equal_slice_nil (P := C.P) w t el ad xs.length cap hu
  simp [execOp, binOp, eqGuard, hv, hyv, this]
 refine wpIn_value (by intro c h; cases h) hrun ?_
 cases had : ad with
 | none =>
  have hxs : xs = [] := by
   rcases e3 with h | ⟨b, off, c, h, _⟩
   ·exact h
   ·rw [had] at h; cases h
  exact k _ _ _ ⟨F, μ, sat_put hs (by simpa [Nat.blt_eq] using hlt) (rv_val_mk rfl)⟩ (k1 hxs)
 | some a0 => exact k _ _ _ ⟨F, μ, sat_put hs (by simpa [Nat.blt_eq] using hlt) (rv_val_mk rfl)⟩ k2
theorem sat_adopt {t o sz : Nat} (hn : h.get o = none) (hx : e.get t = some (.d (.val (.slice none 0 0)))) (hs : Sat C ⟨e, h, ds⟩ a w) : Sat C ⟨(t, .slc o 0 0 sz) :: e, (o, .av (.d (.arr sz 0 []))) :: h, ds⟩ a w := by
 obtain ⟨F, μ, hs⟩ := hs
 have hv := rv_val (hs.env t _ hx)
 obtain ⟨h1, h2⟩ := sat_newNil (sz := sz) hs hn
 refine ⟨F, _, ⟨h1.inv, fun i y hi => ?_, h1.size, h1.dfs, h1.fr, h1.f0, h1.base, h1.globs, h1.fm⟩⟩
 rw [env_get_cons] at hi
 by_cases e' : t = i
 ·subst e'; rw [if_pos rfl] at hi; cases hi
  rw [hv]
  exact ⟨by simp only [RA]; exact .inl ⟨⟨_, by simp only [if_true]; rfl⟩, trivial, none, rfl⟩, rfl⟩
 ·rw [if_neg e'] at hi; exact h1.env i y hi
theorem aw_adopt {c : Code} (t o sz : Nat) (hn : h.get o = none) (hx : e.get t = some (.d (.val (.slice none 0 0)))) (k : AW C c Q ⟨(t, .slc o 0 0 sz) :: e, (o, .av (.d (.arr sz 0 []))) :: h, ds⟩) : AW C c Q ⟨e, h, ds⟩ := fun a w hs => k a w (sat_adopt hn hx hs)
theorem aq_adopt {ex : Exit} (t o sz : Nat) (hn : h.get o = none) (hx : e.get t = some (.d (.val (.slice none 0 0)))) (k : AQ C Q ex ⟨(t, .slc o 0 0 sz) :: e, (o, .av (.d (.arr sz 0 []))) :: h, ds⟩) : AQ C Q ex ⟨e, h, ds⟩ := fun a w hs => k a w (sat_adopt hn hx hs)
theorem f_sliceA {t : TypeId} {o n sz : Nat} {xs : List D} (hlt : Nat.blt d C.n = true) (ht : arrB C.P t = some (n, sz)) :
  Fact C ⟨some d, .slice t x none none none, ty, ps, af, gd⟩ { er := [(x, .ptr o 0 [])], hr := [(o, .av (.d (.arr sz n xs)))], d := some (d, .slc o 0 n sz) } :=
 fact_pure rfl hlt (by intro c h; cases h) fun s a w F μ he hh hs => by
  cases he with
  | cons hx _ => cases hh with
   | cons ho _ =>
    obtain ⟨b, base, tot, hm, hv⟩ := rv_ptr (evalE_ok hs hx)
    unfold arrB at ht
    cases hu : C.P.underlying t with
    | none => simp [hu] at ht
    | some td =>
     cases td with
     | array n' e' =>
      simp only [hu] at ht
      cases he : tyB C.P e' with
      | none => simp [he] at ht
      | some q =>
       obtain ⟨ag, s1⟩ := q
       simp only [he, Option.map_some, Option.some.injEq, Prod.mk.injEq] at ht
       obtain ⟨rfl, rfl⟩ := ht
       obtain ⟨_, _, c, h1, h2, h3, h4⟩ := obj_at hs.inv ho hm
       simp only [D.size] at h3
       refine ⟨.slice (some ⟨b, base, none⟩) n' n', ?_, ⟨?_, rfl⟩⟩
       ·have hrun : (Instr.sliceAt t (.pointer (some ⟨b, base + 0, none⟩)) none none none).run C.P w = .ok (.slice (some ⟨b, base, none⟩) n' n') w := by
         simp [Instr.sliceAt, underlying, program, Sem.run, hu, Instr.sureAddr, Instr.sliceBounds, run_sizeOf he, addr_add]
        simp only [execOp, hv, Option.map_none, Sem.run_bind, hrun, Result.andThen_ok, Sem.run_pure]
       ·simp only [RA]
        exact .inr ⟨b, base, tot, n', hm, Nat.le_refl _, by rw [Nat.zero_add]; exact h3, by simp [Value.cells]⟩
     | _ => simp [hu] at ht
end
end Bd
