import Derived.Test.YtonfljoibcnlgaaGreatDoorBq
namespace Bd
open Go
inductive FrzE (zs : List (Nat × D)) (e : Env) : Env → Prop
 | nil : FrzE zs e []
 | cons {t : Nat} {x y : AV} {l : Env} (h : e.get t = some x) (f : Frz zs x y) (k : FrzE zs e l) : FrzE zs e ((t, y) :: l)
 | keep {t : Nat} {x : AV} {l : Env} (h : e.get t = some x) (k : FrzE zs e l) : FrzE zs e ((t, x) :: l)
section
variable {P₀ : Program} {ns : Nat} {C : Ctx P₀ ns} {Q : Exit → Act → World → Prop} {e e' : Env} {hp : Heap} {ds : List Nat} {s : AS} {a : Act} {w : World} {F : Nat → Prop} {μ : Mu} {zs : List (Nat × D)}
theorem ff_may (h : SatW C s a w F μ) (hz : ∀ p ∈ zs, s.hp.get p.1 = some (.av (.d p.2))) : ∀ b, FF F μ zs b → F b ∨ C.may b := fun b hb => by
 rcases hb with hb | ⟨p, hp, base, tot, hm⟩
 ·exact .inl hb
 ·exact .inr (obj_at h.inv (hz p hp) hm).2.1
theorem sat_deads (h : SatW C s a w F μ) (hz : ∀ p ∈ zs, s.hp.get p.1 = some (.av (.d p.2))) : SatW C ⟨s.env, deads zs ++ s.hp, s.dfs⟩ a w (FF F μ zs) μ :=
 ⟨inv_freeze h.inv hz, envOk_mono ext_freeze h.env, h.size, h.dfs, h.fr, fun b hb => .inl (h.f0 b hb), h.base, globs_mono (fun _ h => .inl h) (Kept.refl _ _) h.globs, fun b hb => by
  rcases ff_may h hz b hb with h' | h'
  ·exact h.fm b h'
  ·exact .inr h'⟩
theorem rv_frz {v : Value} (hi : Inv F μ C.may hp w) (hz : ∀ p ∈ zs, hp.get p.1 = some (.av (.d p.2))) {x y : AV} (h : Frz zs x y) (hr : RV F μ w x v) : RV (FF F μ zs) μ w y v := by
 cases h with
 | same => exact rv_mono ext_freeze hr
 | nil => exact ⟨frz_ok hi hz .nil hr.1, hr.2⟩
 | slc h hl => exact ⟨frz_ok hi hz (.slc h hl) hr.1, hr.2⟩
 | all h hl => exact ⟨frz_ok hi hz (.all h hl) hr.1, hr.2⟩
 | whole h => exact ⟨frz_ok hi hz (.whole h) hr.1, hr.2⟩
 | st h => exact ⟨frz_ok hi hz (.st h) hr.1, hr.2⟩
theorem frzE_get (h : FrzE zs e e') : ∀ t y, e'.get t = some y → ∃ x, e.get t = some x ∧ Frz zs x y := by
 induction h with
 | nil => intro t x h; simp [Env.get] at h
 | @cons t' x' y' l h f k ih =>
  intro t x hx
  rw [env_get_cons] at hx
  by_cases e' : t' = t
  ·subst e'; rw [if_pos rfl] at hx; cases hx; exact ⟨_, h, f⟩
  ·rw [if_neg e'] at hx; exact ih t x hx
 | @keep t' x' l h k ih =>
  intro t x hx
  rw [env_get_cons] at hx
  by_cases e' : t' = t
  ·subst e'; rw [if_pos rfl] at hx; cases hx; exact ⟨_, h, .same _⟩
  ·rw [if_neg e'] at hx; exact ih t x hx
theorem sat_freeze (zs : List (Nat × D)) (hz : HeapHas hp (lives zs)) (hE : FrzE zs e e') (h : Sat C ⟨e, hp, ds⟩ a w) : Sat C ⟨e', deads zs ++ hp, ds⟩ a w := by
 obtain ⟨F, μ, h⟩ := h
 have hz' : ∀ p ∈ zs, hp.get p.1 = some (.av (.d p.2)) := fun p hp' => heapHas_iff.1 hz (p.1, .av (.d p.2)) (List.mem_map.2 ⟨p, hp', rfl⟩)
 have h1 := sat_deads h hz'
 refine ⟨_, μ, ⟨h1.inv, fun i y hi => ?_, h1.size, h1.dfs, h1.fr, h1.f0, h1.base, h1.globs, h1.fm⟩⟩
 obtain ⟨x, hx, hf⟩ := frzE_get hE i y hi
 exact rv_frz h.inv hz' hf (h.env i x hx)
theorem aq_freeze {ex : Exit} (zs : List (Nat × D)) (e' : Env) (hz : HeapHas hp (lives zs)) (hE : FrzE zs e e') (k : AQ C Q ex ⟨e', deads zs ++ hp, ds⟩) : AQ C Q ex ⟨e, hp, ds⟩ := fun a w hs => k a w (sat_freeze zs hz hE hs)
theorem R.freeze {ops : Array Oper} {os : List Oper} (zs : List (Nat × D)) (e' : Env) (hz : HeapHas hp (lives zs)) (hE : FrzE zs e e') (k : R C ops os ⟨e', deads zs ++ hp, ds⟩ Q) : R C ops os ⟨e, hp, ds⟩ Q := fun pre hops a w hs => k pre hops a w (sat_freeze zs hz hE hs)
variable {d ty : Nat} {ps : String} {af : Array Edge} {gd : Option (Nat × Bool)} {x y : Operand}
theorem f_lenD {t : TypeId} {ats : Array TypeId} {m sz n : Nat} {xs : List D} (hlt : Nat.blt d C.n = true) (ht : slB C.P t = some m) (ha : ats[0]? = some t) (hn : xs.length = n) :
  Fact C ⟨some d, .call ⟨.builtin .len, #[x], ats⟩, ty, ps, af, gd⟩ { er := [(x, .d (.sl sz xs))], d := some (d, .d (.val (.int .i64 n))) } :=
 fact_pure rfl hlt (by intro c h; cases h) fun s a w F μ he hh hs => by
  cases he with
  | cons h1 _ =>
   obtain ⟨hx1, hx2⟩ := evalE_ok hs h1
   simp only [RA, Rep] at hx1
   obtain ⟨ad, cap, e1, e2, e3⟩ := hx1
   have hv : a.eval x = .slice ad xs.length cap := by
    have := cells_single (v := a.eval x) hx2
    rw [e1] at this; simpa using this.symm
   subst hn
   unfold slB at ht
   cases hu : C.P.underlying t with
   | none => simp [hu] at ht
   | some td =>
    cases td with
    | slice el =>
     refine ⟨.int .i64 xs.length, ?_, ⟨by simp only [RA, Rep]; exact ⟨rfl, rfl⟩, rfl⟩⟩
     simp [execOp, resolve, Deferred.ofValue, invoke, builtin, Builtin.len_, ha, hv, underlying, program, Sem.run, hu, goInt]
    | _ => simp [hu] at ht
end
end Bd
