import Derived.Test.YtonfljoibcnlgaaGreatDoorBn
namespace Bd
open Go
inductive SubEnv (e : Env) : Env → Prop
 | nil : SubEnv e []
 | keep {t : Nat} {x : AV} {l : Env} (h : e.get t = some x) (k : SubEnv e l) : SubEnv e ((t, x) :: l)
theorem subEnv_get {e l : Env} (h : SubEnv e l) : ∀ t x, l.get t = some x → e.get t = some x := by
 induction h with
 | nil => intro t x h; simp [Env.get] at h
 | @keep t' x' l h k ih =>
  intro t x hx
  rw [env_get_cons] at hx
  by_cases e' : t' = t
  ·subst e'; rw [if_pos rfl] at hx; cases hx; exact h
  ·rw [if_neg e'] at hx; exact ih t x hx
section
variable {P₀ : Program} {ns : Nat} {C : Ctx P₀ ns} {Q : Exit → Act → World → Prop} {e e' : Env} {hp : Heap} {ds : List Nat}
theorem sat_sube {a : Act} {w : World} (h : SubEnv e e') (hs : Sat C ⟨e, hp, ds⟩ a w) : Sat C ⟨e', hp, ds⟩ a w := by
 obtain ⟨F, μ, hs⟩ := hs
 exact ⟨F, μ, ⟨hs.inv, fun i x hi => hs.env i x (subEnv_get h i x hi), hs.size, hs.dfs, hs.fr, hs.f0, hs.base, hs.globs, hs.fm⟩⟩
theorem aw_sube {c : Code} (e' : Env) (h : SubEnv e e') (k : AW C c Q ⟨e', hp, ds⟩) : AW C c Q ⟨e, hp, ds⟩ := fun a w hs => k a w (sat_sube h hs)
theorem aq_sube {ex : Exit} (e' : Env) (h : SubEnv e e') (k : AQ C Q ex ⟨e', hp, ds⟩) : AQ C Q ex ⟨e, hp, ds⟩ := fun a w hs => k a w (sat_sube h hs)
theorem aw_code {c c' : Code} {s : AS} (h : c = c') (k : AW C c' Q s) : AW C c Q s := h ▸ k
end
end Bd
