/-
  Plain lemmas on options, loops by steps, whole numbers that wrap, and lists that are read. No machine and no program is in sight.
-/
import Derived.Test.YtonfljoibcnlgaaDoorCf
namespace Bd
open Go

theorem bP {α β : Type} {S : Option β → Prop} {o : Option α} {f : α → Option β} {Q : α → Prop} (h1 : ∃ a, o = some a ∧ Q a) (h2 : ∀ a, Q a → S (f a)) : S (o.bind f) := by
  obtain ⟨a, rfl, h⟩ := h1; exact h2 a h
theorem bP' {α β : Type} {S : Option β → Prop} {o : Option α} {f : α → Option β} (h1 : ∃ a, o = some a) (h2 : ∀ a, S (f a)) : S (o.bind f) := by
  obtain ⟨a, rfl⟩ := h1; exact h2 a
theorem iT {α : Type} {S : Option α → Prop} {p : Prop} [Decidable p] {x y : Option α} (hp : p) (h : S x) : S (if p then x else y) := by rw [if_pos hp]; exact h
theorem iF {α : Type} {S : Option α → Prop} {p : Prop} [Decidable p] {x y : Option α} (hp : ¬ p) (h : S y) : S (if p then x else y) := by rw [if_neg hp]; exact h
theorem iC {α : Type} {S : Option α → Prop} {p : Prop} [Decidable p] {x y : Option α} (h1 : p → S x) (h2 : ¬ p → S y) : S (if p then x else y) := by
  by_cases h : p
  · rw [if_pos h]; exact h1 h
  · rw [if_neg h]; exact h2 h

/-- what one step of a loop is to come to -/
def StepOk {σ β : Type} (I : σ → Prop) (m : σ → Nat) (P : β → Prop) (z : σ) : Option (σ ⊕ β) → Prop
  | some (.inl z') => I z' ∧ m z' < m z
  | some (.inr b) => P b
  | none => False
theorem loop_ok {σ β : Type} {f : σ → Option (σ ⊕ β)} (I : σ → Prop) (m : σ → Nat) (P : β → Prop) (h : ∀ z, I z → StepOk I m P z (f z)) : ∀ (n : Nat) (z : σ), I z → m z < n → ∃ b, loopF f n z = some b ∧ P b
  | 0, z, _, hm => absurd hm (Nat.not_lt_zero _)
  | n + 1, z, hz, hm => by
    have := h z hz
    simp only [loopF]
    cases hf : f z with
    | none => rw [hf] at this; exact this.elim
    | some o =>
      rw [hf] at this
      cases o with
      | inl z' => exact loop_ok I m P h n z' this.1 (by have := this.2; omega)
      | inr b => exact ⟨b, rfl, this⟩

theorem wrap_in {k : IntKind} {x : Int} (h1 : 0 ≤ x) (h2 : x ≤ k.max) : k.wrap x = x := by
  cases k <;> simp [IntKind.wrap, IntKind.max, IntKind.bits, IntKind.signed] at h2 ⊢ <;> omega
theorem wi64 {x : Int} (h1 : 0 ≤ x) (h2 : x < 9223372036854775808) : IntKind.i64.wrap x = x := wrap_in h1 (by have : IntKind.max .i64 = 9223372036854775807 := rfl; omega)
theorem wu64 {x : Int} (h1 : 0 ≤ x) (h2 : x < 18446744073709551616) : IntKind.u64.wrap x = x := wrap_in h1 (by have : IntKind.max .u64 = 18446744073709551615 := rfl; omega)
theorem wu32 {x : Int} (h1 : 0 ≤ x) (h2 : x < 4294967296) : IntKind.u32.wrap x = x := wrap_in h1 (by have : IntKind.max .u32 = 4294967295 := rfl; omega)
theorem wu8 {x : Int} (h1 : 0 ≤ x) (h2 : x < 256) : IntKind.u8.wrap x = x := wrap_in h1 (by have : IntKind.max .u8 = 255 := rfl; omega)
theorem u64_range (x : Int) : 0 ≤ IntKind.u64.wrap x ∧ IntKind.u64.wrap x < 18446744073709551616 := by
  simp [IntKind.wrap, IntKind.bits, IntKind.signed]; omega

theorem rd_ex {α : Type} {xs : List α} {i : Int} (h0 : 0 ≤ i) (h1 : i < xs.length) : ∃ x, rd xs i = some x := by
  unfold rd; rw [if_pos h0]
  exact ⟨_, List.getElem?_eq_getElem (by omega)⟩
theorem rd_nat {α : Type} {xs : List α} (i : Nat) : rd xs (i : Int) = xs[i]? := by unfold rd; simp
theorem rd_mem {α : Type} {xs : List α} {i : Int} {x : α} (h : rd xs i = some x) : x ∈ xs := List.mem_of_getElem? (rd_some h).2
end Bd
