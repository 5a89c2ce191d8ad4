/-
  The plain law of keys' bytes: how many bits two share, which one is ahead, as functions on lists. No machine is in sight.
-/
import Derived.Test.YtonfljoibcnlgaaDoorPa
import Derived.KernelRfl
namespace Go.Proofs.YtonfljoibcnlgaaDoor
open Bd

def lzN (v : Nat) : Nat := if v = 0 then 8 else 7 - Nat.log2 v

/-- how many bits two share; whether one is ahead -/
def sh : List Nat → List Nat → Nat
  | x :: a, y :: b => if x = y then 8 + sh a b else lzN (x ^^^ y)
  | _, _ => 0
def ah : List Nat → List Nat → Bool
  | x :: a, y :: b => if x = y then ah a b else decide (x < y)
  | _, _ => false

def Bys (a : List Nat) : Prop := ∀ x ∈ a, x < 256

theorem tab_lz_ge : ((List.range 256).all fun v => (List.range 9).all fun k => (Nat.ble k (lzN v)) == (Nat.blt v (2 ^ (8 - k)))) = true := by kernel_rfl
theorem lz_ge {v k : Nat} (hv : v < 256) (hk : k ≤ 8) : k ≤ lzN v ↔ v < 2 ^ (8 - k) := by
  have h := List.all_eq_true.1 (List.all_eq_true.1 tab_lz_ge v (List.mem_range.2 hv)) k (List.mem_range.2 (by omega))
  have h2 : Nat.ble k (lzN v) = Nat.blt v (2 ^ (8 - k)) := by simpa using h
  rw [← Nat.ble_eq, h2, Nat.blt_eq]
theorem lz_le (v : Nat) : lzN v ≤ 8 := by unfold lzN; split <;> omega
theorem lz_lt {v : Nat} (hv : v < 256) (h : v ≠ 0) : lzN v < 8 := by unfold lzN; rw [if_neg h]; omega
theorem xor_lt {x y : Nat} (hx : x < 256) (hy : y < 256) : x ^^^ y < 256 := Nat.xor_lt_two_pow (n := 8) hx hy
theorem xor_ne {x y : Nat} (h : x ≠ y) : x ^^^ y ≠ 0 := fun e => h (by
  have h2 : (x ^^^ y) ^^^ y = x := by rw [Nat.xor_assoc, Nat.xor_self, Nat.xor_zero]
  rw [e, Nat.zero_xor] at h2; exact h2.symm)
theorem lz_xor {p q : Nat} (hp : p < 256) (hq : q < 256) : min (lzN p) (lzN q) ≤ lzN (p ^^^ q) := by
  have h8 : min (lzN p) (lzN q) ≤ 8 := Nat.le_trans (Nat.min_le_left _ _) (lz_le _)
  rw [lz_ge (xor_lt hp hq) h8]
  exact Nat.xor_lt_two_pow ((lz_ge hp h8).1 (Nat.min_le_left _ _)) ((lz_ge hq h8).1 (Nat.min_le_right _ _))

theorem ah_anti : ∀ {a b : List Nat}, ah a b = true → ah b a = true → False
  | x :: a, y :: b, h1, h2 => by
    simp only [ah] at h1 h2
    by_cases e : x = y
    · subst e; simp only [if_true] at h1 h2; exact ah_anti h1 h2
    · rw [if_neg e] at h1; rw [if_neg (Ne.symm e)] at h2; simp at h1 h2; omega
  | [], b, h1, _ => by simp [ah] at h1
  | _ :: _, [], h1, _ => by simp [ah] at h1
theorem ah_eq : ∀ {a b : List Nat}, a.length = b.length → (a = b ↔ ah a b = false ∧ ah b a = false)
  | [], [], _ => by simp [ah]
  | x :: a, y :: b, hl => by
    simp only [ah]
    by_cases e : x = y
    · subst e; simp only [if_true, List.cons.injEq, true_and]; exact ah_eq (by simpa using hl)
    · rw [if_neg e, if_neg (Ne.symm e)]; simp [e]; omega
  | [], _ :: _, hl => by simp at hl
  | _ :: _, [], hl => by simp at hl
theorem ah_trans : ∀ {a b c : List Nat}, a.length = b.length → b.length = c.length → ah a b = true → ah b c = true → ah a c = true
  | [], _, _, _, _, h1, _ => by simp [ah] at h1
  | _ :: _, [], _, _, _, h1, _ => by simp [ah] at h1
  | _ :: _, _ :: _, [], _, _, _, h2 => by simp [ah] at h2
  | x :: a, y :: b, z :: c, hl1, hl2, h1, h2 => by
    simp only [ah] at h1 h2 ⊢
    by_cases e1 : x = y
    · subst e1
      rw [if_pos rfl] at h1
      by_cases e2 : x = z
      · subst e2; rw [if_pos rfl] at h2 ⊢; exact ah_trans (by simpa using hl1) (by simpa using hl2) h1 h2
      · rw [if_neg e2] at h2 ⊢; exact h2
    · rw [if_neg e1] at h1
      by_cases e2 : y = z
      · subst e2; rw [if_neg e1]; exact h1
      · rw [if_neg e2] at h2
        have h1' : x < y := by simpa using h1
        have h2' : y < z := by simpa using h2
        rw [if_neg (by omega)]
        simp; omega
theorem sh_symm : ∀ (a b : List Nat), sh a b = sh b a
  | x :: a, y :: b => by
    simp only [sh]
    by_cases e : x = y
    · subst e; simp only [if_true]; rw [sh_symm]
    · rw [if_neg e, if_neg (Ne.symm e), Nat.xor_comm]
  | [], [] => rfl
  | [], _ :: _ => rfl
  | _ :: _, [] => rfl
theorem sh_le : ∀ {a b : List Nat}, Bys a → Bys b → sh a b ≤ 8 * a.length ∧ (a.length = b.length → (sh a b = 8 * a.length ↔ a = b))
  | x :: a, y :: b, ha, hb => by
    obtain ⟨h1, h2⟩ := sh_le (a := a) (b := b) (fun z hz => ha z (by simp [hz])) (fun z hz => hb z (by simp [hz]))
    simp only [sh, List.length_cons]
    by_cases e : x = y
    · subst e
      simp only [if_true, List.cons.injEq, true_and]
      refine ⟨by omega, fun hl => ?_⟩
      rw [← h2 (by omega)]; omega
    · rw [if_neg e]
      have := lz_lt (xor_lt (ha x (by simp)) (hb y (by simp))) (xor_ne e)
      refine ⟨by omega, fun _ => ?_⟩
      simp [e]; omega
  | [], [], _, _ => by simp [sh]
  | [], _ :: _, _, _ => by simp [sh]
  | _ :: _, [], _, _ => by simp [sh]
theorem sh_tri : ∀ {a b c : List Nat}, Bys a → Bys b → Bys c → a.length = b.length → b.length = c.length → min (sh a b) (sh b c) ≤ sh a c
  | [], _, _, _, _, _, _, _ => by simp [sh]
  | _ :: _, [], _, _, _, _, h, _ => by simp at h
  | _ :: _, _ :: _, [], _, _, _, _, h => by simp at h
  | x :: a, y :: b, z :: c, ha, hb, hc, hl1, hl2 => by
    have ih := sh_tri (a := a) (b := b) (c := c) (fun w hw => ha w (by simp [hw])) (fun w hw => hb w (by simp [hw])) (fun w hw => hc w (by simp [hw])) (by simpa using hl1) (by simpa using hl2)
    have bx := ha x (by simp)
    have byy := hb y (by simp)
    have bz := hc z (by simp)
    simp only [sh]
    by_cases e1 : x = y
    · subst e1
      rw [if_pos rfl]
      by_cases e2 : x = z
      · subst e2; simp only [if_true]; omega
      · rw [if_neg e2, if_neg e2]
        exact Nat.min_le_right _ _
    · rw [if_neg e1]
      by_cases e2 : y = z
      · subst e2; rw [if_pos rfl, if_neg e1]; exact Nat.min_le_left _ _
      · rw [if_neg e2]
        have h := lz_xor (xor_lt bx byy) (xor_lt byy bz)
        have hx : (x ^^^ y) ^^^ (y ^^^ z) = x ^^^ z := by
          rw [Nat.xor_assoc, ← Nat.xor_assoc y y z, Nat.xor_self, Nat.zero_xor]
        rw [hx] at h
        by_cases e3 : x = z
        · rw [if_pos e3]
          have := lz_le (x ^^^ y)
          have : min (lzN (x ^^^ y)) (lzN (y ^^^ z)) ≤ 8 := Nat.le_trans (Nat.min_le_left _ _) this
          omega
        · rw [if_neg e3]; exact h
end Go.Proofs.YtonfljoibcnlgaaDoor
