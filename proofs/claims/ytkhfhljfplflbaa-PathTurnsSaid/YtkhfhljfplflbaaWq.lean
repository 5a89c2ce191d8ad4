/-
  What the printed functions of keys answer, as functions on lists of numbers.
-/
import Derived.Test.YtkhfhljfplflbaaWp
namespace Go.Proofs.Ytkhfhljfplflbaa
open Bd

/-- the bytes as the program holds them -/
abbrev toI (a : List Nat) : List Int := a.map Int.ofNat

theorem rd_toI {a : List Nat} {i : Nat} : rd (toI a) (i : Int) = (a[i]?).map Int.ofNat := by
  unfold rd; simp

theorem wrap_in {k : IntKind} {x : Int} (h1 : 0 ≤ x) (h2 : x ≤ k.max) : k.wrap x = x := by
  cases k <;> simp [IntKind.wrap, IntKind.max, IntKind.bits, IntKind.signed] at h2 ⊢ <;> omega
theorem wrap_i64 {x : Int} (h1 : 0 ≤ x) (h2 : x < 9223372036854775808) : IntKind.i64.wrap x = x := wrap_in h1 (by have : IntKind.max .i64 = 9223372036854775807 := rfl; omega)
theorem wrap_u8 {x : Int} (h1 : 0 ≤ x) (h2 : x < 256) : IntKind.u8.wrap x = x := wrap_in h1 (by have : IntKind.max .u8 = 255 := rfl; omega)

theorem xor_u8 {x y : Nat} (hx : x < 256) (hy : y < 256) : bXor .u8 (Int.ofNat x) (Int.ofNat y) = Int.ofNat (x ^^^ y) := by
  have h := xor_lt hx hy
  show IntKind.u8.wrap (((BitVec.ofInt 8 (Int.ofNat x)) ^^^ (BitVec.ofInt 8 (Int.ofNat y))).toNat : Int) = _
  have e1 : BitVec.ofInt 8 (Int.ofNat x) = BitVec.ofNat 8 x := by simp
  have e2 : BitVec.ofInt 8 (Int.ofNat y) = BitVec.ofNat 8 y := by simp
  rw [e1, e2, BitVec.toNat_xor, BitVec.toNat_ofNat, BitVec.toNat_ofNat, Nat.mod_eq_of_lt hx, Nat.mod_eq_of_lt hy]
  rw [wrap_u8 (by omega) (by omega)]; rfl

theorem tab_lead : ((List.range 256).all fun v => decide (F18_bits_LeadingZeros8 0 (Int.ofNat v) = some (Int.ofNat (lzN v)))) = true := by kernel_rfl
theorem lead {n v : Nat} (hv : v < 256) : F18_bits_LeadingZeros8 n (Int.ofNat v) = some (Int.ofNat (lzN v)) := by
  have h := List.all_eq_true.1 tab_lead v (List.mem_range.2 hv)
  exact of_decide_eq_true h

theorem drop_cons {a : List Nat} {m x : Nat} (h : a[m]? = some x) : a.drop m = x :: a.drop (m + 1) := by
  obtain ⟨h1, h2⟩ := List.getElem?_eq_some_iff.1 h
  rw [List.drop_eq_getElem_cons h1, h2]

/-- What the yielder finds. -/
def Finds (a b : List Nat) (m : Nat) : Option (Int × Int) → Prop
  | none => a.drop m = b.drop m
  | some (i, v) => ∃ j x y : Nat, m ≤ j ∧ j < 32 ∧ i = Int.ofNat j ∧ a[j]? = some x ∧ b[j]? = some y ∧ x ≠ y ∧ v = Int.ofNat (x ^^^ y) ∧ x < 256 ∧ y < 256 ∧
      ah (a.drop m) (b.drop m) = decide (x < y) ∧ sh (a.drop m) (b.drop m) = 8 * (j - m) + lzN (x ^^^ y)

theorem apart_spec {a b : List Nat} (ha : Bys a) (hb : Bys b) (la : a.length = 32) (lb : b.length = 32) : ∀ (n m : Nat), m ≤ 32 → 33 ≤ n + m → ∃ q, apartF (toI a) (toI b) n (m : Int) = some q ∧ Finds a b m q
  | 0, m, h1, h2 => by omega
  | n + 1, m, h1, h2 => by
    by_cases hm : m = 32
    · subst hm
      refine ⟨none, by simp [apartF], ?_⟩
      show a.drop 32 = b.drop 32
      rw [List.drop_of_length_le (by omega), List.drop_of_length_le (by omega)]
    · have hx : a[m]? = some (a[m]'(by omega)) := List.getElem?_eq_getElem (by omega)
      have hy : b[m]? = some (b[m]'(by omega)) := List.getElem?_eq_getElem (by omega)
      generalize a[m]'(by omega) = x at hx
      generalize b[m]'(by omega) = y at hy
      have bx : x < 256 := ha x (List.mem_of_getElem? hx)
      have byy : y < 256 := hb y (List.mem_of_getElem? hy)
      have hdec : decide ((m : Int) < 32) = true := by simp; omega
      have hstep : apartF (toI a) (toI b) (n + 1) (m : Int) = if x = y then apartF (toI a) (toI b) n ((m + 1 : Nat) : Int) else some (some (Int.ofNat m, Int.ofNat (x ^^^ y))) := by
        simp only [apartF, hdec, if_true, rd_toI, hx, hy, Option.map_some, Option.bind_some, xor_u8 bx byy]
        by_cases e : x = y
        · subst e
          simp only [Nat.xor_self, if_true]
          rw [if_neg (by simp), wrap_i64 (by omega) (by omega)]; rfl
        · have := xor_ne e
          rw [if_neg e, if_pos (by simp; omega)]; rfl
      rw [hstep]
      by_cases e : x = y
      · subst e
        rw [if_pos rfl]
        obtain ⟨q, k1, k2⟩ := apart_spec ha hb la lb n (m + 1) (by omega) (by omega)
        refine ⟨q, k1, ?_⟩
        match q, k2 with
        | none, k2 => show a.drop m = b.drop m; rw [drop_cons hx, drop_cons hy]; rw [show a.drop (m + 1) = b.drop (m + 1) from k2]
        | some (i, v), ⟨j, x', y', q1, q2, q3, q4, q5, q6, q7, q8, q9, q10, q11⟩ =>
          refine ⟨j, x', y', by omega, q2, q3, q4, q5, q6, q7, q8, q9, ?_, ?_⟩
          · rw [drop_cons hx, drop_cons hy]; simp only [ah, if_true]; exact q10
          · rw [drop_cons hx, drop_cons hy]; simp only [sh, if_true, q11]; omega
      · rw [if_neg e]
        refine ⟨_, rfl, m, x, y, Nat.le_refl _, by omega, rfl, hx, hy, e, rfl, bx, byy, ?_, ?_⟩
        · rw [drop_cons hx, drop_cons hy]; simp [ah, e]
        · rw [drop_cons hx, drop_cons hy]; simp [sh, e]

theorem ah_self : ∀ (a : List Nat), ah a a = false
  | [] => rfl
  | x :: a => by simp [ah, ah_self a]
theorem sh_self : ∀ (a : List Nat), sh a a = 8 * a.length
  | [] => rfl
  | x :: a => by simp [sh, sh_self a]; omega

theorem ahead_val {a b : List Nat} {n : Nat} (hn : 33 ≤ n) (ha : Bys a) (hb : Bys b) (la : a.length = 32) (lb : b.length = 32) : F8_path_Ahead n (toI a) (toI b) = some (ah a b) := by
  obtain ⟨q, h1, h2⟩ := apart_spec ha hb la lb n 0 (by omega) (by omega)
  unfold F8_path_Ahead
  rw [show (0 : Int) = ((0 : Nat) : Int) from rfl, h1]
  match q, h2 with
  | none, h2 =>
    have e : a = b := by simpa [Finds] using h2
    subst e
    simp [ah_self]
  | some (i, v), ⟨j, x, y, q1, q2, q3, q4, q5, q6, q7, q8, q9, q10, q11⟩ =>
    subst q3
    simp only [Option.bind_some, Int.ofNat_eq_natCast, rd_toI, q4, q5, Option.map_some]
    simp only [List.drop_zero] at q10
    rw [q10]; simp
theorem shared_val {a b : List Nat} {n : Nat} (hn : 33 ≤ n) (ha : Bys a) (hb : Bys b) (la : a.length = 32) (lb : b.length = 32) : F9_path_Shared n (toI a) (toI b) = some (Int.ofNat (sh a b)) := by
  obtain ⟨q, h1, h2⟩ := apart_spec ha hb la lb n 0 (by omega) (by omega)
  unfold F9_path_Shared
  rw [show (0 : Int) = ((0 : Nat) : Int) from rfl, h1]
  match q, h2 with
  | none, h2 =>
    have e : a = b := by simpa [Finds] using h2
    subst e
    simp [sh_self, la]
  | some (i, v), ⟨j, x, y, q1, q2, q3, q4, q5, q6, q7, q8, q9, q10, q11⟩ =>
    subst q3; subst q7
    simp only [Option.bind_some, lead (xor_lt q8 q9)]
    simp only [List.drop_zero] at q11
    have := lz_le (x ^^^ y)
    simp only [Int.ofNat_eq_natCast]
    rw [wrap_i64 (x := 8 * (j : Int)) (by omega) (by omega), wrap_i64 (by omega) (by omega), q11]
    exact congrArg some (by omega)
end Go.Proofs.Ytkhfhljfplflbaa
