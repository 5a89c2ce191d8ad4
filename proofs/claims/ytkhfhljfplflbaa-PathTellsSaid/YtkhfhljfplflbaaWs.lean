/-
  Keys' bits and what two keys share: bit by bit, byte by byte. No machine is in sight.
-/
import Derived.Test.YtkhfhljfplflbaaWr
namespace Go.Proofs.Ytkhfhljfplflbaa
open Bd

def differ (x y : Nat) : Bool :=
  Nat.beq x y || (let r := lzN (x ^^^ y); Nat.blt r 8 && (List.range 8).all (fun i => Nat.ble r i || Nat.beq (bit8 x i) (bit8 y i)) && !(Nat.beq (bit8 x r) (bit8 y r)) && (Nat.blt (bit8 x r) (bit8 y r) == Nat.blt x y))
theorem tab_differ : all2 256 256 differ = true := by kernel_rfl
theorem differ_get {x y : Nat} (hx : x < 256) (hy : y < 256) (h : x ≠ y) : lzN (x ^^^ y) < 8 ∧ (∀ i, i < lzN (x ^^^ y) → bit8 x i = bit8 y i) ∧ bit8 x (lzN (x ^^^ y)) ≠ bit8 y (lzN (x ^^^ y)) ∧
    decide (bit8 x (lzN (x ^^^ y)) < bit8 y (lzN (x ^^^ y))) = decide (x < y) := by
  have hd := all2_get tab_differ hx hy
  simp only [differ, Bool.or_eq_true, Bool.and_eq_true, Nat.beq_eq, List.all_eq_true, List.mem_range, Nat.blt_eq, Nat.ble_eq, Bool.not_eq_true', beq_iff_eq] at hd
  rcases hd with hd | ⟨⟨⟨h1, h2⟩, h3⟩, h4⟩
  · exact absurd hd h
  · refine ⟨h1, fun i hi => ?_, ?_, ?_⟩
    · rcases h2 i (by omega) with h2 | h2
      · omega
      · exact h2
    · intro e; rw [e] at h3; simp at h3
    · have e1 : decide (bit8 x (lzN (x ^^^ y)) < bit8 y (lzN (x ^^^ y))) = Nat.blt (bit8 x (lzN (x ^^^ y))) (bit8 y (lzN (x ^^^ y))) := by
        rw [Bool.eq_iff_iff, Nat.blt_eq, decide_eq_true_iff]
      have e2 : decide (x < y) = Nat.blt x y := by rw [Bool.eq_iff_iff, Nat.blt_eq, decide_eq_true_iff]
      rw [e1, e2, h4]

theorem bitv_low {x : Nat} {a : List Nat} {k : Nat} (h : k < 8) : bitv (x :: a) k = bit8 x k := by
  unfold bitv byteAt
  rw [show k / 8 = 0 from by omega, Nat.mod_eq_of_lt h]; rfl
theorem bitv_high {x : Nat} {a : List Nat} {k : Nat} : bitv (x :: a) (8 + k) = bitv a k := by
  unfold bitv byteAt
  rw [show (8 + k) / 8 = k / 8 + 1 from by omega, show (8 + k) % 8 = k % 8 from by omega]; rfl

theorem sh_bits : ∀ {a b : List Nat}, Bys a → Bys b → a.length = b.length → (∀ k, k < sh a b → bitv a k = bitv b k) ∧
    (sh a b < 8 * a.length → bitv a (sh a b) ≠ bitv b (sh a b) ∧ decide (bitv a (sh a b) < bitv b (sh a b)) = ah a b)
  | [], [], _, _, _ => by simp [sh]
  | x :: a, y :: b, ha, hb, hl => by
    by_cases e : x = y
    · subst e
      obtain ⟨h1, h2⟩ := sh_bits (a := a) (b := b) (fun z hz => ha z (by simp [hz])) (fun z hz => hb z (by simp [hz])) (by simpa using hl)
      simp only [sh, ah, if_true]
      refine ⟨fun k hk => ?_, fun hlt => ?_⟩
      · by_cases hk8 : k < 8
        · rw [bitv_low hk8, bitv_low hk8]
        · obtain ⟨j, rfl⟩ : ∃ j, k = 8 + j := ⟨k - 8, by omega⟩
          rw [bitv_high, bitv_high]; exact h1 j (by omega)
      · rw [bitv_high, bitv_high]; exact h2 (by simp at hlt; omega)
    · obtain ⟨h1, h2, h3, h4⟩ := differ_get (ha x (by simp)) (hb y (by simp)) e
      simp only [sh, ah, if_neg e]
      refine ⟨fun k hk => ?_, fun _ => ?_⟩
      · rw [bitv_low (by omega), bitv_low (by omega)]; exact h2 k hk
      · rw [bitv_low h1, bitv_low h1]; exact ⟨h3, h4⟩
  | [], _ :: _, _, _, hl => by simp at hl
  | _ :: _, [], _, _, hl => by simp at hl

section
variable {a b : List Nat}
theorem refshared_l0 (ha : Bys a) (hb : Bys b) (la : a.length = 32) (lb : b.length = 32) (n : Nat) (hn : 9 ≤ n) : ∀ (d k : Nat), k + d = sh a b →
    F14_beadrollref04_Shared_l0 (toI a) (toI b) (n + d) (k : Int) = some (Int.ofNat (sh a b))
  | 0, k, hk => by
    have hle := (sh_le ha hb).1
    obtain ⟨m, rfl⟩ : ∃ m, n = m + 1 := ⟨n - 1, by omega⟩
    obtain ⟨h1, h2⟩ := sh_bits ha hb (by omega)
    simp only [Nat.add_zero] at hk ⊢
    simp only [F14_beadrollref04_Shared_l0]
    by_cases h8 : k < 256
    · rw [if_pos (by simp; omega), at_val ha la h8 (by omega), Option.bind_some, at_val hb lb h8 (by omega), Option.bind_some]
      rw [if_neg (by
        simp only [Int.ofNat_eq_natCast, beq_iff_eq]
        have := (h2 (by omega)).1
        rw [← hk] at this
        omega)]
      rw [hk]; rfl
    · rw [if_neg (by simp; omega), hk]; rfl
  | d + 1, k, hk => by
    have hle := (sh_le ha hb).1
    have ih := refshared_l0 ha hb la lb n hn d (k + 1) (by omega)
    have h8 : k < 256 := by omega
    obtain ⟨h1, _⟩ := sh_bits ha hb (by omega)
    rw [show n + (d + 1) = (n + d) + 1 from rfl]
    simp only [F14_beadrollref04_Shared_l0]
    rw [if_pos (by simp; omega), at_val ha la h8 (by omega), Option.bind_some, at_val hb lb h8 (by omega), Option.bind_some, h1 k (by omega), if_pos (by simp), wrap_i64 (by omega) (by omega)]
    exact ih
theorem refshared_val (ha : Bys a) (hb : Bys b) (la : a.length = 32) (lb : b.length = 32) : F14_beadrollref04_Shared 300 (toI a) (toI b) = some (Int.ofNat (sh a b)) := by
  have hle := (sh_le ha hb).1
  have h := refshared_l0 ha hb la lb (300 - sh a b) (by omega) (sh a b) 0 (by omega)
  rw [show 300 - sh a b + sh a b = 300 from by omega] at h
  exact h
theorem refahead_val (ha : Bys a) (hb : Bys b) (la : a.length = 32) (lb : b.length = 32) : F15_beadrollref04_Ahead 300 (toI a) (toI b) = some (ah a b) := by
  have hle := sh_le ha hb
  obtain ⟨h1, h2⟩ := sh_bits ha hb (by omega)
  unfold F15_beadrollref04_Ahead
  rw [refshared_val ha hb la lb, Option.bind_some]
  simp only [Int.ofNat_eq_natCast]
  by_cases h8 : sh a b < 256
  · rw [if_pos (by simp; omega), at_val ha la h8 (by omega), Option.bind_some, at_val hb lb h8 (by omega), Option.bind_some]
    have := (h2 (by omega)).2
    rw [← this]; simp
  · rw [if_neg (by simp; omega)]
    have e : a = b := (hle.2 (by omega)).1 (by omega)
    subst e; rw [ah_self]

theorem tells_val (ha : Bys a) (hb : Bys b) (la : a.length = 32) (lb : b.length = 32) (i : Int) : F5_beadrolllaw04_PathTells 300 (toI a) (toI b) i = some true := by
  have e1 := ahead_val (n := 300) (by omega) ha hb la lb
  have e2 := refahead_val ha hb la lb
  have s1 := shared_val (n := 300) (by omega) ha hb la lb
  have s2 := refshared_val ha hb la lb
  unfold F5_beadrolllaw04_PathTells
  by_cases h0 : i < 0
  · have d1 : decide (i < 0) = true := by simp [h0]
    simp only [F10_path_Bit, F12_beadrollref04_Bit, F11_path_Turn, F13_beadrollref04_Turn, d1, if_true, Option.bind_some, e1, e2, s1, s2]
    simp
  · by_cases h1 : i ≥ 256
    · have d1 : decide (i < 0) = false := by simp; omega
      have d2 : decide (i ≥ 256) = true := by simp; omega
      simp only [F10_path_Bit, F12_beadrollref04_Bit, F11_path_Turn, F13_beadrollref04_Turn, d1, d2, if_true, Option.bind_some, e1, e2, s1, s2]
      simp
    · obtain ⟨k, rfl⟩ : ∃ k : Nat, i = (k : Int) := ⟨i.toNat, by omega⟩
      have hk : k < 256 := by omega
      simp only [bit_val ha la hk, refbit_val ha la hk (n := 300) (by omega), turn_val ha la hk, refturn_val ha la hk (n := 300) (by omega), Option.bind_some, e1, e2, s1, s2]
      simp
end
end Go.Proofs.Ytkhfhljfplflbaa
