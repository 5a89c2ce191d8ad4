/-
  Keys with one bit turned, and a key out of its bits. No machine is in sight.
-/
import Derived.Test.YtkhfhljfplflbaaWr
namespace Go.Proofs.Ytkhfhljfplflbaa
open Bd

theorem turn_tab {c r : Nat} (hc : c < 256) (hr : r < 8) : flip8 c r < 256 ∧ flip8 (flip8 c r) r = c ∧ c ≠ flip8 c r ∧ lzN (c ^^^ flip8 c r) = r ∧ decide (c < flip8 c r) = (bit8 c r == 0) ∧ bit8 c r < 2 ∧
    2 * (c / 2 ^ (8 - r)) + bit8 c r = c / 2 ^ (7 - r) ∧ c / 2 ^ (7 - r) < 256 := by
  have h := of_decide_eq_true (all2_get tab_turn hc hr)
  exact ⟨h.2.1, h.2.2.1, h.2.2.2.2.1, h.2.2.2.2.2.1, h.2.2.2.2.2.2.1, h.2.2.2.2.2.2.2.1, h.2.2.2.2.2.2.2.2.1, h.2.2.2.2.2.2.2.2.2⟩

theorem set_same {a : List Nat} {q x : Nat} (h : a[q]? = some x) : a.set q x = a := by
  refine List.ext_getElem? fun i => ?_
  rw [List.getElem?_set]
  by_cases e : q = i
  · subst e
    obtain ⟨h1, _⟩ := List.getElem?_eq_some_iff.1 h
    rw [if_pos rfl, if_pos h1, h]
  · rw [if_neg e]

section
variable {a : List Nat} {k : Nat}
theorem flip_len : (flip a k).length = a.length := by simp [flip]
theorem flip_bys (ha : Bys a) (la : a.length = 32) (hk : k < 256) : Bys (flip a k) := by
  intro x hx
  rcases List.mem_or_eq_of_mem_set hx with h | rfl
  · exact ha x h
  · exact (turn_tab (byteAt_lt ha la hk) (Nat.mod_lt k (by omega))).1
theorem flip_byte (la : a.length = 32) (hk : k < 256) : byteAt (flip a k) k = flip8 (byteAt a k) (k % 8) := by
  unfold flip
  rw [byteAt, List.getElem?_set_self (by omega)]; rfl
theorem flip_flip (ha : Bys a) (la : a.length = 32) (hk : k < 256) : flip (flip a k) k = a := by
  have h := (turn_tab (byteAt_lt ha la hk) (Nat.mod_lt k (by omega))).2.1
  rw [flip, flip_byte la hk, h, flip, List.set_set]
  exact set_same (byteAt_get la hk)

theorem flip_low {x : Nat} {a : List Nat} {k : Nat} (h : k < 8) : flip (x :: a) k = flip8 x k :: a := by
  unfold flip byteAt
  rw [show k / 8 = 0 from by omega, Nat.mod_eq_of_lt h]; rfl
theorem flip_high {x : Nat} {a : List Nat} {k : Nat} : flip (x :: a) (8 + k) = x :: flip a k := by
  unfold flip byteAt
  rw [show (8 + k) / 8 = k / 8 + 1 from by omega, show (8 + k) % 8 = k % 8 from by omega]; rfl
theorem bitv_low {x : Nat} {a : List Nat} {k : Nat} (h : k < 8) : bitv (x :: a) k = bit8 x k := by
  unfold bitv byteAt
  rw [show k / 8 = 0 from by omega, Nat.mod_eq_of_lt h]; rfl
theorem bitv_high {x : Nat} {a : List Nat} {k : Nat} : bitv (x :: a) (8 + k) = bitv a k := by
  unfold bitv byteAt
  rw [show (8 + k) / 8 = k / 8 + 1 from by omega, show (8 + k) % 8 = k % 8 from by omega]; rfl

theorem sh_flip : ∀ {a : List Nat} {k : Nat}, Bys a → k < 8 * a.length → sh a (flip a k) = k ∧ ah a (flip a k) = (bitv a k == 0)
  | [], k, _, h => by simp at h
  | x :: a, k, ha, h => by
    by_cases hk : k < 8
    · obtain ⟨_, _, h3, h4, h5, _⟩ := turn_tab (ha x (by simp)) hk
      rw [flip_low hk, bitv_low hk]
      simp only [sh, ah, if_neg h3]
      exact ⟨h4, h5⟩
    · obtain ⟨j, rfl⟩ : ∃ j, k = 8 + j := ⟨k - 8, by omega⟩
      obtain ⟨h1, h2⟩ := sh_flip (a := a) (k := j) (fun z hz => ha z (by simp [hz])) (by simp at h; omega)
      rw [flip_high, bitv_high]
      simp only [sh, ah, if_true, h1, h2, and_self]

/-- the bytes of which k bits have been laid -/
def partAt (a : List Nat) (k q : Nat) : Nat := if q < k / 8 then (a[q]?).getD 0 else if q = k / 8 then ((a[q]?).getD 0) / 2 ^ (8 - k % 8) else 0
def part (a : List Nat) (k : Nat) : List Nat := (List.range 32).map (partAt a k)

theorem part_get {q : Nat} (h : q < 32) : (part a k)[q]? = some (partAt a k q) := by
  simp [part, h]
theorem part_next (ha : Bys a) (la : a.length = 32) (hk : k < 256) : (part a k).set (k / 8) (2 * partAt a k (k / 8) + bitv a k) = part a (k + 1) := by
  obtain ⟨_, _, _, _, _, _, h7, _⟩ := turn_tab (byteAt_lt ha la hk) (Nat.mod_lt k (by omega : 8 > 0))
  refine List.ext_getElem? fun q => ?_
  by_cases hq : q < 32
  · rw [List.getElem?_set, part_get hq, part_get hq]
    have hb : (a[q]?).getD 0 < 256 := by
      rw [List.getElem?_eq_getElem (by omega)]; exact ha _ (List.getElem_mem _)
    by_cases e : k / 8 = q
    · subst e
      rw [if_pos rfl, if_pos (by simp [part]; omega)]
      refine congrArg some ?_
      have h1 : partAt a k (k / 8) = byteAt a k / 2 ^ (8 - k % 8) := by simp [partAt, byteAt]
      rw [h1, show bitv a k = bit8 (byteAt a k) (k % 8) from rfl, h7]
      unfold partAt
      by_cases h8 : k % 8 = 7
      · rw [if_pos (by omega), h8]; simp [byteAt]
      · rw [if_neg (by omega), if_pos (by omega), show 8 - (k + 1) % 8 = 7 - k % 8 from by omega]; rfl
    · rw [if_neg e]
      refine congrArg some ?_
      unfold partAt
      by_cases h1 : q < k / 8
      · rw [if_pos h1, if_pos (by omega)]
      · rw [if_neg h1, if_neg (Ne.symm e)]
        by_cases h2 : q = (k + 1) / 8
        · rw [if_neg (by omega), if_pos h2, show (k + 1) % 8 = 0 from by omega]
          exact (Nat.div_eq_of_lt hb).symm
        · rw [if_neg (by omega), if_neg h2]
  · rw [List.getElem?_eq_none (by simp [part]; omega), List.getElem?_eq_none (by simp [part]; omega)]
theorem part_zero (ha : Bys a) (la : a.length = 32) : part a 0 = List.replicate 32 0 := by
  refine List.ext_getElem? fun q => ?_
  by_cases hq : q < 32
  · rw [part_get hq, List.getElem?_replicate, if_pos hq]
    have hb : (a[q]?).getD 0 < 256 := by
      rw [List.getElem?_eq_getElem (by omega)]; exact ha _ (List.getElem_mem _)
    refine congrArg some ?_
    unfold partAt
    rw [if_neg (by omega)]
    split
    · exact Nat.div_eq_of_lt hb
    · rfl
  · rw [List.getElem?_eq_none (by simp [part]; omega), List.getElem?_eq_none (by simp; omega)]
theorem part_all (la : a.length = 32) : part a 256 = a := by
  refine List.ext_getElem? fun q => ?_
  by_cases hq : q < 32
  · rw [part_get hq, List.getElem?_eq_getElem (by omega)]
    refine congrArg some ?_
    unfold partAt
    rw [if_pos (by omega), List.getElem?_eq_getElem (by omega)]; rfl
  · rw [List.getElem?_eq_none (by simp [part]; omega), List.getElem?_eq_none (by omega)]

theorem loop_val (ha : Bys a) (la : a.length = 32) (hk : k < 256) {n : Nat} (hn : 34 ≤ n) : ∀ (d m : Nat), m + d = 256 →
    F6_beadrolllaw04_PathTurns_l0 (toI a) (k : Int) true (toI (flip a k), 0) (toI a, 0) (Int.ofNat (bitv a k), 0) (n + d) (m : Int) (toI (part a m)) = some true
  | 0, m, hm => by
    obtain ⟨j, rfl⟩ : ∃ j, n = j + 1 := ⟨n - 1, by omega⟩
    obtain ⟨h1, h2⟩ := sh_flip ha (k := k) (by omega)
    have lf : (flip a k).length = 32 := by rw [flip_len]; exact la
    have bf := flip_bys ha la hk
    have hm' : m = 256 := by omega
    subst hm'
    simp only [Nat.add_zero, F6_beadrolllaw04_PathTurns_l0]
    rw [if_neg (by simp)]
    simp only [if_true, shared_val (n := j) (by omega) ha bf la lf, ahead_val (n := j) (by omega) ha bf la lf, Option.bind_some, h1, h2, part_all la]
    by_cases e : bitv a k = 0
    · simp [e]
    · have e1 : (bitv a k == 0) = false := by simp [e]
      have e2 : ((bitv a k : Int) == 0) = false := by simp only [beq_eq_false_iff_ne]; omega
      simp [e1, e2]
  | d + 1, m, hm => by
    have ih := loop_val ha la hk hn d (m + 1) (by omega)
    have hm8 : m < 256 := by omega
    obtain ⟨_, _, _, _, _, h6, h7, h8⟩ := turn_tab (byteAt_lt ha la hm8) (Nat.mod_lt m (by omega : 8 > 0))
    have hb2 : bitv a m < 2 := h6
    have hpa : partAt a m (m / 8) = byteAt a m / 2 ^ (8 - m % 8) := by simp [partAt, byteAt]
    have hsum : 2 * partAt a m (m / 8) + bitv a m < 256 := by
      rw [hpa, show bitv a m = bit8 (byteAt a m) (m % 8) from rfl, h7]; exact h8
    rw [show n + (d + 1) = (n + d) + 1 from rfl]
    simp only [F6_beadrolllaw04_PathTurns_l0]
    rw [if_pos (by simp; omega), bit_val ha la hm8, Option.bind_some, if_neg (by simp), if_neg (by simp; omega)]
    rw [wrap_q hm8, rd_toI, part_get (by omega), Option.map_some, Option.bind_some, Option.bind_some, show (((m / 8 : Nat) : Int)).toNat = m / 8 from rfl]
    simp only [Int.ofNat_eq_natCast]
    rw [wrap_u8 (x := 2 * (partAt a m (m / 8) : Int)) (by omega) (by omega), wrap_u8 (by omega) (by omega), wrap_i64 (by omega) (by omega)]
    rw [show (2 * (partAt a m (m / 8) : Int) + (bitv a m : Int)) = Int.ofNat (2 * partAt a m (m / 8) + bitv a m) from by simp, set_toI, part_next ha la hm8]
    exact ih

theorem turns_val (halive : F7_beadrolllaw04_alive 300 = some true) (ha : Bys a) (la : a.length = 32) (i : Int) : F6_beadrolllaw04_PathTurns 300 (toI a) i = some true := by
  unfold F6_beadrolllaw04_PathTurns
  by_cases h0 : i < 0
  · have d1 : decide (i < 0) = true := by simp [h0]
    simp only [halive, F11_path_Turn, d1, if_true, Option.bind_some]
    simp
  · by_cases h1 : i ≥ 256
    · have d1 : decide (i < 0) = false := by simp; omega
      have d2 : decide (i ≥ 256) = true := by simp; omega
      simp only [halive, F11_path_Turn, d1, d2, if_true, Option.bind_some]
      simp
    · obtain ⟨k, rfl⟩ : ∃ k : Nat, i = (k : Int) := ⟨i.toNat, by omega⟩
      have hk : k < 256 := by omega
      have lf : (flip a k).length = 32 := by rw [flip_len]; exact la
      have bf := flip_bys ha la hk
      rw [halive, Option.bind_some, turn_val ha la hk, Option.bind_some, if_neg (by simp), turn_val bf lf hk, Option.bind_some, flip_flip ha la hk, bit_val ha la hk, Option.bind_some]
      have h := loop_val ha la hk (n := 44) (by omega) 256 0 (by omega)
      rw [part_zero ha la] at h
      exact h
end
end Go.Proofs.Ytkhfhljfplflbaa
