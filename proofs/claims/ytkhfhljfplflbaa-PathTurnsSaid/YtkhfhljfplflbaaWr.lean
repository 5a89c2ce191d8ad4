/-
  Keys' bits: what the printed functions of one bit answer, as functions on lists of numbers.
-/
import Derived.Test.YtkhfhljfplflbaaWq
namespace Go.Proofs.Ytkhfhljfplflbaa
open Bd

/-- a byte's bit, from the highest one on; a key's bit; a key with one bit turned -/
def bit8 (c r : Nat) : Nat := c / 2 ^ (7 - r) % 2
def byteAt (a : List Nat) (k : Nat) : Nat := (a[k / 8]?).getD 0
def bitv (a : List Nat) (k : Nat) : Nat := bit8 (byteAt a k) (k % 8)
def flip8 (c r : Nat) : Nat := c ^^^ 2 ^ (7 - r)
def flip (a : List Nat) (k : Nat) : List Nat := a.set (k / 8) (flip8 (byteAt a k) (k % 8))

def all2 (n m : Nat) (p : Nat → Nat → Bool) : Bool := (List.range n).all fun c => (List.range m).all fun r => p c r
theorem all2_get {n m : Nat} {p : Nat → Nat → Bool} (h : all2 n m p = true) {c r : Nat} (hc : c < n) (hr : r < m) : p c r = true :=
  List.all_eq_true.1 (List.all_eq_true.1 h c (List.mem_range.2 hc)) r (List.mem_range.2 hr)

theorem tab_bit : all2 256 8 (fun c r => decide (0 ≤ IntKind.i64.wrap ((7 : Int) - Int.ofNat r) ∧ bAnd .u8 (shr .u8 (Int.ofNat c) (IntKind.i64.wrap ((7 : Int) - Int.ofNat r))) (1 : Int) = Int.ofNat (bit8 c r))) = true := by kernel_rfl
theorem tab_at : all2 256 8 (fun c r => decide (F19_beadrollref04_At_l0 (Int.ofNat r) 8 (Int.ofNat c) (7 : Int) = some (Int.ofNat (bit8 c r)))) = true := by kernel_rfl
theorem tab_turn : all2 256 8 (fun c r => decide (bXor .u8 (Int.ofNat c) (shr .u8 (128 : Int) (Int.ofNat r)) = Int.ofNat (flip8 c r) ∧ flip8 c r < 256 ∧ flip8 (flip8 c r) r = c ∧
    (if bit8 c r = 1 then IntKind.u8.wrap (Int.ofNat c - Int.ofNat (2 ^ (7 - r))) else IntKind.u8.wrap (Int.ofNat c + Int.ofNat (2 ^ (7 - r)))) = Int.ofNat (flip8 c r) ∧
    c ≠ flip8 c r ∧ lzN (c ^^^ flip8 c r) = r ∧ decide (c < flip8 c r) = (bit8 c r == 0) ∧ bit8 c r < 2 ∧ 2 * (c / 2 ^ (8 - r)) + bit8 c r = c / 2 ^ (7 - r) ∧ c / 2 ^ (7 - r) < 256)) = true := by kernel_rfl

theorem tdiv8 (k : Nat) : Int.tdiv (k : Int) (8 : Int) = ((k / 8 : Nat) : Int) := rfl
theorem tmod8 (k : Nat) : Int.tmod (k : Int) (8 : Int) = ((k % 8 : Nat) : Int) := rfl

theorem at_congr {i i' : Int} (h : Int.tmod i 8 = Int.tmod i' 8) : ∀ (n : Nat) (c j : Int), F19_beadrollref04_At_l0 i n c j = F19_beadrollref04_At_l0 i' n c j
  | 0, _, _ => rfl
  | n + 1, c, j => by
    simp only [F19_beadrollref04_At_l0, h]
    split
    · exact at_congr h n _ _
    · rfl
theorem at_more {i : Int} {m : Nat} : ∀ (n : Nat) {c j v : Int}, F19_beadrollref04_At_l0 i n c j = some v → F19_beadrollref04_At_l0 i (n + m) c j = some v
  | 0, _, _, _, h => by simp [F19_beadrollref04_At_l0] at h
  | n + 1, c, j, v, h => by
    rw [show n + 1 + m = (n + m) + 1 from by omega]
    simp only [F19_beadrollref04_At_l0] at h ⊢
    split at h
    · next hc => rw [if_pos hc]; exact at_more n h
    · next hc => rw [if_neg hc]; exact h

section
variable {a : List Nat} {k n : Nat}
theorem byteAt_get (la : a.length = 32) (hk : k < 256) : a[k / 8]? = some (byteAt a k) := by
  unfold byteAt
  rw [List.getElem?_eq_getElem (by omega)]; rfl
theorem byteAt_lt (ha : Bys a) (la : a.length = 32) (hk : k < 256) : byteAt a k < 256 := ha _ (List.mem_of_getElem? (byteAt_get la hk))

theorem wrap_q (hk : k < 256) : IntKind.i64.wrap (Int.tdiv (k : Int) (8 : Int)) = ((k / 8 : Nat) : Int) := by rw [tdiv8]; exact wrap_i64 (by omega) (by omega)
theorem rd_q (la : a.length = 32) (hk : k < 256) : rd (toI a) (IntKind.i64.wrap (Int.tdiv (k : Int) (8 : Int))) = some (Int.ofNat (byteAt a k)) := by
  rw [wrap_q hk, rd_toI, byteAt_get la hk]; rfl

theorem bit_val (ha : Bys a) (la : a.length = 32) (hk : k < 256) : F10_path_Bit n (toI a) (k : Int) = some (Int.ofNat (bitv a k), 0) := by
  have h := of_decide_eq_true (all2_get tab_bit (byteAt_lt ha la hk) (Nat.mod_lt k (by omega : 8 > 0)))
  unfold F10_path_Bit
  rw [if_neg (by simp), if_neg (by simp; omega), rd_q la hk, Option.bind_some, tmod8, show ((k % 8 : Nat) : Int) = Int.ofNat (k % 8) from rfl]
  rw [if_pos h.1, h.2]; rfl
theorem at_val (ha : Bys a) (la : a.length = 32) (hk : k < 256) (hn : 8 ≤ n) : F19_beadrollref04_At n (toI a) (k : Int) = some (Int.ofNat (bitv a k)) := by
  have h := of_decide_eq_true (all2_get tab_at (byteAt_lt ha la hk) (Nat.mod_lt k (by omega : 8 > 0)))
  unfold F19_beadrollref04_At
  rw [rd_q la hk, Option.bind_some, at_congr (i' := Int.ofNat (k % 8)) (by show Int.tmod (k : Int) 8 = Int.tmod ((k % 8 : Nat) : Int) 8; rw [tmod8, tmod8, Nat.mod_mod])]
  have := at_more (m := n - 8) 8 h
  rwa [show 8 + (n - 8) = n from by omega] at this
theorem refbit_val (ha : Bys a) (la : a.length = 32) (hk : k < 256) (hn : 8 ≤ n) : F12_beadrollref04_Bit n (toI a) (k : Int) = some (Int.ofNat (bitv a k), 0) := by
  unfold F12_beadrollref04_Bit
  rw [if_neg (by simp), if_neg (by simp; omega), at_val ha la hk hn]; rfl

theorem set_toI {a : List Nat} {q x : Nat} : (toI a).set q (Int.ofNat x) = toI (a.set q x) := by rw [toI, toI, List.map_set]

theorem turn_val (ha : Bys a) (la : a.length = 32) (hk : k < 256) : F11_path_Turn n (toI a) (k : Int) = some (toI (flip a k), 0) := by
  have h := of_decide_eq_true (all2_get tab_turn (byteAt_lt ha la hk) (Nat.mod_lt k (by omega : 8 > 0)))
  unfold F11_path_Turn
  rw [if_neg (by simp), if_neg (by simp; omega), rd_q la hk, Option.bind_some, tmod8, if_pos (by omega), Option.bind_some]
  rw [show ((k % 8 : Nat) : Int) = Int.ofNat (k % 8) from rfl, h.1, wrap_q hk]
  rw [show (((k / 8 : Nat) : Int)).toNat = k / 8 from rfl, set_toI]; rfl

theorem refturn_l0 (ha : Bys a) (la : a.length = 32) (hk : k < 256) (hn : 9 ≤ n) : ∀ (d : Nat), k % 8 + d ≤ 7 →
    F13_beadrollref04_Turn_l0 (toI a) (k : Int) (n + d) (Int.ofNat (2 ^ (7 - (k % 8 + d)))) (((k % 8 + d : Nat)) : Int) = some (toI (flip a k), 0)
  | 0, _ => by
    have h := of_decide_eq_true (all2_get tab_turn (byteAt_lt ha la hk) (Nat.mod_lt k (by omega : 8 > 0)))
    obtain ⟨m, rfl⟩ : ∃ m, n = m + 1 := ⟨n - 1, by omega⟩
    simp only [Nat.add_zero, F13_beadrollref04_Turn_l0, tmod8]
    rw [if_neg (by simp), at_val ha la hk (by omega), Option.bind_some]
    simp only [rd_q la hk, Option.bind_some]
    have h4 := h.2.2.2.1
    rw [wrap_q hk, show (((k / 8 : Nat) : Int)).toNat = k / 8 from rfl]
    by_cases e : bitv a k = 1
    · rw [if_pos (by rw [e]; rfl)]
      rw [if_pos (show bit8 (byteAt a k) (k % 8) = 1 from e)] at h4
      rw [h4, set_toI]; rfl
    · rw [if_neg (by simp only [Int.ofNat_eq_natCast, beq_iff_eq]; omega)]
      rw [if_neg (show ¬ bit8 (byteAt a k) (k % 8) = 1 from e)] at h4
      rw [h4, set_toI]; rfl
  | d + 1, hd => by
    have ih := refturn_l0 ha la hk hn d (by omega)
    rw [show n + (d + 1) = (n + d) + 1 from rfl]
    simp only [F13_beadrollref04_Turn_l0, tmod8]
    rw [if_pos (by simp; omega)]
    rw [show IntKind.i64.wrap (((k % 8 + (d + 1) : Nat) : Int) - 1) = ((k % 8 + d : Nat) : Int) from by rw [wrap_i64 (by omega) (by omega)]; omega]
    have hp : 2 * 2 ^ (7 - (k % 8 + (d + 1))) = 2 ^ (7 - (k % 8 + d)) := by
      rw [show 7 - (k % 8 + d) = (7 - (k % 8 + (d + 1))) + 1 from by omega, Nat.pow_succ, Nat.mul_comm]
    have hl : 2 ^ (7 - (k % 8 + d)) < 2 ^ 8 := Nat.pow_lt_pow_right (by omega) (by omega)
    rw [show IntKind.u8.wrap ((2 : Int) * Int.ofNat (2 ^ (7 - (k % 8 + (d + 1))))) = Int.ofNat (2 ^ (7 - (k % 8 + d))) from by
      simp only [Int.ofNat_eq_natCast]
      rw [wrap_u8 (by omega) (by omega)]; omega]
    exact ih
theorem refturn_val (ha : Bys a) (la : a.length = 32) (hk : k < 256) (hn : 17 ≤ n) : F13_beadrollref04_Turn n (toI a) (k : Int) = some (toI (flip a k), 0) := by
  have h := refturn_l0 (n := n - (7 - k % 8)) ha la hk (by omega) (7 - k % 8) (by omega)
  rw [show n - (7 - k % 8) + (7 - k % 8) = n from by omega, show k % 8 + (7 - k % 8) = 7 from by omega] at h
  unfold F13_beadrollref04_Turn
  rw [if_neg (by simp), if_neg (by simp; omega)]
  exact h
end
end Go.Proofs.Ytkhfhljfplflbaa
