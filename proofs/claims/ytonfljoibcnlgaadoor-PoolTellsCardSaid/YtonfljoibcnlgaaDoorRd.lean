/-
  The reference's order of keys is the program's: bit by bit. No machine is in sight.
-/
import Derived.Test.YtonfljoibcnlgaaDoorQb
import Derived.KernelRfl
namespace Go.Proofs.YtonfljoibcnlgaaDoor
open Bd Go

/-- a byte's bit, from the highest one on; a key's bit; a key with one bit turned -/
def bit8 (c r : Nat) : Nat := c / 2 ^ (7 - r) % 2
def byteAt (a : List Nat) (k : Nat) : Nat := (a[k / 8]?).getD 0
def bitv (a : List Nat) (k : Nat) : Nat := bit8 (byteAt a k) (k % 8)

def all2 (n m : Nat) (p : Nat → Nat → Bool) : Bool := (List.range n).all fun c => (List.range m).all fun r => p c r
theorem all2_get {n m : Nat} {p : Nat → Nat → Bool} (h : all2 n m p = true) {c r : Nat} (hc : c < n) (hr : r < m) : p c r = true :=
  List.all_eq_true.1 (List.all_eq_true.1 h c (List.mem_range.2 hc)) r (List.mem_range.2 hr)

theorem loop_seq' {σ β : Type} {f : σ → Option (σ ⊕ β)} (g : Nat → σ) (r : β) (N : Nat) (h : ∀ t, t < N → f (g t) = some (.inl (g (t + 1)))) (hr : f (g N) = some (.inr r)) (hn : N < 300) : loopF f 300 (g 0) = some r := by
  have key : ∀ (M k n : Nat), k + M = N → M < n → loopF f n (g k) = some r := by
    intro M
    induction M with
    | zero => intro k n hk hn; obtain ⟨n, rfl⟩ : ∃ m, n = m + 1 := ⟨n - 1, by omega⟩; simp only [loopF]; rw [show k = N from by omega, hr]
    | succ M ih =>
      intro k n hk hn
      obtain ⟨n, rfl⟩ : ∃ m, n = m + 1 := ⟨n - 1, by omega⟩
      simp only [loopF]
      rw [h k (by omega)]
      exact ih (k + 1) n (by omega) (by omega)
  exact key N 0 300 (by omega) hn
theorem tab_at : all2 256 8 (fun c r => decide ((loopF (fun z : Int × Int => F152_beadrollref04_At_s0 (Int.ofNat r) z.1 z.2) 300 (Int.ofNat c, (7 : Int))).map (fun v => Int.tmod v 2) = some (Int.ofNat (bit8 c r)))) = true := by kernel_rfl
theorem tdiv8 (k : Nat) : Int.tdiv (k : Int) (8 : Int) = ((k / 8 : Nat) : Int) := rfl
theorem tmod8 (k : Nat) : Int.tmod (k : Int) (8 : Int) = ((k % 8 : Nat) : Int) := rfl
section
variable {a : List Nat} {k n : Nat}
theorem byteAt_get (la : a.length = 32) (hk : k < 256) : a[k / 8]? = some (byteAt a k) := by
  unfold byteAt
  rw [List.getElem?_eq_getElem (by omega)]; rfl
theorem byteAt_lt (ha : Bys a) (la : a.length = 32) (hk : k < 256) : byteAt a k < 256 := ha _ (List.mem_of_getElem? (byteAt_get la hk))
theorem wrap_q (hk : k < 256) : IntKind.i64.wrap (Int.tdiv (k : Int) (8 : Int)) = ((k / 8 : Nat) : Int) := by rw [tdiv8]; exact wi64 (by omega) (by omega)
theorem rd_q (la : a.length = 32) (hk : k < 256) : rd (toI a) (IntKind.i64.wrap (Int.tdiv (k : Int) (8 : Int))) = some (Int.ofNat (byteAt a k)) := by
  rw [wrap_q hk, rd_toI, byteAt_get la hk]; rfl
theorem at_val (ha : Bys a) (la : a.length = 32) (hk : k < 256) : F152_beadrollref04_At 300 (toI a) (k : Int) = some (Int.ofNat (bitv a k)) := by
  have h := of_decide_eq_true (all2_get tab_at (byteAt_lt ha la hk) (Nat.mod_lt k (by omega : 8 > 0)))
  have hc : (fun z : Int × Int => F152_beadrollref04_At_s0 (k : Int) z.1 z.2) = fun z : Int × Int => F152_beadrollref04_At_s0 (Int.ofNat (k % 8)) z.1 z.2 := by
    funext z
    unfold F152_beadrollref04_At_s0
    have e : Int.tmod (Int.ofNat (k % 8)) 8 = Int.tmod (k : Int) 8 := by
      show Int.tmod ((k % 8 : Nat) : Int) 8 = Int.tmod (k : Int) 8
      rw [tmod8, tmod8, Nat.mod_mod]
    rw [e]
  unfold F152_beadrollref04_At
  rw [rd_q la hk]
  simp only [Option.bind_some]
  rw [hc]
  cases hl : loopF (fun z : Int × Int => F152_beadrollref04_At_s0 (Int.ofNat (k % 8)) z.1 z.2) 300 (Int.ofNat (byteAt a k), (7 : Int)) with
  | none => rw [hl] at h; cases h
  | some v => rw [hl] at h; exact h
end
def differ (x y : Nat) : Bool :=
  Nat.beq x y || (let r := lzN (x ^^^ y); Nat.blt r 8 && (List.range 8).all (fun i => Nat.ble r i || Nat.beq (bit8 x i) (bit8 y i)) && !(Nat.beq (bit8 x r) (bit8 y r)) && (Nat.blt (bit8 x r) (bit8 y r) == Nat.blt x y))
theorem tab_differ : all2 256 256 differ = true := by kernel_rfl
theorem differ_get {x y : Nat} (hx : x < 256) (hy : y < 256) (h : x ≠ y) : lzN (x ^^^ y) < 8 ∧ (∀ i, i < lzN (x ^^^ y) → bit8 x i = bit8 y i) ∧ bit8 x (lzN (x ^^^ y)) ≠ bit8 y (lzN (x ^^^ y)) ∧
    decide (bit8 x (lzN (x ^^^ y)) < bit8 y (lzN (x ^^^ y))) = decide (x < y) := by
  have hd := all2_get tab_differ hx hy
  simp only [differ, Bool.or_eq_true, Bool.and_eq_true, Nat.beq_eq, List.all_eq_true, List.mem_range, Nat.blt_eq, Nat.ble_eq, Bool.not_eq_true', beq_iff_eq] at hd
  rcases hd with hd | ⟨⟨⟨h1, h2⟩, h3⟩, h4⟩
  · exact absurd hd h
  · refine ⟨h1, fun i hi => ?_, ?_, ?_⟩
    · rcases h2 i (by omega) with h2 | h2
      · omega
      · exact h2
    · intro e; rw [e] at h3; simp at h3
    · have e1 : decide (bit8 x (lzN (x ^^^ y)) < bit8 y (lzN (x ^^^ y))) = Nat.blt (bit8 x (lzN (x ^^^ y))) (bit8 y (lzN (x ^^^ y))) := by
        rw [Bool.eq_iff_iff, Nat.blt_eq, decide_eq_true_iff]
      have e2 : decide (x < y) = Nat.blt x y := by rw [Bool.eq_iff_iff, Nat.blt_eq, decide_eq_true_iff]
      rw [e1, e2, h4]

theorem bitv_low {x : Nat} {a : List Nat} {k : Nat} (h : k < 8) : bitv (x :: a) k = bit8 x k := by
  unfold bitv byteAt
  rw [show k / 8 = 0 from by omega, Nat.mod_eq_of_lt h]; rfl
theorem bitv_high {x : Nat} {a : List Nat} {k : Nat} : bitv (x :: a) (8 + k) = bitv a k := by
  unfold bitv byteAt
  rw [show (8 + k) / 8 = k / 8 + 1 from by omega, show (8 + k) % 8 = k % 8 from by omega]; rfl

theorem sh_bits : ∀ {a b : List Nat}, Bys a → Bys b → a.length = b.length → (∀ k, k < sh a b → bitv a k = bitv b k) ∧
    (sh a b < 8 * a.length → bitv a (sh a b) ≠ bitv b (sh a b) ∧ decide (bitv a (sh a b) < bitv b (sh a b)) = ah a b)
  | [], [], _, _, _ => by simp [sh]
  | x :: a, y :: b, ha, hb, hl => by
    by_cases e : x = y
    · subst e
      obtain ⟨h1, h2⟩ := sh_bits (a := a) (b := b) (fun z hz => ha z (by simp [hz])) (fun z hz => hb z (by simp [hz])) (by simpa using hl)
      simp only [sh, ah, if_true]
      refine ⟨fun k hk => ?_, fun hlt => ?_⟩
      · by_cases hk8 : k < 8
        · rw [bitv_low hk8, bitv_low hk8]
        · obtain ⟨j, rfl⟩ : ∃ j, k = 8 + j := ⟨k - 8, by omega⟩
          rw [bitv_high, bitv_high]; exact h1 j (by omega)
      · rw [bitv_high, bitv_high]; exact h2 (by simp at hlt; omega)
    · obtain ⟨h1, h2, h3, h4⟩ := differ_get (ha x (by simp)) (hb y (by simp)) e
      simp only [sh, ah, if_neg e]
      refine ⟨fun k hk => ?_, fun _ => ?_⟩
      · rw [bitv_low (by omega), bitv_low (by omega)]; exact h2 k hk
      · rw [bitv_low h1, bitv_low h1]; exact ⟨h3, h4⟩
  | [], _ :: _, _, _, hl => by simp at hl
  | _ :: _, [], _, _, hl => by simp at hl

section
variable {a b : List Nat}
theorem refshared_val (ha : Bys a) (hb : Bys b) (la : a.length = 32) (lb : b.length = 32) : F151_beadrollref04_Shared 300 (toI a) (toI b) = some (Int.ofNat (sh a b)) := by
  have hle := (sh_le ha hb).1
  obtain ⟨h1, h2⟩ := sh_bits ha hb (by omega)
  unfold F151_beadrollref04_Shared
  have h := loop_seq' (f := fun z => F151_beadrollref04_Shared_s0 300 (toI a) (toI b) z) (fun t : Nat => (t : Int)) (Int.ofNat (sh a b)) (sh a b) (fun t ht => ?_) ?_ (by omega)
  · rw [show (0 : Int) = ((0 : Nat) : Int) from rfl, h]; rfl
  · unfold F151_beadrollref04_Shared_s0
    rw [if_pos (by simp; omega), at_val ha la (by omega), at_val hb lb (by omega)]
    simp only [Option.bind_some]
    rw [h1 t ht, if_pos (by simp), wi64 (by omega) (by omega)]
    rfl
  · unfold F151_beadrollref04_Shared_s0
    by_cases h8 : sh a b < 256
    · rw [if_pos (by simp; omega), at_val ha la h8, at_val hb lb h8]
      simp only [Option.bind_some]
      rw [if_neg (by
        simp only [Int.ofNat_eq_natCast, beq_iff_eq]
        have := (h2 (by omega)).1
        omega)]
      rfl
    · rw [if_neg (by simp; omega)]
      rfl
theorem refahead_val (ha : Bys a) (hb : Bys b) (la : a.length = 32) (lb : b.length = 32) : F124_beadrollref04_Ahead 300 (toI a) (toI b) = some (ah a b) := by
  have hle := sh_le ha hb
  obtain ⟨h1, h2⟩ := sh_bits ha hb (by omega)
  unfold F124_beadrollref04_Ahead
  rw [refshared_val ha hb la lb, Option.bind_some]
  simp only [Int.ofNat_eq_natCast]
  by_cases h8 : sh a b < 256
  · rw [if_pos (by simp; omega), at_val ha la h8, at_val hb lb h8]
    simp only [Option.bind_some]
    have := (h2 (by omega)).2
    rw [← this]; simp
  · rw [if_neg (by simp; omega)]
    have e : a = b := (hle.2 (by omega)).1 (by omega)
    subst e; rw [ah_self]; rfl
end
theorem reflt_val {a b : List Int} (ha : Dig a) (hb : Dig b) : F124_beadrollref04_Ahead 300 a b = some (lt a b) := by
  have := refahead_val (aN_bys ha) (aN_bys hb) (aN_len ha) (aN_len hb)
  rwa [aN_toI ha, aN_toI hb] at this
end Go.Proofs.YtonfljoibcnlgaaDoor
