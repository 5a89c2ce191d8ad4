/-
  The reference's hash is the program's: on bytes, as functions on lists of numbers. No machine is in sight.
-/
import Derived.Test.YtonfljoibcnlgaaDoorQb
namespace Go.Proofs.YtonfljoibcnlgaaDoor
open Bd Go

/-! ### loops by their states -/
theorem loop_seq {σ β : Type} {f : σ → Option (σ ⊕ β)} (g : Nat → σ) (r : β) : ∀ (N k n : Nat), (∀ t, k ≤ t → t < k + N → f (g t) = some (.inl (g (t + 1)))) → f (g (k + N)) = some (.inr r) → N < n → loopF f n (g k) = some r
  | 0, k, n + 1, _, hr, _ => by simp only [loopF]; rw [show k = k + 0 from rfl, hr]
  | N + 1, k, n + 1, h, hr, hn => by
    simp only [loopF]
    rw [h k (Nat.le_refl _) (by omega)]
    exact loop_seq g r N (k + 1) n (fun t h1 h2 => h t (by omega) (by omega)) (by rw [show k + 1 + N = k + (N + 1) from by omega]; exact hr) (by omega)
  | _, _, 0, _, _, hn => by omega
theorem loop_to {σ β : Type} {f : σ → Option (σ ⊕ β)} (g : Nat → σ) (r : β) (N : Nat) (h : ∀ t, t < N → f (g t) = some (.inl (g (t + 1)))) (hr : f (g N) = some (.inr r)) (hn : N < 300) : loopF f 300 (g 0) = some r :=
  loop_seq g r N 0 300 (fun t _ h2 => h t (by omega)) (by rw [Nat.zero_add]; exact hr) hn
theorem loop_cong {σ β : Type} {f g : σ → Option (σ ⊕ β)} (I : σ → Prop) (h : ∀ z, I z → f z = g z ∧ ∀ z', g z = some (.inl z') → I z') : ∀ (n : Nat) (z : σ), I z → loopF f n z = loopF g n z
  | 0, _, _ => rfl
  | n + 1, z, hz => by
    obtain ⟨h1, h2⟩ := h z hz
    simp only [loopF]
    rw [h1]
    cases hg : g z with
    | none => rfl
    | some o =>
      cases o with
      | inl z' => exact loop_cong I h n z' (h2 z' hg)
      | inr b => rfl

/-! ### bits -/
theorem ofN32 {x : Nat} (h : x < 4294967296) : BitVec.ofInt 32 (x : Int) = BitVec.ofNat 32 x := by simp
theorem or_u32 {x y : Nat} (hx : x < 4294967296) (hy : y < 4294967296) : bOr .u32 (x : Int) (y : Int) = ((x ||| y : Nat) : Int) := by
  have h : x ||| y < 2 ^ 32 := Nat.or_lt_two_pow (by simpa using hx) (by simpa using hy)
  show IntKind.u32.wrap (((BitVec.ofInt 32 (x : Int)) ||| (BitVec.ofInt 32 (y : Int))).toNat : Int) = _
  rw [ofN32 hx, ofN32 hy, BitVec.toNat_or, BitVec.toNat_ofNat, BitVec.toNat_ofNat, Nat.mod_eq_of_lt (by simpa using hx), Nat.mod_eq_of_lt (by simpa using hy)]
  exact wu32 (by omega) (by have : (2 : Nat) ^ 32 = 4294967296 := rfl; omega)
theorem bOr_comm (k : IntKind) (x y : Int) : bOr k x y = bOr k y x := by unfold bOr; rw [BitVec.or_comm]
theorem com_u32 {x : Int} (h0 : 0 ≤ x) (h1 : x < 4294967296) : bCom .u32 x = IntKind.u32.wrap (4294967295 - x) := by
  obtain ⟨n, rfl⟩ := Int.eq_ofNat_of_zero_le h0
  have hn : n < 4294967296 := by omega
  show IntKind.u32.wrap (((BitVec.ofInt 32 4294967295) ^^^ (BitVec.ofInt 32 (n : Int))).toNat : Int) = _
  have e1 : BitVec.ofInt 32 4294967295 = BitVec.allOnes 32 := by decide
  rw [e1, BitVec.allOnes_xor, ofN32 hn, BitVec.toNat_not, BitVec.toNat_ofNat, Nat.mod_eq_of_lt (by simpa using hn)]
  congr 1
  have : (2 : Nat) ^ 32 = 4294967296 := rfl
  omega
theorem or_add {a b i : Nat} (h : b < 2 ^ i) : (a * 2 ^ i ||| b) = a * 2 ^ i + b := by rw [Nat.mul_comm, Nat.two_pow_add_eq_or_of_lt h]
theorem shl_u32 {x : Int} {i : Nat} (hi : i ≤ 32) (h0 : 0 ≤ x) (h1 : x * 2 ^ i < 4294967296) : shl .u32 x (i : Int) = x * 2 ^ i := by
  unfold shl
  have : min (Int.toNat (i : Int)) (IntKind.bits .u32) = i := by
    have : IntKind.bits .u32 = 32 := rfl
    omega
  rw [this]
  exact wu32 (Int.mul_nonneg h0 (Int.le_of_lt (Int.pow_pos (by decide)))) h1
theorem f2_aux (a b c : Nat) : (a * 256 + b) * 65536 + c * 256 = (a * 65536 + b * 256 + c) * 256 := by
  simp only [Nat.add_mul, Nat.mul_assoc]
theorem word_eq {a b c d : Int} (ha : 0 ≤ a ∧ a < 256) (hb : 0 ≤ b ∧ b < 256) (hc : 0 ≤ c ∧ c < 256) (hd : 0 ≤ d ∧ d < 256) :
    bOr .u32 (bOr .u32 (bOr .u32 (shl .u32 (IntKind.u32.wrap a) 24) (shl .u32 (IntKind.u32.wrap b) 16)) (shl .u32 (IntKind.u32.wrap c) 8)) (IntKind.u32.wrap d) = a * 16777216 + b * 65536 + c * 256 + d := by
  rw [wu32 (x := a) (by omega) (by omega), wu32 (x := b) (by omega) (by omega), wu32 (x := c) (by omega) (by omega), wu32 (x := d) (by omega) (by omega)]
  have s1 := shl_u32 (x := a) (i := 24) (by omega) ha.1 (by omega)
  have s2 := shl_u32 (x := b) (i := 16) (by omega) hb.1 (by omega)
  have s3 := shl_u32 (x := c) (i := 8) (by omega) hc.1 (by omega)
  simp only [Int.cast_ofNat_Int] at s1 s2 s3
  obtain ⟨a, rfl⟩ := Int.eq_ofNat_of_zero_le ha.1
  obtain ⟨b, rfl⟩ := Int.eq_ofNat_of_zero_le hb.1
  obtain ⟨c, rfl⟩ := Int.eq_ofNat_of_zero_le hc.1
  obtain ⟨d, rfl⟩ := Int.eq_ofNat_of_zero_le hd.1
  rw [s1, s2, s3]
  have e1 : (a : Int) * 2 ^ 24 = ((a * 2 ^ 24 : Nat) : Int) := by simp
  have e2 : (b : Int) * 2 ^ 16 = ((b * 2 ^ 16 : Nat) : Int) := by simp
  have e3 : (c : Int) * 2 ^ 8 = ((c * 2 ^ 8 : Nat) : Int) := by simp
  rw [e1, e2, e3]
  have p24 : (2 : Nat) ^ 24 = 16777216 := rfl
  have p16 : (2 : Nat) ^ 16 = 65536 := rfl
  have p8 : (2 : Nat) ^ 8 = 256 := rfl
  rw [or_u32 (by omega) (by omega), or_add (by omega)]
  have f1 : a * 2 ^ 24 + b * 2 ^ 16 = (a * 256 + b) * 2 ^ 16 := by omega
  rw [f1, or_u32 (by omega) (by omega), or_add (by omega)]
  have f2 : (a * 256 + b) * 2 ^ 16 + c * 2 ^ 8 = (a * 65536 + b * 256 + c) * 2 ^ 8 := f2_aux a b c
  rw [f2, or_u32 (by omega) (by omega), or_add (by omega)]
  omega

/-- a word that is turned -/
def rot (x c : Int) : Int := bOr .u32 (shr .u32 x c) (shl .u32 x (IntKind.u32.wrap (32 - c)))
theorem rot_ref (x : Int) {c : Int} (h0 : 0 ≤ c) (h1 : c < 32) : F182_beadrollref02_turn 300 x c = some (rot x c) := by
  unfold F182_beadrollref02_turn rot
  rw [if_pos h0, if_pos (by rw [wu32 (by omega) (by omega)]; omega)]
theorem rot_own (x : Int) {c : Int} (hc : c = 2 ∨ c = 6 ∨ c = 7 ∨ c = 11 ∨ c = 13 ∨ c = 17 ∨ c = 18 ∨ c = 19 ∨ c = 22 ∨ c = 25) : F170_sha_turned 300 x c = some (rot x c) := by
  have key : ∀ c : Int, (bAnd .u64 (IntKind.u64.wrap (IntKind.i64.wrap (0 - c))) 31 = IntKind.u32.wrap (32 - c)) → (0 ≤ IntKind.u32.wrap (32 - c)) → (IntKind.u64.wrap (32 - IntKind.u32.wrap (32 - c)) = c) → 0 ≤ c → F170_sha_turned 300 x c = some (rot x c) := fun c h1 h2 h3 h4 => by
    unfold F170_sha_turned F176_bits_RotateLeft32 rot
    rw [h1, if_pos h2, h3, if_pos h4, bOr_comm]; rfl
  rcases hc with rfl | rfl | rfl | rfl | rfl | rfl | rfl | rfl | rfl | rfl <;> exact key _ (by decide +kernel) (by decide +kernel) (by decide +kernel) (by decide)

/-! ### the words of a block -/
def mixW (w : List Int) (t : Nat) : Int :=
  IntKind.u32.wrap ((IntKind.u32.wrap ((IntKind.u32.wrap (w.getD (t - 16) 0 + (bXor .u32 (bXor .u32 (rot (w.getD (t - 15) 0) 7) (rot (w.getD (t - 15) 0) 18)) (shr .u32 (w.getD (t - 15) 0) 3)))) + w.getD (t - 7) 0)) + (bXor .u32 (bXor .u32 (rot (w.getD (t - 2) 0) 17) (rot (w.getD (t - 2) 0) 19)) (shr .u32 (w.getD (t - 2) 0) 10)))
def word (b : List Int) (t : Nat) : Int := b.getD (4 * t) 0 * 16777216 + b.getD (4 * t + 1) 0 * 65536 + b.getD (4 * t + 2) 0 * 256 + b.getD (4 * t + 3) 0
def Wt (b : List Int) : Nat → List Int
  | 0 => List.replicate 64 0
  | t + 1 => (Wt b t).set t (if t < 16 then word b t else mixW (Wt b t) t)
theorem wt_len (b : List Int) : ∀ t, (Wt b t).length = 64
  | 0 => rfl
  | t + 1 => by simp only [Wt, List.length_set]; exact wt_len b t
theorem rd_getD {l : List Int} {i : Nat} (h : i < l.length) : rd l (i : Int) = some (l.getD i 0) := by
  rw [rd_nat, List.getD_eq_getElem?_getD, List.getElem?_eq_getElem h]; rfl
theorem getD_byt {l : List Int} (h : Byt l) (i : Nat) : 0 ≤ l.getD i 0 ∧ l.getD i 0 < 256 := by
  rw [List.getD_eq_getElem?_getD]
  cases hi : l[i]? with
  | none => simp
  | some x => simpa using h x (List.mem_of_getElem? hi)

theorem own_words {b : List Int} (hb : b.length = 64) (hB : Byt b) : loopF (fun z => F160_sha_state_block_f5d_s0 300 b z.1 z.2) 300 ((0 : Int), List.replicate 64 (0 : Int)) = some (Wt b 64) := by
  refine loop_to (fun t => ((t : Int), Wt b t)) (Wt b 64) 64 (fun t ht => ?_) ?_ (by decide)
  · simp only
    unfold F160_sha_state_block_f5d_s0
    have hl := wt_len b t
    rw [if_pos (by simp; omega)]
    by_cases h16 : t < 16
    · rw [if_pos (by simp; omega), wi64 (x := 4 * (t : Int)) (by omega) (by omega), wi64 (x := 4 * (t : Int) + 1) (by omega) (by omega), wi64 (x := 4 * (t : Int) + 2) (by omega) (by omega), wi64 (x := 4 * (t : Int) + 3) (by omega) (by omega)]
      rw [show 4 * (t : Int) = ((4 * t : Nat) : Int) from by omega, show ((4 * t : Nat) : Int) + 1 = ((4 * t + 1 : Nat) : Int) from by omega, show ((4 * t : Nat) : Int) + 2 = ((4 * t + 2 : Nat) : Int) from by omega, show ((4 * t : Nat) : Int) + 3 = ((4 * t + 3 : Nat) : Int) from by omega]
      rw [rd_getD (by omega), rd_getD (by omega), rd_getD (by omega), rd_getD (by omega), rd_getD (l := Wt b t) (by omega)]
      simp only [Option.bind_some]
      rw [word_eq (getD_byt hB _) (getD_byt hB _) (getD_byt hB _) (getD_byt hB _), wi64 (by omega) (by omega)]
      simp only [Wt, h16, if_true, word, Int.toNat_natCast]
      rfl
    · rw [if_neg (by simp; omega), wi64 (x := (t : Int) - 15) (by omega) (by omega), wi64 (x := (t : Int) - 2) (by omega) (by omega), wi64 (x := (t : Int) - 16) (by omega) (by omega), wi64 (x := (t : Int) - 7) (by omega) (by omega)]
      rw [show (t : Int) - 15 = ((t - 15 : Nat) : Int) from by omega, show (t : Int) - 2 = ((t - 2 : Nat) : Int) from by omega, show (t : Int) - 16 = ((t - 16 : Nat) : Int) from by omega, show (t : Int) - 7 = ((t - 7 : Nat) : Int) from by omega]
      rw [rd_getD (by omega), rd_getD (by omega), rd_getD (by omega), rd_getD (by omega), rd_getD (l := Wt b t) (i := t) (by omega)]
      simp only [Option.bind_some]
      rw [rot_own _ (by simp), rot_own _ (by simp), rot_own _ (by simp), rot_own _ (by simp)]
      simp only [Option.bind_some]
      rw [wi64 (by omega) (by omega)]
      simp only [Wt, h16, if_false, mixW, Int.toNat_natCast]
      rfl
  · simp only
    unfold F160_sha_state_block_f5d_s0
    rw [if_neg (by decide)]
theorem ref_words {b : List Int} (hb : b.length = 64) (hB : Byt b) : F179_beadrollref02_schedule 300 b = some (Wt b 64) := by
  unfold F179_beadrollref02_schedule
  have h1 : loopF (fun z : Int × List Int => F179_beadrollref02_schedule_s0 300 b z.1 z.2) 300 ((0 : Int), List.replicate 64 (0 : Int)) = some (Wt b 16) := by
    refine loop_to (fun t => ((t : Int), Wt b t)) (Wt b 16) 16 (fun t ht => ?_) ?_ (by decide)
    · simp only
      unfold F179_beadrollref02_schedule_s0
      have hl := wt_len b t
      rw [if_pos (by simp; omega)]
      have hin : loopF (fun z : Int × List Int => F179_beadrollref02_schedule_s1 b (t : Int) z.1 z.2) 300 ((0 : Int), Wt b t) = some ((Wt b t).set t (word b t)) := by
        have hz : (Wt b t).getD t 0 = 0 := by
          have : ∀ k, k ≤ t → (Wt b k).getD t 0 = 0 := fun k => by
            induction k with
            | zero => intro _; simp only [Wt]; rw [List.getD_eq_getElem?_getD, List.getElem?_replicate]; split <;> rfl
            | succ k ih => intro hk; simp only [Wt]; rw [List.getD_eq_getElem?_getD, List.getElem?_set_ne (by omega), ← List.getD_eq_getElem?_getD]; exact ih (by omega)
          exact this t (Nat.le_refl _)
        have g0 := getD_byt hB (4 * t)
        have g1 := getD_byt hB (4 * t + 1)
        have g2 := getD_byt hB (4 * t + 2)
        have g3 := getD_byt hB (4 * t + 3)
        let v : Nat → Int := fun j => match j with
          | 0 => 0
          | 1 => b.getD (4 * t) 0
          | 2 => b.getD (4 * t) 0 * 256 + b.getD (4 * t + 1) 0
          | 3 => b.getD (4 * t) 0 * 65536 + b.getD (4 * t + 1) 0 * 256 + b.getD (4 * t + 2) 0
          | _ => word b t
        have hset : (Wt b t).set t 0 = Wt b t := by
          rw [← hz, List.getD_eq_getElem?_getD, List.getElem?_eq_getElem (by omega)]; simp
        have := loop_to (f := fun z : Int × List Int => F179_beadrollref02_schedule_s1 b (t : Int) z.1 z.2) (fun j => ((j : Int), (Wt b t).set t (v j))) ((Wt b t).set t (word b t)) 4 (fun j hj => ?_) ?_ (by decide)
        · simp only [v, hset] at this; exact this
        · simp only
          unfold F179_beadrollref02_schedule_s1
          rw [if_pos (by simp; omega), wi64 (x := 4 * (t : Int)) (by omega) (by omega), wi64 (x := 4 * (t : Int) + (j : Int)) (by omega) (by omega)]
          rw [rd_getD (i := t) (by simp; omega), show 4 * (t : Int) + (j : Int) = ((4 * t + j : Nat) : Int) from by omega, rd_getD (by omega)]
          simp only [Option.bind_some]
          rw [wi64 (by omega) (by omega)]
          have hg : ((Wt b t).set t (v j)).getD t 0 = v j := by rw [List.getD_eq_getElem?_getD, List.getElem?_set_self (by omega)]; rfl
          rw [hg, Int.toNat_natCast, List.set_set]
          have hv : IntKind.u32.wrap (IntKind.u32.wrap (256 * v j) + IntKind.u32.wrap (b.getD (4 * t + j) 0)) = v (j + 1) := by
            have hj' : j = 0 ∨ j = 1 ∨ j = 2 ∨ j = 3 := by omega
            rcases hj' with rfl | rfl | rfl | rfl <;> simp only [v, word, Nat.add_zero] <;> (rw [wu32 (x := 256 * _) (by omega) (by omega), wu32 (x := b.getD _ 0) (by omega) (by omega), wu32 (by omega) (by omega)]; omega)
          rw [hv]; rfl
        · simp only
          unfold F179_beadrollref02_schedule_s1
          exact (if_neg (by decide)).trans rfl
      rw [hin]
      simp only [Option.bind_some]
      rw [wi64 (by omega) (by omega)]
      simp only [Wt, ht, if_true]
      rfl
    · simp only
      unfold F179_beadrollref02_schedule_s0
      rw [if_neg (by decide)]
  rw [h1]
  simp only [Option.bind_some]
  have h2 : loopF (fun z : Int × List Int => F179_beadrollref02_schedule_s2 300 z.1 z.2) 300 ((16 : Int), Wt b 16) = some (Wt b 64) := by
    refine loop_to (fun t => (((16 + t : Nat) : Int), Wt b (16 + t))) (Wt b 64) 48 (fun t ht => ?_) ?_ (by decide)
    · simp only
      unfold F179_beadrollref02_schedule_s2
      have hl := wt_len b (16 + t)
      rw [if_pos (by simp; omega), wi64 (x := ((16 + t : Nat) : Int) - 15) (by omega) (by omega), wi64 (x := ((16 + t : Nat) : Int) - 2) (by omega) (by omega), wi64 (x := ((16 + t : Nat) : Int) - 16) (by omega) (by omega), wi64 (x := ((16 + t : Nat) : Int) - 7) (by omega) (by omega)]
      rw [show ((16 + t : Nat) : Int) - 15 = ((16 + t - 15 : Nat) : Int) from by omega, show ((16 + t : Nat) : Int) - 2 = ((16 + t - 2 : Nat) : Int) from by omega, show ((16 + t : Nat) : Int) - 16 = ((16 + t - 16 : Nat) : Int) from by omega, show ((16 + t : Nat) : Int) - 7 = ((16 + t - 7 : Nat) : Int) from by omega]
      rw [rd_getD (by omega), rd_getD (by omega), rd_getD (by omega), rd_getD (by omega), rd_getD (i := 16 + t) (by omega)]
      simp only [Option.bind_some]
      rw [rot_ref _ (by decide) (by decide), rot_ref _ (by decide) (by decide), rot_ref _ (by decide) (by decide), rot_ref _ (by decide) (by decide)]
      simp only [Option.bind_some]
      rw [wi64 (by omega) (by omega)]
      have h16 : ¬ 16 + t < 16 := by omega
      rw [show 16 + (t + 1) = 16 + t + 1 from rfl]
      simp only [Wt, h16, if_false, mixW, Int.toNat_natCast]
      rfl
    · simp only
      unfold F179_beadrollref02_schedule_s2
      rw [if_neg (by decide)]
  rw [h2]; rfl

/-! ### the rounds -/
def U32 (l : List Int) : Prop := ∀ x ∈ l, 0 ≤ x ∧ x < 4294967296
theorem w32 (x : Int) : 0 ≤ IntKind.u32.wrap x ∧ IntKind.u32.wrap x < 4294967296 := by simp [IntKind.wrap, IntKind.bits, IntKind.signed]; omega
theorem rounds_eq {w v : List Int} (hw : w.length = 64) (hv : v.length = 8) (hU : U32 v) : loopF (fun z : Int × List Int => F160_sha_state_block_f5d_s1 300 w z.1 z.2) 300 ((0 : Int), v) = loopF (fun z : Int × List Int => F171_beadrollref02_Sum_s1 300 shaK w z.1 z.2) 300 ((0 : Int), v) := by
  refine loop_cong (fun z : Int × List Int => 0 ≤ z.1 ∧ z.2.length = 8 ∧ U32 z.2) ?_ 300 _ ⟨by simp, hv, hU⟩
  rintro ⟨t, v⟩ ⟨h0, h1, h2⟩
  simp only at h0 h1 h2 ⊢
  obtain ⟨a, b, c, d, e, f, g, h, rfl⟩ : ∃ a b c d e f g h, v = [a, b, c, d, e, f, g, h] := by
    match v, h1 with
    | [a, b, c, d, e, f, g, h], _ => exact ⟨a, b, c, d, e, f, g, h, rfl⟩
  have r0 : rd [a, b, c, d, e, f, g, h] 0 = some a := rfl
  have r1 : rd [a, b, c, d, e, f, g, h] 1 = some b := rfl
  have r2 : rd [a, b, c, d, e, f, g, h] 2 = some c := rfl
  have r3 : rd [a, b, c, d, e, f, g, h] 3 = some d := rfl
  have r4 : rd [a, b, c, d, e, f, g, h] 4 = some e := rfl
  have r5 : rd [a, b, c, d, e, f, g, h] 5 = some f := rfl
  have r6 : rd [a, b, c, d, e, f, g, h] 6 = some g := rfl
  have r7 : rd [a, b, c, d, e, f, g, h] 7 = some h := rfl
  have hcom := com_u32 (h2 e (by simp)).1 (h2 e (by simp)).2
  unfold F160_sha_state_block_f5d_s1 F171_beadrollref02_Sum_s1 F180_beadrollref02_round
  by_cases ht : t < 64
  · rw [if_pos (by simpa using ht), if_pos (by simpa using ht)]
    obtain ⟨k, hk⟩ := rd_ex (xs := shaK) h0 (by simpa [shaK] using ht)
    obtain ⟨w', hw'⟩ := rd_ex (xs := w) h0 (by omega)
    rw [hk, hw']
    simp only [r0, r1, r2, r3, r4, r5, r6, r7, Option.bind_some]
    rw [rot_own e (c := 6) (by simp), rot_own e (c := 11) (by simp), rot_own e (c := 25) (by simp), rot_own a (c := 2) (by simp), rot_own a (c := 13) (by simp), rot_own a (c := 22) (by simp)]
    rw [rot_ref e (c := 6) (by decide) (by decide), rot_ref e (c := 11) (by decide) (by decide), rot_ref e (c := 25) (by decide) (by decide), rot_ref a (c := 2) (by decide) (by decide), rot_ref a (c := 13) (by decide) (by decide), rot_ref a (c := 22) (by decide) (by decide)]
    simp only [Option.bind_some, hcom, true_and]
    intro z' hz
    have hz := Sum.inl.inj (Option.some.inj hz)
    subst hz
    refine ⟨by rw [wi64 (by omega) (by omega)]; simp only; omega, rfl, fun x hx => ?_⟩
    simp only [List.mem_cons, List.not_mem_nil, or_false] at hx
    rcases hx with rfl | rfl | rfl | rfl | rfl | rfl | rfl | rfl
    · exact w32 _
    · exact h2 _ (by simp)
    · exact h2 _ (by simp)
    · exact h2 _ (by simp)
    · exact w32 _
    · exact h2 _ (by simp)
    · exact h2 _ (by simp)
    · exact h2 _ (by simp)
  · rw [if_neg (by simpa using ht), if_neg (by simpa using ht)]
    exact ⟨rfl, fun z' hz => by cases Option.some.inj hz⟩
/-- a block, as the reference has it -/
theorem block_eq {b s : List Int} (hb : b.length = 64) (hB : Byt b) (hs : s.length = 8) (hU : U32 s) :
    F160_sha_state_block_f5d 300 b s = (F179_beadrollref02_schedule 300 b).bind fun y => (loopF (fun z : Int × List Int => F171_beadrollref02_Sum_s1 300 shaK y z.1 z.2) 300 ((0 : Int), s)).bind fun o => loopF (fun z : Int × List Int => F171_beadrollref02_Sum_s2 o z.1 z.2) 300 ((0 : Int), s) := by
  unfold F160_sha_state_block_f5d
  rw [own_words hb hB, ref_words hb hB]
  simp only [Option.bind_some]
  rw [rounds_eq (wt_len b 64) hs hU]
  obtain ⟨o, ho⟩ : ∃ o, loopF (fun z : Int × List Int => F171_beadrollref02_Sum_s1 300 shaK (Wt b 64) z.1 z.2) 300 ((0 : Int), s) = o := ⟨_, rfl⟩
  rw [ho]
  cases o with
  | none => rfl
  | some o =>
    simp only [Option.bind_some]
    have : (fun z : Int × List Int => F160_sha_state_block_f5d_s2 o z.1 z.2) = fun z : Int × List Int => F171_beadrollref02_Sum_s2 o z.1 z.2 := rfl
    rw [this]
    cases loopF (fun z : Int × List Int => F171_beadrollref02_Sum_s2 o z.1 z.2) 300 ((0 : Int), s) <;> rfl
theorem block_u32 {b s r : List Int} (hU : U32 s) (h : F160_sha_state_block_f5d 300 b s = some r) : U32 r := by
  unfold F160_sha_state_block_f5d at h
  obtain ⟨o1, _, h⟩ := bind_some h
  obtain ⟨o2, _, h⟩ := bind_some h
  obtain ⟨o3, h3, h⟩ := bind_some h
  have e : o3 = r := by simpa using h
  subst e
  refine loop_inv (fun z : Int × List Int => U32 z.2) U32 ?_ 300 _ _ hU h3
  rintro ⟨i, z⟩ hz
  unfold F160_sha_state_block_f5d_s2
  by_cases hi : i < 8
  · simp only [decide_eq_true hi, if_true]
    refine ⟨fun z' e => ?_, fun b e => ?_⟩
    · obtain ⟨x, _, e⟩ := bind_some e
      obtain ⟨y, _, e⟩ := bind_some e
      obtain ⟨y', _, e⟩ := bind_some e
      have e := Sum.inl.inj (Option.some.inj e)
      subst e
      intro q hq
      rcases List.mem_or_eq_of_mem_set hq with hq | rfl
      · exact hz q hq
      · exact w32 _
    · obtain ⟨x, _, e⟩ := bind_some e
      obtain ⟨y, _, e⟩ := bind_some e
      obtain ⟨y', _, e⟩ := bind_some e
      cases Option.some.inj e
  · simp only [decide_eq_false hi, Bool.false_eq_true, if_false]
    refine ⟨fun z' e => (by cases Option.some.inj e), fun b e => ?_⟩
    have e := Sum.inr.inj (Option.some.inj e)
    subst e; exact hz
end Go.Proofs.YtonfljoibcnlgaaDoor
