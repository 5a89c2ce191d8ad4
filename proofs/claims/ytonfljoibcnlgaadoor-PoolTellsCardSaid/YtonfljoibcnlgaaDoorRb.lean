/-
  The reference's hash is the program's, on: numbers in bytes, padding, blocks one behind the other, the digest's bytes. No machine is in sight.
-/
import Derived.Test.YtonfljoibcnlgaaDoorRa
import Derived.KernelRfl
namespace Go.Proofs.YtonfljoibcnlgaaDoor
open Bd Go

/-! ### numbers in bytes -/
theorem wrap8_mod (x : Int) : IntKind.u8.wrap x = x % 256 := by simp [IntKind.wrap, IntKind.bits, IntKind.signed]
theorem shr_u64 {N : Int} {i : Nat} (hi : i ≤ 64) : shr .u64 N (i : Int) = N / 2 ^ i := by
  unfold shr
  have : min (Int.toNat (i : Int)) (IntKind.bits .u64) = i := by
    have : IntKind.bits .u64 = 64 := rfl
    omega
  rw [this, Int.fdiv_eq_ediv_of_nonneg _ (Int.le_of_lt (Int.pow_pos (by decide)))]
theorem pow8 (t : Nat) : (2 : Int) ^ (8 * t) = 256 ^ t := by rw [Int.pow_mul]; rfl
/-- the last t of k bytes of a number -/
def beT (k : Nat) (N : Int) (t : Nat) : List Int := (List.range k).map fun i => if k - 1 - i < t then N / 256 ^ (k - 1 - i) % 256 else 0
theorem beT_len (k : Nat) (N : Int) (t : Nat) : (beT k N t).length = k := by simp [beT]
theorem beT_zero (k : Nat) (N : Int) : beT k N 0 = List.replicate k 0 := by
  unfold beT
  refine List.eq_replicate_iff.2 ⟨by simp, fun b hb => ?_⟩
  obtain ⟨i, _, rfl⟩ := List.mem_map.1 hb
  rw [if_neg (by omega)]
theorem beT_set (k : Nat) (N : Int) {t : Nat} (ht : t < k) : (beT k N t).set (k - 1 - t) (N / 256 ^ t % 256) = beT k N (t + 1) := by
  apply List.ext_getElem?
  intro i
  rw [List.getElem?_set]
  unfold beT
  rw [List.getElem?_map, List.getElem?_map, List.length_map, List.length_range]
  by_cases hi : i < k
  · rw [List.getElem?_range hi]
    simp only [Option.map_some]
    by_cases e : k - 1 - t = i
    · rw [if_pos e, if_pos (by omega)]
      have : k - 1 - i = t := by omega
      rw [this, if_pos (by omega)]
    · rw [if_neg e]
      by_cases h : k - 1 - i < t
      · rw [if_pos h, if_pos (by omega)]
      · rw [if_neg h, if_neg (by omega)]
  · rw [if_neg (by omega), List.getElem?_eq_none (by simp; omega)]
    rfl
theorem beT_byt (k : Nat) (N : Int) (t : Nat) : Byt (beT k N t) := fun x hx => by
  obtain ⟨i, _, rfl⟩ := List.mem_map.1 hx
  split <;> omega
theorem div_step {N : Int} (h0 : 0 ≤ N) (h1 : N < 18446744073709551616) (t : Nat) : 0 ≤ N / 256 ^ t ∧ N / 256 ^ t < 18446744073709551616 ∧ IntKind.u64.wrap (Int.tdiv (N / 256 ^ t) 256) = N / 256 ^ (t + 1) ∧ IntKind.u8.wrap (Int.tmod (N / 256 ^ t) 256) = N / 256 ^ t % 256 := by
  have hp : (0 : Int) < 256 ^ t := Int.pow_pos (by decide)
  have a0 : 0 ≤ N / 256 ^ t := Int.ediv_nonneg h0 (Int.le_of_lt hp)
  have a1 : N / 256 ^ t ≤ N := Int.ediv_le_self _ h0
  have e : N / 256 ^ (t + 1) = N / 256 ^ t / 256 := by rw [Int.pow_succ, Int.ediv_ediv_of_nonneg (Int.le_of_lt hp)]
  refine ⟨a0, by omega, ?_, ?_⟩
  · rw [e, Int.tdiv_eq_ediv_of_nonneg a0, wu64 (by omega) (by omega)]
  · rw [Int.tmod_eq_emod_of_nonneg a0, wrap8_mod, Int.emod_emod_of_dvd _ (Int.dvd_refl 256)]
theorem rd_beT {k : Nat} {N : Int} {t i : Nat} (hi : i < k) : ∃ x, rd (beT k N t) (i : Int) = some x := rd_ex (by omega) (by rw [beT_len]; omega)

/-- the reference's numbers in bytes -/
theorem digits_val {N : Int} (h0 : 0 ≤ N) (h1 : N < 18446744073709551616) {k : Nat} (hk : 1 ≤ k ∧ k ≤ 8) : F162_beadrollref01_Digits 300 N (k : Int) = some (beT k N k, N / 256 ^ k == 0) := by
  unfold F162_beadrollref01_Digits
  rw [if_pos (by omega)]
  have h := loop_to (f := fun z : Int × Int × List Int => F162_beadrollref01_Digits_s0 z.1 z.2.1 z.2.2) (fun t => (N / 256 ^ t, (k : Int) - 1 - (t : Int), beT k N t)) (N / 256 ^ k, beT k N k) k (fun t ht => ?_) ?_ (by omega)
  · simp only [Int.pow_zero, Int.ediv_one, beT_zero, Int.natCast_zero, Int.sub_zero] at h
    rw [wi64 (x := (k : Int) - 1) (by omega) (by omega), Int.toNat_natCast, h]; rfl
  · simp only
    unfold F162_beadrollref01_Digits_s0
    obtain ⟨d0, d1, d2, d3⟩ := div_step h0 h1 t
    obtain ⟨x, hx⟩ := rd_beT (k := k) (N := N) (t := t) (i := k - 1 - t) (by omega)
    rw [if_pos (by simp; omega), show (k : Int) - 1 - (t : Int) = ((k - 1 - t : Nat) : Int) from by omega, hx, d2, d3]
    simp only [Option.bind_some, Nat.zero_add, Int.toNat_natCast]
    rw [beT_set k N ht]
    congr 3
    congr 1
    by_cases h' : k - 1 - t = 0
    · rw [h', show (k : Int) - 1 - ((t + 1 : Nat) : Int) = -1 from by omega]; decide +kernel
    · rw [wi64 (by omega) (by omega)]; omega
  · simp only
    unfold F162_beadrollref01_Digits_s0
    rw [if_neg (by simp; omega)]
/-- the program's -/
theorem put_val {N : Int} (h1 : N < 18446744073709551616) {k : Nat} (hk : k = 8 ∨ k = 4 ∧ 0 ≤ N ∧ N < 4294967296) : F143_num_Put 300 N (k : Int) = some (beT k N k, 0) := by
  have h8 : k ≤ 8 ∧ 4 ≤ k := by omega
  unfold F143_num_Put
  rw [if_neg (by simp; omega)]
  simp only [Option.bind_some]
  rw [if_neg (by simp; omega)]
  have h2 : (if decide ((k : Int) < 8) = true then (if 0 ≤ (IntKind.i64.wrap ((8 : Int) * k)) then some (decide ((shr .u64 N (IntKind.i64.wrap ((8 : Int) * k))) > (0 : Int))) else none) else some false) = some false := by
    rcases hk with rfl | ⟨rfl, h0, h1⟩
    · rfl
    · rw [if_pos (by decide), if_pos (by decide +kernel)]
      have : shr .u64 N (IntKind.i64.wrap (8 * ((4 : Nat) : Int))) = 0 := by
        unfold shr
        have e : (2 : Int) ^ (min (IntKind.i64.wrap (8 * ((4 : Nat) : Int))).toNat (IntKind.bits .u64)) = 4294967296 := by decide +kernel
        rw [e, Int.fdiv_eq_ediv_of_nonneg _ (by omega)]; omega
      rw [this]; rfl
  rw [h2]
  simp only [Option.bind_some]
  rw [if_neg (by simp), if_pos (by omega)]
  have h := loop_to (f := fun z : Int × List Int => F143_num_Put_s0 N (k : Int) z.1 z.2) (fun t => ((t : Int), beT k N t)) (beT k N k) k (fun t ht => ?_) ?_ (by omega)
  · simp only [beT_zero, Int.natCast_zero] at h
    rw [Int.toNat_natCast, h]; rfl
  · simp only
    unfold F143_num_Put_s0
    obtain ⟨x, hx⟩ := rd_beT (k := k) (N := N) (t := t) (i := k - 1 - t) (by omega)
    rw [if_pos (by simp; omega), wi64 (x := 8 * (t : Int)) (by omega) (by omega), if_pos (by omega), wi64 (x := (k : Int) - 1) (by omega) (by omega), wi64 (x := (k : Int) - 1 - (t : Int)) (by omega) (by omega), show (k : Int) - 1 - (t : Int) = ((k - 1 - t : Nat) : Int) from by omega, hx]
    simp only [Option.bind_some, Nat.zero_add, Int.toNat_natCast]
    rw [show 8 * (t : Int) = ((8 * t : Nat) : Int) from by omega, shr_u64 (by omega), pow8, wrap8_mod, beT_set k N ht, wi64 (by omega) (by omega)]
    rfl
  · simp only
    unfold F143_num_Put_s0
    rw [if_neg (by simp)]

/-! ### padding -/
def zc (L : Nat) : Nat := (120 - L % 64) % 64
theorem pad_val {z : List Int} (hz : z.length ≤ 100000) : loopF (fun z => F177_beadrollref02_padded_s0 z) 300 z = some (z ++ List.replicate (zc z.length) 0) := by
  have h := loop_to (f := fun z => F177_beadrollref02_padded_s0 z) (fun t => z ++ List.replicate t (0 : Int)) (z ++ List.replicate (zc z.length) 0) (zc z.length) (fun t ht => ?_) ?_ (by unfold zc; omega)
  · simpa using h
  · unfold zc at ht
    unfold F177_beadrollref02_padded_s0
    rw [if_pos (by
      rw [Int.tmod_eq_emod_of_nonneg (by omega)]
      simp only [List.length_append, List.length_replicate]
      rw [bne_iff_ne]; omega), if_pos (by simp; omega), List.append_assoc, ← List.replicate_succ']
  · unfold F177_beadrollref02_padded_s0
    rw [if_neg (by
      rw [Int.tmod_eq_emod_of_nonneg (by omega)]
      simp only [List.length_append, List.length_replicate]
      unfold zc
      rw [bne_iff_ne]; omega)]
theorem tail_own {N : Int} (s r : List Int) (c : Int) (hc : IntKind.u64.wrap (8 * c) = N) {q : List Int} (hq : q.length ≤ 100000) : loopF (fun z : Int × List Int => F137_sha_Of_s3 (c, s, r) z.1 z.2) 300 ((56 : Int), q) = some (q ++ beT 8 N 8) := by
  have h := loop_to (f := fun z : Int × List Int => F137_sha_Of_s3 (c, s, r) z.1 z.2) (fun t => (56 - 8 * (t : Int), q ++ (beT 8 N 8).take t)) (q ++ beT 8 N 8) 8 (fun t ht => ?_) ?_ (by decide)
  · simpa using h
  · simp only
    unfold F137_sha_Of_s3
    simp only [hc]
    have hlt : (List.take t (beT 8 N 8)).length ≤ 8 := by rw [List.length_take]; omega
    rw [if_pos (by simp; omega), if_pos (by omega), if_pos (by simp only [List.length_append, List.length_cons, List.length_nil]; omega)]
    have hget : (beT 8 N 8)[t]? = some (IntKind.u8.wrap (shr .u64 N (56 - 8 * (t : Int)))) := by
      unfold beT
      rw [List.getElem?_map, List.getElem?_range ht]
      simp only [Option.map_some]
      rw [if_pos (by omega), show (56 : Int) - 8 * (t : Int) = ((8 * (8 - 1 - t) : Nat) : Int) from by omega, shr_u64 (by omega), pow8, wrap8_mod]
    have hw : IntKind.i64.wrap (56 - 8 * (t : Int) - 8) = 56 - 8 * ((t + 1 : Nat) : Int) := by
      by_cases h7 : t = 7
      · subst h7; decide +kernel
      · rw [wi64 (by omega) (by omega)]; omega
    rw [hw, List.append_assoc, take_succ hget]
  · simp only
    unfold F137_sha_Of_s3
    rw [if_neg (by decide), List.take_of_length_le (by rw [beT_len]; exact Nat.le_refl _)]
theorem tail_ref {N : Int} (h0 : 0 ≤ N) (h1 : N < 18446744073709551616) : loopF (fun z : Int × Int × List Int => F177_beadrollref02_padded_s1 z.1 z.2.1 z.2.2) 300 (N, (7 : Int), List.replicate 8 (0 : Int)) = some (beT 8 N 8) := by
  have h := loop_to (f := fun z : Int × Int × List Int => F177_beadrollref02_padded_s1 z.1 z.2.1 z.2.2) (fun t => (N / 256 ^ t, (7 : Int) - (t : Int), beT 8 N t)) (beT 8 N 8) 8 (fun t ht => ?_) ?_ (by omega)
  · simpa [beT_zero] using h
  · simp only
    unfold F177_beadrollref02_padded_s1
    obtain ⟨d0, d1, d2, d3⟩ := div_step h0 h1 t
    obtain ⟨x, hx⟩ := rd_beT (k := 8) (N := N) (t := t) (i := 8 - 1 - t) (by omega)
    rw [if_pos (by simp; omega), show (7 : Int) - (t : Int) = ((8 - 1 - t : Nat) : Int) from by omega, hx, d2, d3]
    simp only [Option.bind_some, Int.toNat_natCast]
    rw [beT_set 8 N ht]
    congr 3
    congr 1
    by_cases h' : 8 - 1 - t = 0
    · have : t = 7 := by omega
      subst this; decide +kernel
    · rw [wi64 (by omega) (by omega)]; omega
  · simp only
    unfold F177_beadrollref02_padded_s1
    rw [if_neg (by decide)]

/-! ### blocks -/
def runB : List Int → Nat → List Int → Option (List Int)
  | s, 0, _ => some s
  | s, k + 1, l => (F160_sha_state_block_f5d 300 (l.take 64) s).bind fun s' => runB s' k (l.drop 64)
theorem runB_ok : ∀ (k : Nat) {s l : List Int}, s.length = 8 → U32 s → 64 * k ≤ l.length → ∃ r, runB s k l = some r ∧ r.length = 8 ∧ U32 r
  | 0, s, l, h1, h2, _ => ⟨s, rfl, h1, h2⟩
  | k + 1, s, l, h1, h2, h3 => by
    obtain ⟨r, e, hr⟩ := block_ok (b := l.take 64) (by rw [List.length_take]; omega) h1
    unfold runB
    rw [e]
    exact runB_ok k hr (block_u32 h2 e) (by rw [List.length_drop]; omega)
theorem runB_add : ∀ (a b : Nat) (s l : List Int), runB s (a + b) l = (runB s a l).bind fun s' => runB s' b (l.drop (64 * a))
  | 0, b, s, l => by simp [runB]
  | a + 1, b, s, l => by
    rw [show a + 1 + b = (a + b) + 1 from by omega]
    simp only [runB, Option.bind_assoc]
    congr 1; funext s'
    rw [runB_add a b s' (l.drop 64), List.drop_drop]
    rw [show 64 + 64 * a = 64 * (a + 1) from by omega]
theorem runB_pre : ∀ (a : Nat) (s l l' : List Int), 64 * a ≤ l.length → runB s a (l ++ l') = runB s a l
  | 0, s, l, l', _ => rfl
  | a + 1, s, l, l', h => by
    simp only [runB]
    rw [List.take_append_of_le_length (by omega), List.drop_append_of_le_length (by omega)]
    congr 1; funext s'
    exact runB_pre a s' (l.drop 64) l' (by rw [List.length_drop]; omega)
theorem s1_step {s p : List Int} (h : 64 ≤ p.length) : F137_sha_Of_s1 300 s p = (F160_sha_state_block_f5d 300 (p.take 64) s).bind fun s' => some (.inl (s', p.drop 64)) := by
  unfold F137_sha_Of_s1
  rw [if_pos (by simp; omega), if_pos (by omega)]
  simp only [List.drop_zero]
  rw [show ((64 : Int).toNat - (0 : Int).toNat) = 64 from rfl, show 0 + (64 : Int).toNat = 64 from rfl]
  congr 1; funext s'
  rw [if_pos (by omega)]
theorem s1_end {s p : List Int} (h : p.length < 64) : F137_sha_Of_s1 300 s p = some (.inr (s, p)) := by
  unfold F137_sha_Of_s1
  rw [if_neg (by simp; omega)]
theorem own_s1 : ∀ (m n : Nat) (s p : List Int), p.length / 64 = m → m < n → loopF (fun z : List Int × List Int => F137_sha_Of_s1 300 z.1 z.2) n (s, p) = (runB s m p).map fun s' => (s', p.drop (64 * m))
  | m, 0, s, p, _, hn => by omega
  | 0, n + 1, s, p, hm, _ => by
    simp only [loopF]
    rw [s1_end (by omega)]
    rfl
  | m + 1, n + 1, s, p, hm, hn => by
    simp only [loopF, runB]
    rw [s1_step (by omega)]
    cases F160_sha_state_block_f5d 300 (p.take 64) s with
    | none => rfl
    | some s' =>
      simp only [Option.bind_some]
      rw [own_s1 m n s' (p.drop 64) (by rw [List.length_drop]; omega) (by omega), List.drop_drop, show 64 + 64 * m = 64 * (m + 1) from by omega]
theorem s4_step {s p : List Int} (h : 64 ≤ p.length) : F137_sha_Of_s4 300 s p = (F160_sha_state_block_f5d 300 (p.take 64) s).bind fun s' => some (.inl (s', p.drop 64)) := by
  unfold F137_sha_Of_s4
  rw [if_pos (by rw [decide_eq_true_eq]; omega), if_pos (by omega)]
  simp only [List.drop_zero]
  rw [show ((64 : Int).toNat - (0 : Int).toNat) = 64 from rfl, show 0 + (64 : Int).toNat = 64 from rfl]
  congr 1; funext s'
  rw [if_pos (by omega)]
theorem s4_end {s p : List Int} (h : p.length = 0) : F137_sha_Of_s4 300 s p = some (.inr s) := by
  unfold F137_sha_Of_s4
  rw [if_neg (by rw [decide_eq_true_eq]; omega)]
theorem own_s4 : ∀ (m n : Nat) (s q : List Int), q.length = 64 * m → m < n → loopF (fun z : List Int × List Int => F137_sha_Of_s4 300 z.1 z.2) n (s, q) = runB s m q
  | m, 0, s, p, _, hn => by omega
  | 0, n + 1, s, p, hm, _ => by
    simp only [loopF]
    rw [s4_end (by omega)]
    rfl
  | m + 1, n + 1, s, p, hm, hn => by
    simp only [loopF, runB]
    rw [s4_step (by omega)]
    cases F160_sha_state_block_f5d 300 (p.take 64) s with
    | none => rfl
    | some s' =>
      simp only [Option.bind_some]
      exact own_s4 m n s' (p.drop 64) (by rw [List.length_drop]; omega) (by omega)
theorem s0_step {y : List Int} (hB : Byt y) (hl : y.length ≤ 100000) {j : Nat} {s : List Int} (hs : s.length = 8) (hU : U32 s) (hy : 64 * j + 64 ≤ y.length) : F171_beadrollref02_Sum_s0 300 y shaK ((64 * j : Nat) : Int) s = (F160_sha_state_block_f5d 300 ((y.drop (64 * j)).take 64) s).bind fun s' => some (.inl (((64 * (j + 1) : Nat) : Int), s')) := by
  unfold F171_beadrollref02_Sum_s0
  have hw : IntKind.i64.wrap (((64 * j : Nat) : Int) + 64) = ((64 * (j + 1) : Nat) : Int) := by rw [wi64 (by omega) (by omega)]; omega
  rw [if_pos (by simp; omega), hw, if_pos (by omega), Int.toNat_natCast, Int.toNat_natCast]
  have hch : (y.take (64 * (j + 1))).drop (64 * j) = (y.drop (64 * j)).take 64 := by rw [List.drop_take]; congr 1; omega
  rw [hch]
  have hcl : ((y.drop (64 * j)).take 64).length = 64 := by rw [List.length_take, List.length_drop]; omega
  have hcB : Byt ((y.drop (64 * j)).take 64) := fun x hx => hB x (List.mem_of_mem_drop (List.mem_of_mem_take hx))
  have hblk := block_eq hcl hcB hs hU
  obtain ⟨r, e, hr⟩ := block_ok hcl hs
  rw [e] at hblk
  rw [e]
  simp only [Option.bind_some]
  obtain ⟨w, e1, hblk⟩ := bind_some hblk.symm
  obtain ⟨o, e2, e3⟩ := bind_some hblk
  rw [e1]
  simp only [Option.bind_some]
  rw [e2]
  simp only [Option.bind_some]
  rw [e3]
  rfl
theorem s0_end {y : List Int} {j : Nat} {s : List Int} (hy : y.length ≤ 64 * j) : F171_beadrollref02_Sum_s0 300 y shaK ((64 * j : Nat) : Int) s = some (.inr s) := by
  unfold F171_beadrollref02_Sum_s0
  rw [if_neg (by simp; omega)]
theorem ref_s0 {y : List Int} (hB : Byt y) (hl : y.length ≤ 100000) : ∀ (m j n : Nat) (s : List Int), s.length = 8 → U32 s → y.length = 64 * (j + m) → m < n → loopF (fun z : Int × List Int => F171_beadrollref02_Sum_s0 300 y shaK z.1 z.2) n (((64 * j : Nat) : Int), s) = runB s m (y.drop (64 * j))
  | m, j, 0, s, _, _, _, hn => by omega
  | 0, j, n + 1, s, _, _, hy, _ => by
    simp only [loopF]
    rw [s0_end (by omega)]
    rfl
  | m + 1, j, n + 1, s, hs, hU, hy, hn => by
    simp only [loopF, runB]
    rw [s0_step hB hl hs hU (by omega)]
    obtain ⟨r, e, hr⟩ := block_ok (b := (y.drop (64 * j)).take 64) (by rw [List.length_take, List.length_drop]; omega) hs
    rw [e]
    simp only [Option.bind_some]
    rw [ref_s0 hB hl m (j + 1) n r hr (block_u32 hU e) (by omega) (by omega), List.drop_drop, show 64 * j + 64 = 64 * (j + 1) from by omega]

/-! ### the digest's bytes -/
theorem out_eq {s : List Int} (hs : s.length = 8) : loopF (fun z : Int × List Int => F171_beadrollref02_Sum_s3 300 s z.1 z.2) 300 ((0 : Int), List.replicate 32 (0 : Int)) = loopF (fun z : Int × List Int => F137_sha_Of_s5 s z.1 z.2) 300 ((0 : Int), List.replicate 32 (0 : Int)) := by
  obtain ⟨a, b, c, d, e, f, g, h, rfl⟩ : ∃ a b c d e f g h, s = [a, b, c, d, e, f, g, h] := by
    match s, hs with
    | [a, b, c, d, e, f, g, h], _ => exact ⟨a, b, c, d, e, f, g, h, rfl⟩
  kernel_rfl

/-! ### the hash -/
def shaH : List Int := [1779033703, 3144134277, 1013904242, 2773480762, 1359893119, 2600822924, 528734635, 1541459225]
theorem shaH_u32 : U32 shaH := by unfold U32 shaH; decide
theorem sum_eq {p : List Int} (hB : Byt p) (hp : p.length ≤ 9000) : F171_beadrollref02_Sum 300 p = F137_sha_Of 300 [p] := by
  obtain ⟨N, hN⟩ : ∃ N : Int, N = 8 * (p.length : Int) := ⟨_, rfl⟩
  obtain ⟨a, ha⟩ : ∃ a, p.length / 64 = a := ⟨_, rfl⟩
  obtain ⟨T, hT⟩ : ∃ T, T = [(128 : Int)] ++ List.replicate (zc (p.length + 1)) 0 ++ beT 8 N 8 := ⟨_, rfl⟩
  have hTl : T.length = 9 + zc (p.length + 1) := by rw [hT]; simp only [List.length_append, List.length_replicate, beT_len, List.length_cons, List.length_nil]; omega
  have hTB : Byt T := by
    rw [hT]
    intro x hx
    rcases List.mem_append.1 hx with hx | hx
    · rcases List.mem_append.1 hx with hx | hx
      · simp only [List.mem_singleton] at hx; subst hx; decide
      · have := List.eq_of_mem_replicate hx; subst this; decide
    · exact beT_byt _ _ _ x hx
  have hmod : (p.length + 9 + zc (p.length + 1)) % 64 = 0 := by unfold zc; omega
  -- the reference
  have hpad : F177_beadrollref02_padded 300 p = some (p ++ T) := by
    unfold F177_beadrollref02_padded
    rw [if_pos (by omega), if_pos (by simp; omega), pad_val (by simp; omega)]
    simp only [Option.bind_some]
    rw [wu64 (x := (p.length : Int)) (by omega) (by omega), wu64 (x := 8 * (p.length : Int)) (by omega) (by omega), ← hN, tail_ref (by omega) (by omega)]
    simp only [Option.bind_some]
    rw [if_pos (by simp [beT_len]; unfold zc; omega), hT]
    simp
  obtain ⟨m, hm⟩ : ∃ m, p.length + 9 + zc (p.length + 1) = 64 * m := ⟨(p.length + 9 + zc (p.length + 1)) / 64, by omega⟩
  have hzc : zc (p.length + 1) < 64 := by unfold zc; omega
  obtain ⟨b, rfl⟩ : ∃ b, m = a + b := ⟨m - a, by omega⟩
  have hYl : (p ++ T).length = 64 * (0 + (a + b)) := by rw [List.length_append, hTl]; omega
  have hYB : Byt (p ++ T) := fun x hx => by rcases List.mem_append.1 hx with hx | hx; exact hB x hx; exact hTB x hx
  have href := ref_s0 hYB (by rw [hYl]; omega) (a + b) 0 300 shaH rfl shaH_u32 hYl (by omega)
  -- the program
  obtain ⟨s1, e1, l1, u1⟩ := runB_ok a (s := shaH) (l := p) rfl shaH_u32 (by omega)
  have hsplit := runB_add a b shaH (p ++ T)
  rw [runB_pre a shaH p T (by omega), e1, Option.bind_some, List.drop_append_of_le_length (by omega)] at hsplit
  have hrl : (p.drop (64 * a)).length = p.length - 64 * a := List.length_drop ..
  have hzeq : zc ((p.drop (64 * a)).length + 1) = zc (p.length + 1) := by rw [hrl]; unfold zc; omega
  obtain ⟨s2, e2, l2, u2⟩ := runB_ok b (s := s1) (l := p.drop (64 * a) ++ T) l1 u1 (by rw [List.length_append, hrl, hTl]; omega)
  have hown : loopF (fun z : Int × Int × List Int × List Int => F137_sha_Of_s0 300 [p] z.1 z.2.1 z.2.2.1 z.2.2.2) 300 ((0 : Int), (0 : Int), shaH, ([] : List Int)) = some ((p.length : Int), s1, p.drop (64 * a)) := by
    have h := loop_to (f := fun z : Int × Int × List Int × List Int => F137_sha_Of_s0 300 [p] z.1 z.2.1 z.2.2.1 z.2.2.2) (fun t => if t = 0 then ((0 : Int), (0 : Int), shaH, ([] : List Int)) else ((p.length : Int), (1 : Int), s1, p.drop (64 * a))) ((p.length : Int), s1, p.drop (64 * a)) 1 (fun t ht => ?_) ?_ (by decide)
    · simpa using h
    · have : t = 0 := by omega
      subst this
      simp only [if_true]
      unfold F137_sha_Of_s0
      rw [if_pos (by simp)]
      have : rd [p] 0 = some p := rfl
      rw [this]
      simp only [Option.bind_some, List.nil_append]
      rw [if_pos (by omega), own_s1 a 300 shaH p ha (by omega), e1]
      simp only [Option.map_some, Option.bind_some]
      rw [wu64 (x := (p.length : Int)) (by omega) (by omega), wu64 (by omega) (by omega), wi64 (by omega) (by omega)]
      simp
    · simp only [Nat.one_ne_zero, if_false]
      unfold F137_sha_Of_s0
      rw [if_neg (by simp)]
  unfold F171_beadrollref02_Sum F137_sha_Of
  rw [hpad]
  have hk : F178_beadrollref02_words 300 = some shaK := rfl
  simp only [Option.bind_some]
  rw [hk]
  simp only [Option.bind_some]
  change ((loopF (fun z : Int × List Int => F171_beadrollref02_Sum_s0 300 (p ++ T) shaK z.1 z.2) 300 (((64 * 0 : Nat) : Int), shaH)).bind _) = ((loopF (fun z : Int × Int × List Int × List Int => F137_sha_Of_s0 300 [p] z.1 z.2.1 z.2.2.1 z.2.2.2) 300 ((0 : Int), (0 : Int), shaH, ([] : List Int))).bind _)
  rw [href, List.drop_zero, hsplit, e2, hown]
  simp only [Option.bind_some]
  rw [if_pos (by simp only [List.length_append, hrl, List.length_cons, List.length_nil]; omega)]
  have hp2 : loopF (fun z => F137_sha_Of_s2 z) 300 (p.drop (64 * a) ++ [(128 : Int)]) = some (p.drop (64 * a) ++ [(128 : Int)] ++ List.replicate (zc (p.length + 1)) 0) := by
    have := pad_val (z := p.drop (64 * a) ++ [(128 : Int)]) (by simp only [List.length_append, hrl, List.length_cons, List.length_nil]; omega)
    rw [show (p.drop (64 * a) ++ [(128 : Int)]).length = (p.drop (64 * a)).length + 1 from by simp, hzeq] at this
    exact this
  rw [hp2]
  simp only [Option.bind_some]
  rw [tail_own (N := N) _ _ _ (by rw [hN, wu64 (by omega) (by omega)]) (by simp only [List.length_append, hrl, List.length_cons, List.length_nil, List.length_replicate]; omega)]
  simp only [Option.bind_some]
  have hq : p.drop (64 * a) ++ [(128 : Int)] ++ List.replicate (zc (p.length + 1)) 0 ++ beT 8 N 8 = p.drop (64 * a) ++ T := by rw [hT]; simp
  rw [hq, own_s4 b 300 s1 (p.drop (64 * a) ++ T) (by rw [List.length_append, hrl, hTl]; omega) (by omega), e2]
  simp only [Option.bind_some]
  rw [out_eq l2]
end Go.Proofs.YtonfljoibcnlgaaDoor
