import Derived.Test.YtonfljoibcnlgaaGreatDoorCf
import Derived.Test.YtonfljoibcnlgaaGreatDoorXz
import Derived.KernelRfl
namespace Bd
open Go
theorem bP {α β : Type} {S : Option β → Prop} {o : Option α} {f : α → Option β} {Q : α → Prop} (h1 : ∃ a, o = some a ∧ Q a) (h2 : ∀ a, Q a → S (f a)) : S (o.bind f) := by
  obtain ⟨a, rfl, h⟩ := h1; exact h2 a h
theorem bP' {α β : Type} {S : Option β → Prop} {o : Option α} {f : α → Option β} (h1 : ∃ a, o = some a) (h2 : ∀ a, S (f a)) : S (o.bind f) := by
  obtain ⟨a, rfl⟩ := h1; exact h2 a
theorem iC {α : Type} {S : Option α → Prop} {p : Prop} [Decidable p] {x y : Option α} (h1 : p → S x) (h2 : ¬ p → S y) : S (if p then x else y) := by
  by_cases h : p
  · rw [if_pos h]; exact h1 h
  · rw [if_neg h]; exact h2 h
def StepOk {σ β : Type} (I : σ → Prop) (m : σ → Nat) (P : β → Prop) (z : σ) : Option (σ ⊕ β) → Prop
  | some (.inl z') => I z' ∧ m z' < m z
  | some (.inr b) => P b
  | none => False
theorem loop_ok {σ β : Type} {f : σ → Option (σ ⊕ β)} (I : σ → Prop) (m : σ → Nat) (P : β → Prop) (h : ∀ z, I z → StepOk I m P z (f z)) : ∀ (n : Nat) (z : σ), I z → m z < n → ∃ b, loopF f n z = some b ∧ P b
  | 0, z, _, hm => absurd hm (Nat.not_lt_zero _)
  | n + 1, z, hz, hm => by
    have := h z hz
    simp only [loopF]
    cases hf : f z with
    | none => rw [hf] at this; exact this.elim
    | some o =>
      rw [hf] at this
      cases o with
      | inl z' => exact loop_ok I m P h n z' this.1 (by have := this.2; omega)
      | inr b => exact ⟨b, rfl, this⟩
theorem wrap_in {k : IntKind} {x : Int} (h1 : 0 ≤ x) (h2 : x ≤ k.max) : k.wrap x = x := by
  cases k <;> simp [IntKind.wrap, IntKind.max, IntKind.bits, IntKind.signed] at h2 ⊢ <;> omega
theorem wi64 {x : Int} (h1 : 0 ≤ x) (h2 : x < 9223372036854775808) : IntKind.i64.wrap x = x := wrap_in h1 (by have : IntKind.max .i64 = 9223372036854775807 := rfl; omega)
theorem wu64 {x : Int} (h1 : 0 ≤ x) (h2 : x < 18446744073709551616) : IntKind.u64.wrap x = x := wrap_in h1 (by have : IntKind.max .u64 = 18446744073709551615 := rfl; omega)
theorem wu32 {x : Int} (h1 : 0 ≤ x) (h2 : x < 4294967296) : IntKind.u32.wrap x = x := wrap_in h1 (by have : IntKind.max .u32 = 4294967295 := rfl; omega)
theorem wu8 {x : Int} (h1 : 0 ≤ x) (h2 : x < 256) : IntKind.u8.wrap x = x := wrap_in h1 (by have : IntKind.max .u8 = 255 := rfl; omega)
theorem u64_range (x : Int) : 0 ≤ IntKind.u64.wrap x ∧ IntKind.u64.wrap x < 18446744073709551616 := by
  simp [IntKind.wrap, IntKind.bits, IntKind.signed]; omega
theorem rd_ex {α : Type} {xs : List α} {i : Int} (h0 : 0 ≤ i) (h1 : i < xs.length) : ∃ x, rd xs i = some x := by
  unfold rd; rw [if_pos h0]
  exact ⟨_, List.getElem?_eq_getElem (by omega)⟩
theorem rd_nat {α : Type} {xs : List α} (i : Nat) : rd xs (i : Int) = xs[i]? := by unfold rd; simp
theorem rd_mem {α : Type} {xs : List α} {i : Int} {x : α} (h : rd xs i = some x) : x ∈ xs := List.mem_of_getElem? (rd_some h).2
end Bd
namespace Go.Proofs.YtonfljoibcnlgaaGreatDoor
open Bd Go
@[reducible] def Len (k : Nat) (o : Option (List Int)) : Prop := ∃ r, o = some r ∧ r.length = k
theorem turned_ok (x : Int) {c : Int} (hc : c = 2 ∨ c = 6 ∨ c = 7 ∨ c = 11 ∨ c = 13 ∨ c = 17 ∨ c = 18 ∨ c = 19 ∨ c = 22 ∨ c = 25) : ∃ v, F170_sha_turned 1000 x c = some v := by
  unfold F170_sha_turned F177_bits_RotateLeft32
  rcases hc with rfl | rfl | rfl | rfl | rfl | rfl | rfl | rfl | rfl | rfl <;> (rw [if_pos (by decide +kernel), if_pos (by decide +kernel)]; exact ⟨_, rfl⟩)
theorem block0_ok {b w : List Int} (hb : b.length = 64) (hw : w.length = 64) : ∃ r, loopF (fun z => F159_sha_state_block_89b_s0 1000 b z.1 z.2) 1000 ((0 : Int), w) = some r ∧ r.length = 64 := by
  refine loop_ok (fun z => 0 ≤ z.1 ∧ z.1 ≤ 64 ∧ z.2.length = 64) (fun z => (64 - z.1).toNat) _ ?_ 1000 _ ⟨by simp, by simp, hw⟩ (by simp)
  rintro ⟨t, w⟩ ⟨h0, h1, h2⟩
  simp only at h0 h1 h2 ⊢
  unfold F159_sha_state_block_89b_s0
  by_cases ht : t < 64
  · rw [if_pos (by simpa using ht)]
    have fin : ∀ o : Option (List Int), Len 64 o → StepOk (fun z : Int × List Int => 0 ≤ z.1 ∧ z.1 ≤ 64 ∧ z.2.length = 64) (fun z => (64 - z.1).toNat) (fun r : List Int => r.length = 64) (t, w) (o.bind fun o43 => some (.inl (IntKind.i64.wrap (t + 1), o43))) := by
      rintro o ⟨r, rfl, hr⟩
      simp only [Option.bind_some, StepOk]
      rw [wi64 (by omega) (by omega)]
      exact ⟨⟨by omega, by omega, hr⟩, by omega⟩
    refine fin _ ?_
    have w4 : ∀ k : Int, 0 ≤ k → k < 4 → t < 16 → IntKind.i64.wrap (IntKind.i64.wrap (4 * t) + k) = 4 * t + k := fun k hk hk4 ht' => by rw [wi64 (x := 4 * t) (by omega) (by omega), wi64 (by omega) (by omega)]
    refine iC (S := Len 64) (fun hc => ?_) (fun hc => ?_)
    · have hc : t < 16 := by simpa using hc
      refine bP' (rd_ex (by rw [wi64 (by omega) (by omega)]; omega) (by rw [wi64 (by omega) (by omega)]; omega)) fun x1 => ?_
      refine bP' (rd_ex (by rw [w4 1 (by omega) (by omega) hc]; omega) (by rw [w4 1 (by omega) (by omega) hc]; omega)) fun x2 => ?_
      refine bP' (rd_ex (by rw [w4 2 (by omega) (by omega) hc]; omega) (by rw [w4 2 (by omega) (by omega) hc]; omega)) fun x3 => ?_
      refine bP' (rd_ex (by rw [w4 3 (by omega) (by omega) hc]; omega) (by rw [w4 3 (by omega) (by omega) hc]; omega)) fun x4 => ?_
      refine bP' (rd_ex h0 (by omega)) fun x5 => ?_
      exact ⟨_, rfl, by simpa using h2⟩
    · have hc : ¬ t < 16 := by simpa using hc
      refine bP' (rd_ex (by rw [wi64 (by omega) (by omega)]; omega) (by rw [wi64 (by omega) (by omega)]; omega)) fun x1 => ?_
      refine bP' (rd_ex (by rw [wi64 (by omega) (by omega)]; omega) (by rw [wi64 (by omega) (by omega)]; omega)) fun x2 => ?_
      refine bP' (rd_ex (by rw [wi64 (by omega) (by omega)]; omega) (by rw [wi64 (by omega) (by omega)]; omega)) fun x3 => ?_
      refine bP' (turned_ok _ (by simp)) fun y1 => ?_
      refine bP' (turned_ok _ (by simp)) fun y2 => ?_
      refine bP' (rd_ex (by rw [wi64 (by omega) (by omega)]; omega) (by rw [wi64 (by omega) (by omega)]; omega)) fun x4 => ?_
      refine bP' (turned_ok _ (by simp)) fun y3 => ?_
      refine bP' (turned_ok _ (by simp)) fun y4 => ?_
      refine bP' (rd_ex h0 (by omega)) fun x5 => ?_
      exact ⟨_, rfl, by simpa using h2⟩
  · rw [if_neg (by simpa using ht)]
    exact h2
theorem block1_ok {w v : List Int} (hw : w.length = 64) (hv : v.length = 8) : ∃ r, loopF (fun z => F159_sha_state_block_89b_s1 1000 w z.1 z.2) 1000 ((0 : Int), v) = some r ∧ r.length = 8 := by
  refine loop_ok (fun z => 0 ≤ z.1 ∧ z.1 ≤ 64 ∧ z.2.length = 8) (fun z => (64 - z.1).toNat) _ ?_ 1000 _ ⟨by simp, by simp, hv⟩ (by simp)
  rintro ⟨t, v⟩ ⟨h0, h1, h2⟩
  simp only at h0 h1 h2 ⊢
  unfold F159_sha_state_block_89b_s1
  by_cases ht : t < 64
  · rw [if_pos (by simpa using ht)]
    have k8 : ∀ k : Nat, k < 8 → ∃ x, rd v (k : Int) = some x := fun k hk => rd_ex (by omega) (by omega)
    refine bP' (k8 0 (by omega)) fun x0 => ?_
    refine bP' (k8 1 (by omega)) fun x1 => ?_
    refine bP' (k8 2 (by omega)) fun x2 => ?_
    refine bP' (k8 4 (by omega)) fun x4 => ?_
    refine bP' (k8 5 (by omega)) fun x5 => ?_
    refine bP' (k8 6 (by omega)) fun x6 => ?_
    refine bP' (k8 7 (by omega)) fun x7 => ?_
    refine bP' (turned_ok _ (by simp)) fun y1 => ?_
    refine bP' (turned_ok _ (by simp)) fun y2 => ?_
    refine bP' (turned_ok _ (by simp)) fun y3 => ?_
    refine bP' (rd_ex h0 (by simpa [shaK] using ht)) fun x8 => ?_
    refine bP' (rd_ex h0 (by omega)) fun x9 => ?_
    refine bP' (turned_ok _ (by simp)) fun y4 => ?_
    refine bP' (turned_ok _ (by simp)) fun y5 => ?_
    refine bP' (turned_ok _ (by simp)) fun y6 => ?_
    refine bP' (k8 3 (by omega)) fun x3 => ?_
    simp only [StepOk]
    rw [wi64 (by omega) (by omega)]
    exact ⟨⟨by omega, by omega, rfl⟩, by omega⟩
  · rw [if_neg (by simpa using ht)]
    exact h2
theorem block2_ok {v s : List Int} (hv : v.length = 8) (hs : s.length = 8) : ∃ r, loopF (fun z => F159_sha_state_block_89b_s2 v z.1 z.2) 1000 ((0 : Int), s) = some r ∧ r.length = 8 := by
  refine loop_ok (fun z => 0 ≤ z.1 ∧ z.1 ≤ 8 ∧ z.2.length = 8) (fun z => (8 - z.1).toNat) _ ?_ 1000 _ ⟨by simp, by simp, hs⟩ (by simp)
  rintro ⟨t, s⟩ ⟨h0, h1, h2⟩
  simp only at h0 h1 h2 ⊢
  unfold F159_sha_state_block_89b_s2
  by_cases ht : t < 8
  · rw [if_pos (by simpa using ht)]
    refine bP' (rd_ex h0 (by omega)) fun x0 => ?_
    refine bP' (rd_ex h0 (by omega)) fun x1 => ?_
    refine bP' (rd_ex h0 (by omega)) fun x2 => ?_
    simp only [StepOk]
    rw [wi64 (by omega) (by omega)]
    exact ⟨⟨by omega, by omega, by simpa using h2⟩, by omega⟩
  · rw [if_neg (by simpa using ht)]
    exact h2
theorem block_ok {b s : List Int} (hb : b.length = 64) (hs : s.length = 8) : ∃ r, F159_sha_state_block_89b 1000 b s = some r ∧ r.length = 8 := by
  unfold F159_sha_state_block_89b
  refine bP (S := Len 8) (block0_ok hb (by simp)) fun w hw => ?_
  refine bP (S := Len 8) (block1_ok hw hs) fun v hv => ?_
  refine bP (S := Len 8) (block2_ok hv hs) fun r hr => ?_
  exact ⟨r, rfl, hr⟩
theorem of1_ok {s p : List Int} (hs : s.length = 8) (hp : p.length ≤ 10000) : ∃ r, loopF (fun z => F138_sha_Of_s1 1000 z.1 z.2) 1000 (s, p) = some r ∧ (r.1.length = 8 ∧ r.2.length < 64) := by
  refine loop_ok (fun z : List Int × List Int => z.1.length = 8 ∧ z.2.length ≤ 10000) (fun z => z.2.length / 64) (fun r : List Int × List Int => r.1.length = 8 ∧ r.2.length < 64) ?_ 1000 _ ⟨hs, hp⟩ (by simp only; omega)
  rintro ⟨s, p⟩ ⟨h0, h1⟩
  simp only at h0 h1 ⊢
  unfold F138_sha_Of_s1
  by_cases ht : 64 ≤ p.length
  · rw [if_pos (by simp; omega), if_pos (by omega)]
    refine bP (block_ok (by simp; omega) h0) fun y hy => ?_
    rw [if_pos (by omega)]
    simp only [StepOk]
    exact ⟨⟨hy, by simp; omega⟩, by simp; omega⟩
  · rw [if_neg (by simp; omega)]
    exact ⟨h0, by simp only; omega⟩
theorem of_ok {p : List Int} (hp : p.length ≤ 9000) : ∃ r, F138_sha_Of 1000 [p] = some r ∧ r.length = 32 := by
  unfold F138_sha_Of
  refine bP (S := Len 32) (Q := fun o : Int × List Int × List Int => o.2.1.length = 8 ∧ o.2.2.length < 64) ?_ fun o ho => ?_
  · refine loop_ok (fun z => 0 ≤ z.2.1 ∧ z.2.1 ≤ 1 ∧ z.2.2.1.length = 8 ∧ z.2.2.2.length < 64) (fun z => (1 - z.2.1).toNat) _ ?_ 1000 _ ⟨by simp, by simp, rfl, by simp⟩ (by simp)
    rintro ⟨c, i, s, q⟩ ⟨h0, h1, h2, h3⟩
    simp only at h0 h1 h2 h3 ⊢
    unfold F138_sha_Of_s0
    by_cases hi : i < 1
    · have : i = 0 := by omega
      subst this
      rw [if_pos (by simp)]
      refine bP (Q := fun x => x = p) ⟨p, rfl, rfl⟩ fun x hx => ?_
      subst hx
      rw [if_pos (by simp; omega)]
      refine bP (of1_ok h2 (by simp; omega)) fun y hy => ?_
      simp only [StepOk]
      rw [wi64 (by omega) (by omega)]
      exact ⟨⟨by omega, by omega, hy.1, hy.2⟩, by decide⟩
    · rw [if_neg (by simpa using hi)]
      exact ⟨h2, h3⟩
  · rw [if_pos (by simp; omega)]
    refine bP (S := Len 32) (Q := fun q : List Int => q.length = 56 ∨ q.length = 120) ?_ fun q hq => ?_
    · have hq0 : (o.2.2 ++ [(128 : Int)]).length ≤ 64 ∧ 1 ≤ (o.2.2 ++ [(128 : Int)]).length := by simp; omega
      refine loop_ok (fun z => 1 ≤ z.length ∧ z.length ≤ 120 ∧ (z.length ≤ 56 ∨ 57 ≤ z.length)) (fun z => if z.length ≤ 56 then 56 - z.length else 120 - z.length) _ ?_ 1000 _ ⟨hq0.2, by omega, by omega⟩ (by split <;> omega)
      intro z ⟨h0, h1, h2⟩
      unfold F138_sha_Of_s2
      have e : ∀ k : Nat, Int.tmod (k : Int) 64 = ((k % 64 : Nat) : Int) := fun k => by rw [Int.tmod_eq_emod_of_nonneg (by omega)]; omega
      by_cases hz : z.length % 64 = 56
      · rw [if_neg (by rw [e, hz]; simp)]
        show z.length = 56 ∨ z.length = 120
        omega
      · rw [if_pos (by rw [e]; simp; omega), if_pos (by simp; omega)]
        simp only [StepOk, List.length_append, List.length_cons, List.length_nil]
        refine ⟨⟨by omega, by omega, by omega⟩, ?_⟩
        split <;> split <;> omega
    · refine bP (S := Len 32) (Q := fun r : List Int => r.length = 64 ∨ r.length = 128) ?_ fun q' hq' => ?_
      · refine loop_ok (fun z => -8 ≤ z.1 ∧ z.1 ≤ 56 ∧ z.1 % 8 = 0 ∧ (z.2.length : Int) + z.1 / 8 + 1 = q.length + 8) (fun z => (z.1 + 8).toNat) _ ?_ 1000 _ ⟨by simp, by simp, by simp, by simp; omega⟩ (by simp)
        rintro ⟨i, z⟩ ⟨h0, h1, h2, h3⟩
        simp only at h0 h1 h2 h3 ⊢
        unfold F138_sha_Of_s3
        by_cases hi : 0 ≤ i
        · rw [if_pos (by simpa using hi), if_pos hi, if_pos (by simp; omega)]
          simp only [StepOk, List.length_append, List.length_cons, List.length_nil]
          have hw : IntKind.i64.wrap (i - 8) = i - 8 := by
            by_cases h8 : 8 ≤ i
            · exact wi64 (by omega) (by omega)
            · have : i = 0 := by omega
              subst this; decide +kernel
          rw [hw]
          exact ⟨⟨by omega, by omega, by omega, by omega⟩, by omega⟩
        · rw [if_neg (by simpa using hi)]
          show z.length = 64 ∨ z.length = 128
          have : i = -8 := by omega
          omega
      · refine bP (S := Len 32) (Q := fun r : List Int => r.length = 8) ?_ fun s hs => ?_
        · refine loop_ok (fun z => z.1.length = 8 ∧ z.2.length ≤ 128 ∧ z.2.length % 64 = 0) (fun z => z.2.length) _ ?_ 1000 _ ⟨ho.1, by simp only; omega, by simp only; omega⟩ (by simp only; omega)
          rintro ⟨s, z⟩ ⟨h0, h1, h2⟩
          simp only at h0 h1 h2 ⊢
          unfold F138_sha_Of_s4
          by_cases hz : 0 < z.length
          · rw [if_pos (decide_eq_true (by omega)), if_pos (by omega)]
            refine bP (block_ok (by simp; omega) h0) fun y hy => ?_
            rw [if_pos (by omega)]
            simp only [StepOk]
            exact ⟨⟨hy, by simp; omega, by simp; omega⟩, by simp; omega⟩
          · rw [if_neg (by rw [decide_eq_true_eq]; omega)]
            exact h0
        · refine bP (S := Len 32) (Q := fun r : List Int => r.length = 32) ?_ fun r hr => ⟨r, rfl, hr⟩
          refine loop_ok (fun z => 0 ≤ z.1 ∧ z.1 ≤ 32 ∧ z.2.length = 32) (fun z => (32 - z.1).toNat) _ ?_ 1000 _ ⟨by simp, by simp, by simp⟩ (by simp)
          rintro ⟨i, z⟩ ⟨h0, h1, h2⟩
          simp only at h0 h1 h2 ⊢
          unfold F138_sha_Of_s5
          by_cases hi : i < 32
          · rw [if_pos (by simpa using hi)]
            have e1 : Int.tdiv i 4 = i / 4 := Int.tdiv_eq_ediv_of_nonneg h0
            have e2 : Int.tmod i 4 = i % 4 := Int.tmod_eq_emod_of_nonneg h0
            rw [e1, e2]
            refine bP' (rd_ex (by rw [wi64 (by omega) (by omega)]; omega) (by rw [wi64 (by omega) (by omega)]; omega)) fun x => ?_
            rw [if_pos (by rw [wi64 (x := 8 * (i % 4)) (by omega) (by omega), wi64 (by omega) (by omega)]; omega)]
            refine bP' (rd_ex h0 (by omega)) fun x1 => ?_
            simp only [StepOk]
            rw [wi64 (x := i + 1) (by omega) (by omega)]
            exact ⟨⟨by omega, by omega, by simpa using h2⟩, by omega⟩
          · rw [if_neg (by simpa using hi)]
            exact h2
end Go.Proofs.YtonfljoibcnlgaaGreatDoor
namespace Go.Proofs.YtonfljoibcnlgaaGreatDoor
open Bd Go
theorem put_ok (a : Int) {k : Nat} (hk : k = 8 ∨ k = 4 ∧ 0 ≤ a ∧ a < 4294967296) : ∃ r : List Int × Int, F155_num_Put 1000 a (k : Int) = some r ∧ r.1.length = k ∧ r.2 = 0 := by
  have h8 : k ≤ 8 ∧ 4 ≤ k := by omega
  unfold F155_num_Put
  rw [if_neg (by simp; omega)]
  simp only [Option.bind_some]
  rw [if_neg (by simp; omega)]
  have h2 : (if decide ((k : Int) < 8) = true then (if 0 ≤ (IntKind.i64.wrap ((8 : Int) * k)) then some (decide ((shr .u64 a (IntKind.i64.wrap ((8 : Int) * k))) > (0 : Int))) else none) else some false) = some false := by
    rcases hk with rfl | ⟨rfl, h0, h1⟩
    · rfl
    · rw [if_pos (by decide), if_pos (by decide +kernel)]
      have : shr .u64 a (IntKind.i64.wrap (8 * ((4 : Nat) : Int))) = 0 := by
        unfold shr
        have e : (2 : Int) ^ (min (IntKind.i64.wrap (8 * ((4 : Nat) : Int))).toNat (IntKind.bits .u64)) = 4294967296 := by decide +kernel
        rw [e, Int.fdiv_eq_ediv_of_nonneg _ (by omega)]; omega
      rw [this]; rfl
  rw [h2]
  simp only [Option.bind_some]
  rw [if_neg (by simp), if_pos (by omega)]
  refine bP (S := fun o => ∃ r : List Int × Int, o = some r ∧ r.1.length = k ∧ r.2 = 0) (Q := fun r : List Int => r.length = k) ?_ fun r hr => ⟨_, rfl, hr, rfl⟩
  refine loop_ok (fun z : Int × List Int => 0 ≤ z.1 ∧ z.1 ≤ (k : Int) ∧ z.2.length = k) (fun z => ((k : Int) - z.1).toNat) _ ?_ 1000 _ ⟨by simp, by simp, by simp⟩ (by simp; omega)
  rintro ⟨i, z⟩ ⟨h0, h1, h3⟩
  simp only at h0 h1 h3 ⊢
  unfold F155_num_Put_s0
  by_cases hi : i < k
  · rw [if_pos (by simpa using hi), wi64 (x := 8 * i) (by omega) (by omega), if_pos (by omega), wi64 (x := (k : Int) - 1) (by omega) (by omega), wi64 (x := (k : Int) - 1 - i) (by omega) (by omega)]
    refine bP' (rd_ex (by omega) (by omega)) fun x => ?_
    simp only [StepOk]
    rw [wi64 (by omega) (by omega)]
    exact ⟨⟨by omega, by omega, by simpa using h3⟩, by omega⟩
  · rw [if_neg (by simpa using hi)]
    exact h3
theorem bytes_ok (kind : Int) {p : List Int} (hp : p.length ≤ 8000) : ∃ r, F139_tag_Bytes 1000 kind [p] = some r ∧ r.length = p.length + 5 := by
  unfold F139_tag_Bytes
  refine bP (S := Len (p.length + 5)) (Q := fun r : List Int => r.length = p.length + 5) ?_ fun r hr => ⟨_, rfl, hr⟩
  refine loop_ok (fun z => (z.1 = 0 ∧ z.2.length = 1) ∨ (z.1 = 1 ∧ z.2.length = p.length + 5)) (fun z => (1 - z.1).toNat) _ ?_ 1000 _ (.inl ⟨rfl, rfl⟩) (by simp)
  rintro ⟨i, z⟩ h
  simp only at h ⊢
  unfold F139_tag_Bytes_s0
  rcases h with ⟨rfl, hz⟩ | ⟨rfl, hz⟩
  · rw [if_pos (by simp)]
    refine bP (Q := fun x => x = p) ⟨p, rfl, rfl⟩ fun x hx => ?_
    subst hx
    have e : IntKind.u64.wrap (IntKind.u32.wrap (x.length : Int)) = (x.length : Int) := by rw [wu32 (by omega) (by omega), wu64 (by omega) (by omega)]
    rw [e]
    refine bP (put_ok (x.length : Int) (k := 4) (.inr ⟨rfl, by omega, by omega⟩)) fun y hy => ?_
    rw [if_pos (by simp; omega), if_pos (by simp; omega)]
    simp only [StepOk]
    rw [wi64 (by omega) (by omega)]
    exact ⟨.inr ⟨rfl, by simp; omega⟩, by decide⟩
  · rw [if_neg (by simp)]
    exact hz
theorem tagOf_ok (kind : Int) {p : List Int} (hp : p.length ≤ 8000) : ∃ r, F104_tag_Of 1000 kind [p] = some r ∧ r.length = 32 := by
  unfold F104_tag_Of
  refine bP (S := Len 32) (bytes_ok kind hp) fun y hy => ?_
  exact bP (S := Len 32) (of_ok (by omega)) fun r hr => ⟨r, rfl, hr⟩
structure TxOk (x : GTx) : Prop where
  pub : x.Pub.length = 32
  to : x.To.length = 32
  sign : x.Sign.length = 32
  nonce : 0 ≤ x.Nonce ∧ x.Nonce < 18446744073709551616
  fee : 0 ≤ x.Fee ∧ x.Fee < 18446744073709551616
theorem body_ok {x : GTx} (h1 : x.Pub.length = 32) (h2 : x.To.length = 32) : ∃ r, F129_tx_Body 1000 x = some r ∧ r.length = 88 := by
  unfold F129_tx_Body
  refine bP (S := Len 88) (Q := fun r : List Int => r.length = 64) ?_ fun b hb => ?_
  · unfold F151_api_Digest_896
    refine bP (S := Len 64) (Q := fun r : List Int => r.length = 64) ?_ fun r hr => ⟨_, rfl, hr⟩
    refine loop_ok (fun z => 0 ≤ z.1 ∧ z.1 ≤ 2 ∧ (z.2.length : Int) = 32 * z.1) (fun z => (2 - z.1).toNat) _ ?_ 1000 _ ⟨by simp, by simp, by simp⟩ (by simp)
    rintro ⟨i, z⟩ ⟨h0, h3, h4⟩
    simp only at h0 h3 h4 ⊢
    unfold F151_api_Digest_896_s0
    by_cases hi : i < 2
    · rw [if_pos (by simpa using hi)]
      have : i = 0 ∨ i = 1 := by omega
      refine bP (Q := fun x => x.length = 32) (by
        rcases this with rfl | rfl
        · exact ⟨_, rfl, h1⟩
        · exact ⟨_, rfl, h2⟩) fun y hy => ?_
      simp only [F152_tx_Body_1, Option.bind_some]
      rw [if_pos (by simp; omega)]
      simp only [StepOk]
      rw [wi64 (by omega) (by omega)]
      exact ⟨⟨by omega, by omega, by simp; omega⟩, by omega⟩
    · rw [if_neg (by simpa using hi)]
      show z.length = 64
      omega
  · unfold F153_tx_put_985
    refine bP (S := Len 88) (Q := fun r : List Int => r.length = 88) ?_ fun r hr => ⟨_, rfl, hr⟩
    refine bP (S := Len 88) (Q := fun r : List Int => r.length = 88) ?_ fun r hr => ⟨_, rfl, hr⟩
    refine loop_ok (fun z => 0 ≤ z.1 ∧ z.1 ≤ 3 ∧ (z.2.length : Int) = 64 + 8 * z.1) (fun z => (3 - z.1).toNat) _ ?_ 1000 _ ⟨by simp, by simp, by simp; omega⟩ (by simp)
    rintro ⟨i, z⟩ ⟨h0, h3, h4⟩
    simp only at h0 h3 h4 ⊢
    unfold F153_tx_put_985_s0
    by_cases hi : i < 3
    · rw [if_pos (by simpa using hi)]
      refine bP' (rd_ex h0 (by simpa using hi)) fun y => ?_
      unfold F154_tx_Body_2
      refine bP (Q := fun r : List Int => r.length = 8) (bP (S := Len 8) (put_ok y (k := 8) (.inl rfl)) fun r hr => ⟨_, rfl, hr.1⟩) fun y hy => ?_
      rw [if_pos (by simp; omega)]
      simp only [StepOk]
      rw [wi64 (by omega) (by omega)]
      exact ⟨⟨by omega, by omega, by simp; omega⟩, by omega⟩
    · rw [if_neg (by simpa using hi)]
      show z.length = 88
      omega
theorem sign_ok {x : GTx} (h1 : x.Pub.length = 32) (h2 : x.To.length = 32) : ∃ r, F89_tx_sign 1000 x = some r ∧ r.length = 32 := by
  unfold F89_tx_sign
  refine bP (S := Len 32) (body_ok h1 h2) fun b hb => ?_
  exact bP (S := Len 32) (tagOf_ok 4 (by omega)) fun r hr => ⟨r, rfl, hr⟩
theorem key_ok {k : List Int} (h : k.length = 32) : ∃ r, F63_acct_Key 1000 k = some r ∧ r.length = 32 := by
  unfold F63_acct_Key
  exact bP (S := Len 32) (tagOf_ok 3 (by omega)) fun r hr => ⟨r, rfl, hr⟩
def sg (x : GTx) : List Int := (F89_tx_sign 1000 x).getD []
def ky (k : List Int) : List Int := (F63_acct_Key 1000 k).getD []
theorem sg_val {x : GTx} (h1 : x.Pub.length = 32) (h2 : x.To.length = 32) : F89_tx_sign 1000 x = some (sg x) ∧ (sg x).length = 32 := by
  obtain ⟨r, e, hr⟩ := sign_ok h1 h2
  unfold sg; rw [e]; exact ⟨rfl, hr⟩
theorem ky_val {k : List Int} (h : k.length = 32) : F63_acct_Key 1000 k = some (ky k) ∧ (ky k).length = 32 := by
  obtain ⟨r, e, hr⟩ := key_ok h
  unfold ky; rw [e]; exact ⟨rfl, hr⟩
end Go.Proofs.YtonfljoibcnlgaaGreatDoor
namespace Go.Proofs.YtonfljoibcnlgaaGreatDoor
open Bd Go
def own (x : GTx) (from_ : List Int) : Bool := decide (x.Sign = sg x) && decide (ky x.Pub = from_)
theorem own_val {x : GTx} (hx : TxOk x) (f : List Int) : F90_queue_own 1000 x f = some (own x f) := by
  unfold F90_queue_own F43_tx_Check F27_tx_From own
  rw [(sg_val hx.pub hx.to).1]
  simp only [Option.bind_some]
  by_cases h : x.Sign = sg x
  · simp [h, (ky_val hx.pub).1]
  · simp [h]
structure LineOk (l : GLine) : Prop where
  from_ : l.From.length = 32
  txs : ∀ x ∈ l.Txs, TxOk x
def Inc (l : List GTx) : Prop := l.Pairwise fun a b => a.Nonce < b.Nonce
def May (l : GLine) : Prop := l.Txs.length ≤ 256 ∧ (∀ x ∈ l.Txs, own x l.From = true) ∧ Inc l.Txs
theorem take_succ {α : Type} {l : List α} {k : Nat} {x : α} (h : l[k]? = some x) : l.take (k + 1) = l.take k ++ [x] := by rw [List.take_add_one, h]; rfl
theorem inc_snoc {l : List GTx} {k : Nat} {x : GTx} (h : Inc (l.take k)) (hx : l[k]? = some x) (hl : k = 0 ∨ ∃ y, l[k - 1]? = some y ∧ y.Nonce < x.Nonce) : Inc (l.take (k + 1)) := by
  rw [take_succ hx]
  refine List.pairwise_append.2 ⟨h, List.pairwise_singleton _ _, fun a ha b hb => ?_⟩
  simp only [List.mem_singleton] at hb; subst hb
  rcases hl with rfl | ⟨y, hy, hyx⟩
  · simp at ha
  · cases k with
    | zero => simp at ha
    | succ k =>
      simp only [Nat.add_sub_cancel] at hy
      rw [take_succ hy] at h ha
      rcases List.mem_append.1 ha with ha | ha
      · exact Int.lt_trans ((List.pairwise_append.1 h).2.2 a ha y (by simp)) hyx
      · simp only [List.mem_singleton] at ha; subst ha; exact hyx
theorem inc_at {l : List GTx} (h : Inc l) {i j : Nat} {x y : GTx} (hi : l[i]? = some x) (hj : l[j]? = some y) (hij : i < j) : x.Nonce < y.Nonce := by
  obtain ⟨hi', rfl⟩ := List.getElem?_eq_some_iff.1 hi
  obtain ⟨hj', rfl⟩ := List.getElem?_eq_some_iff.1 hj
  exact List.pairwise_iff_getElem.1 h i j hi' hj' hij
theorem inc_drop {l : List GTx} (h : Inc l) (k : Nat) : Inc (l.drop k) := List.Pairwise.sublist (List.drop_sublist k l) h
theorem inc_take {l : List GTx} (h : Inc l) (k : Nat) : Inc (l.take k) := List.Pairwise.sublist (List.take_sublist k l) h
theorem check_val {l : GLine} (hl : LineOk l) : (May l → F65_queue_Check 1000 l = some 0) ∧ (¬ May l → F65_queue_Check 1000 l = some 8) := by
  unfold F65_queue_Check
  by_cases hlen : l.Txs.length ≤ 256
  · rw [if_neg (by simp; omega)]
    obtain ⟨b, hb, hP⟩ : ∃ b, loopF (fun z => F65_queue_Check_s0 1000 l z) 1000 (0 : Int) = some b ∧ ((b = .inl () → May l) ∧ (b = .inr () → ¬ May l)) := by
      refine loop_ok (fun z => ∃ k : Nat, z = (k : Int) ∧ k ≤ l.Txs.length ∧ (∀ x ∈ l.Txs.take k, own x l.From = true) ∧ Inc (l.Txs.take k)) (fun z => (l.Txs.length - z).toNat) (fun b : Unit ⊕ Unit => (b = .inl () → May l) ∧ (b = .inr () → ¬ May l)) ?_ 1000 _
        ⟨0, rfl, by omega, by simp, by simp [Inc]⟩ (by simp; omega)
      rintro z ⟨k, rfl, hk, hown, hinc⟩
      unfold F65_queue_Check_s0
      by_cases hi : k < l.Txs.length
      · rw [if_pos (by simpa using hi)]
        obtain ⟨x, hx⟩ : ∃ x, l.Txs[k]? = some x := ⟨_, List.getElem?_eq_getElem hi⟩
        rw [rd_nat, hx]
        simp only [Option.bind_some]
        have hxm := List.mem_of_getElem? hx
        rw [own_val (hl.txs x hxm)]
        simp only [Option.bind_some]
        by_cases ho : own x l.From = true
        · rw [if_neg (by simp [ho])]
          by_cases h0 : k = 0
          · subst h0
            simp only [Int.natCast_zero, gt_iff_lt, Int.lt_irrefl, decide_false, Bool.false_eq_true, if_false, Option.bind_some, StepOk]
            rw [wi64 (by omega) (by omega)]
            refine ⟨⟨1, rfl, by omega, ?_, ?_⟩, by omega⟩
            · rw [take_succ hx]; intro y hy; simp at hy; subst hy; exact ho
            · exact inc_snoc hinc hx (.inl rfl)
          · rw [if_pos (by simp; omega), wi64 (by omega) (by omega), show (k : Int) - 1 = ((k - 1 : Nat) : Int) from by omega, rd_nat]
            obtain ⟨y, hy⟩ : ∃ y, l.Txs[k - 1]? = some y := ⟨_, List.getElem?_eq_getElem (by omega)⟩
            rw [hy]
            simp only [Option.bind_some]
            by_cases hn : y.Nonce ≥ x.Nonce
            · rw [if_pos (by simpa using hn)]
              simp only [StepOk]
              refine ⟨by simp, fun _ hm => ?_⟩
              have := inc_at hm.2.2 hy hx (by omega)
              omega
            · rw [if_neg (by simpa using hn)]
              simp only [StepOk]
              rw [wi64 (by omega) (by omega)]
              refine ⟨⟨k + 1, by omega, by omega, ?_, inc_snoc hinc hx (.inr ⟨y, hy, by omega⟩)⟩, by omega⟩
              rw [take_succ hx]
              intro z hz
              rcases List.mem_append.1 hz with hz | hz
              · exact hown z hz
              · simp only [List.mem_singleton] at hz; subst hz; exact ho
        · rw [if_pos (by simp [ho])]
          simp only [Option.bind_some, if_true, StepOk]
          exact ⟨by simp, fun _ hm => ho (hm.2.1 x hxm)⟩
      · rw [if_neg (by simpa using hi)]
        have hk' : k = l.Txs.length := by omega
        subst hk'
        rw [List.take_length] at hown hinc
        exact ⟨fun _ => ⟨hlen, hown, hinc⟩, by simp⟩
    rw [hb]
    simp only [Option.bind_some]
    rcases b with ⟨⟩ | ⟨⟩
    · exact ⟨fun _ => rfl, fun h => absurd (hP.1 rfl) h⟩
    · exact ⟨fun h => absurd h (hP.2 rfl), fun _ => rfl⟩
  · rw [if_pos (by simp; omega)]
    exact ⟨fun h => absurd h.1 hlen, fun _ => rfl⟩
end Go.Proofs.YtonfljoibcnlgaaGreatDoor
namespace Go.Proofs.YtonfljoibcnlgaaGreatDoor
open Bd
def lzN (v : Nat) : Nat := if v = 0 then 8 else 7 - Nat.log2 v
def sh : List Nat → List Nat → Nat
  | x :: a, y :: b => if x = y then 8 + sh a b else lzN (x ^^^ y)
  | _, _ => 0
def ah : List Nat → List Nat → Bool
  | x :: a, y :: b => if x = y then ah a b else decide (x < y)
  | _, _ => false
def Bys (a : List Nat) : Prop := ∀ x ∈ a, x < 256
theorem tab_lz_ge : ((List.range 256).all fun v => (List.range 9).all fun k => (Nat.ble k (lzN v)) == (Nat.blt v (2 ^ (8 - k)))) = true := by kernel_rfl
theorem lz_ge {v k : Nat} (hv : v < 256) (hk : k ≤ 8) : k ≤ lzN v ↔ v < 2 ^ (8 - k) := by
  have h := List.all_eq_true.1 (List.all_eq_true.1 tab_lz_ge v (List.mem_range.2 hv)) k (List.mem_range.2 (by omega))
  have h2 : Nat.ble k (lzN v) = Nat.blt v (2 ^ (8 - k)) := by simpa using h
  rw [← Nat.ble_eq, h2, Nat.blt_eq]
theorem lz_le (v : Nat) : lzN v ≤ 8 := by unfold lzN; split <;> omega
theorem xor_lt {x y : Nat} (hx : x < 256) (hy : y < 256) : x ^^^ y < 256 := Nat.xor_lt_two_pow (n := 8) hx hy
theorem xor_ne {x y : Nat} (h : x ≠ y) : x ^^^ y ≠ 0 := fun e => h (by
  have h2 : (x ^^^ y) ^^^ y = x := by rw [Nat.xor_assoc, Nat.xor_self, Nat.xor_zero]
  rw [e, Nat.zero_xor] at h2; exact h2.symm)
theorem lz_xor {p q : Nat} (hp : p < 256) (hq : q < 256) : min (lzN p) (lzN q) ≤ lzN (p ^^^ q) := by
  have h8 : min (lzN p) (lzN q) ≤ 8 := Nat.le_trans (Nat.min_le_left _ _) (lz_le _)
  rw [lz_ge (xor_lt hp hq) h8]
  exact Nat.xor_lt_two_pow ((lz_ge hp h8).1 (Nat.min_le_left _ _)) ((lz_ge hq h8).1 (Nat.min_le_right _ _))
theorem ah_eq : ∀ {a b : List Nat}, a.length = b.length → (a = b ↔ ah a b = false ∧ ah b a = false)
  | [], [], _ => by simp [ah]
  | x :: a, y :: b, hl => by
    simp only [ah]
    by_cases e : x = y
    · subst e; simp only [if_true, List.cons.injEq, true_and]; exact ah_eq (by simpa using hl)
    · rw [if_neg e, if_neg (Ne.symm e)]; simp [e]; omega
  | [], _ :: _, hl => by simp at hl
  | _ :: _, [], hl => by simp at hl
theorem ah_trans : ∀ {a b c : List Nat}, a.length = b.length → b.length = c.length → ah a b = true → ah b c = true → ah a c = true
  | [], _, _, _, _, h1, _ => by simp [ah] at h1
  | _ :: _, [], _, _, _, h1, _ => by simp [ah] at h1
  | _ :: _, _ :: _, [], _, _, _, h2 => by simp [ah] at h2
  | x :: a, y :: b, z :: c, hl1, hl2, h1, h2 => by
    simp only [ah] at h1 h2 ⊢
    by_cases e1 : x = y
    · subst e1
      rw [if_pos rfl] at h1
      by_cases e2 : x = z
      · subst e2; rw [if_pos rfl] at h2 ⊢; exact ah_trans (by simpa using hl1) (by simpa using hl2) h1 h2
      · rw [if_neg e2] at h2 ⊢; exact h2
    · rw [if_neg e1] at h1
      by_cases e2 : y = z
      · subst e2; rw [if_neg e1]; exact h1
      · rw [if_neg e2] at h2
        have h1' : x < y := by simpa using h1
        have h2' : y < z := by simpa using h2
        rw [if_neg (by omega)]
        simp; omega
theorem sh_symm : ∀ (a b : List Nat), sh a b = sh b a
  | x :: a, y :: b => by
    simp only [sh]
    by_cases e : x = y
    · subst e; simp only [if_true]; rw [sh_symm]
    · rw [if_neg e, if_neg (Ne.symm e), Nat.xor_comm]
  | [], [] => rfl
  | [], _ :: _ => rfl
  | _ :: _, [] => rfl
theorem sh_tri : ∀ {a b c : List Nat}, Bys a → Bys b → Bys c → a.length = b.length → b.length = c.length → min (sh a b) (sh b c) ≤ sh a c
  | [], _, _, _, _, _, _, _ => by simp [sh]
  | _ :: _, [], _, _, _, _, h, _ => by simp at h
  | _ :: _, _ :: _, [], _, _, _, _, h => by simp at h
  | x :: a, y :: b, z :: c, ha, hb, hc, hl1, hl2 => by
    have ih := sh_tri (a := a) (b := b) (c := c) (fun w hw => ha w (by simp [hw])) (fun w hw => hb w (by simp [hw])) (fun w hw => hc w (by simp [hw])) (by simpa using hl1) (by simpa using hl2)
    have bx := ha x (by simp)
    have byy := hb y (by simp)
    have bz := hc z (by simp)
    simp only [sh]
    by_cases e1 : x = y
    · subst e1
      rw [if_pos rfl]
      by_cases e2 : x = z
      · subst e2; simp only [if_true]; omega
      · rw [if_neg e2, if_neg e2]
        exact Nat.min_le_right _ _
    · rw [if_neg e1]
      by_cases e2 : y = z
      · subst e2; rw [if_pos rfl, if_neg e1]; exact Nat.min_le_left _ _
      · rw [if_neg e2]
        have h := lz_xor (xor_lt bx byy) (xor_lt byy bz)
        have hx : (x ^^^ y) ^^^ (y ^^^ z) = x ^^^ z := by
          rw [Nat.xor_assoc, ← Nat.xor_assoc y y z, Nat.xor_self, Nat.zero_xor]
        rw [hx] at h
        by_cases e3 : x = z
        · rw [if_pos e3]
          have := lz_le (x ^^^ y)
          have : min (lzN (x ^^^ y)) (lzN (y ^^^ z)) ≤ 8 := Nat.le_trans (Nat.min_le_left _ _) this
          omega
        · rw [if_neg e3]; exact h
end Go.Proofs.YtonfljoibcnlgaaGreatDoor
namespace Go.Proofs.YtonfljoibcnlgaaGreatDoor
open Bd Go
abbrev toI (a : List Nat) : List Int := a.map Int.ofNat
theorem rd_toI {a : List Nat} {i : Nat} : rd (toI a) (i : Int) = (a[i]?).map Int.ofNat := by
  unfold rd; simp
theorem xor_u8 {x y : Nat} (hx : x < 256) (hy : y < 256) : bXor .u8 (Int.ofNat x) (Int.ofNat y) = Int.ofNat (x ^^^ y) := by
  have h := xor_lt hx hy
  show IntKind.u8.wrap (((BitVec.ofInt 8 (Int.ofNat x)) ^^^ (BitVec.ofInt 8 (Int.ofNat y))).toNat : Int) = _
  have e1 : BitVec.ofInt 8 (Int.ofNat x) = BitVec.ofNat 8 x := by simp
  have e2 : BitVec.ofInt 8 (Int.ofNat y) = BitVec.ofNat 8 y := by simp
  rw [e1, e2, BitVec.toNat_xor, BitVec.toNat_ofNat, BitVec.toNat_ofNat, Nat.mod_eq_of_lt hx, Nat.mod_eq_of_lt hy]
  rw [wu8 (by omega) (by omega)]; rfl
theorem drop_cons {a : List Nat} {m x : Nat} (h : a[m]? = some x) : a.drop m = x :: a.drop (m + 1) := by
  obtain ⟨h1, h2⟩ := List.getElem?_eq_some_iff.1 h
  rw [List.drop_eq_getElem_cons h1, h2]
def Finds (a b : List Nat) (m : Nat) : Option (Int × Int) → Prop
  | none => a.drop m = b.drop m
  | some (i, v) => ∃ j x y : Nat, m ≤ j ∧ j < 32 ∧ i = Int.ofNat j ∧ a[j]? = some x ∧ b[j]? = some y ∧ x ≠ y ∧ v = Int.ofNat (x ^^^ y) ∧ x < 256 ∧ y < 256 ∧
      ah (a.drop m) (b.drop m) = decide (x < y) ∧ sh (a.drop m) (b.drop m) = 8 * (j - m) + lzN (x ^^^ y)
theorem apart_spec {a b : List Nat} (ha : Bys a) (hb : Bys b) (la : a.length = 32) (lb : b.length = 32) : ∀ (n m : Nat), m ≤ 32 → 33 ≤ n + m → ∃ q, apartF (toI a) (toI b) n (m : Int) = some q ∧ Finds a b m q
  | 0, m, h1, h2 => by omega
  | n + 1, m, h1, h2 => by
    by_cases hm : m = 32
    · subst hm
      refine ⟨none, by simp [apartF], ?_⟩
      show a.drop 32 = b.drop 32
      rw [List.drop_of_length_le (by omega), List.drop_of_length_le (by omega)]
    · have hx : a[m]? = some (a[m]'(by omega)) := List.getElem?_eq_getElem (by omega)
      have hy : b[m]? = some (b[m]'(by omega)) := List.getElem?_eq_getElem (by omega)
      generalize a[m]'(by omega) = x at hx
      generalize b[m]'(by omega) = y at hy
      have bx : x < 256 := ha x (List.mem_of_getElem? hx)
      have byy : y < 256 := hb y (List.mem_of_getElem? hy)
      have hdec : decide ((m : Int) < 32) = true := by simp; omega
      have hstep : apartF (toI a) (toI b) (n + 1) (m : Int) = if x = y then apartF (toI a) (toI b) n ((m + 1 : Nat) : Int) else some (some (Int.ofNat m, Int.ofNat (x ^^^ y))) := by
        simp only [apartF, hdec, if_true, rd_toI, hx, hy, Option.map_some, Option.bind_some, xor_u8 bx byy]
        by_cases e : x = y
        · subst e
          simp only [Nat.xor_self, if_true]
          rw [if_neg (by simp), wi64 (by omega) (by omega)]; rfl
        · have := xor_ne e
          rw [if_neg e, if_pos (by simp; omega)]; rfl
      rw [hstep]
      by_cases e : x = y
      · subst e
        rw [if_pos rfl]
        obtain ⟨q, k1, k2⟩ := apart_spec ha hb la lb n (m + 1) (by omega) (by omega)
        refine ⟨q, k1, ?_⟩
        match q, k2 with
        | none, k2 => show a.drop m = b.drop m; rw [drop_cons hx, drop_cons hy]; rw [show a.drop (m + 1) = b.drop (m + 1) from k2]
        | some (i, v), ⟨j, x', y', q1, q2, q3, q4, q5, q6, q7, q8, q9, q10, q11⟩ =>
          refine ⟨j, x', y', by omega, q2, q3, q4, q5, q6, q7, q8, q9, ?_, ?_⟩
          · rw [drop_cons hx, drop_cons hy]; simp only [ah, if_true]; exact q10
          · rw [drop_cons hx, drop_cons hy]; simp only [sh, if_true, q11]; omega
      · rw [if_neg e]
        refine ⟨_, rfl, m, x, y, Nat.le_refl _, by omega, rfl, hx, hy, e, rfl, bx, byy, ?_, ?_⟩
        · rw [drop_cons hx, drop_cons hy]; simp [ah, e]
        · rw [drop_cons hx, drop_cons hy]; simp [sh, e]
theorem ah_self : ∀ (a : List Nat), ah a a = false
  | [] => rfl
  | x :: a => by simp [ah, ah_self a]
theorem sh_self : ∀ (a : List Nat), sh a a = 8 * a.length
  | [] => rfl
  | x :: a => by simp [sh, sh_self a]; omega
theorem ahead_val {a b : List Nat} {n : Nat} (hn : 33 ≤ n) (ha : Bys a) (hb : Bys b) (la : a.length = 32) (lb : b.length = 32) : F66_path_Ahead n (toI a) (toI b) = some (ah a b) := by
  obtain ⟨q, h1, h2⟩ := apart_spec ha hb la lb n 0 (by omega) (by omega)
  unfold F66_path_Ahead
  rw [show (0 : Int) = ((0 : Nat) : Int) from rfl, h1]
  match q, h2 with
  | none, h2 =>
    have e : a = b := by simpa [Finds] using h2
    subst e
    simp [ah_self]
  | some (i, v), ⟨j, x, y, q1, q2, q3, q4, q5, q6, q7, q8, q9, q10, q11⟩ =>
    subst q3
    simp only [Option.bind_some, Int.ofNat_eq_natCast, rd_toI, q4, q5, Option.map_some]
    simp only [List.drop_zero] at q10
    rw [q10]; simp
def Dig (l : List Int) : Prop := l.length = 32 ∧ ∀ x ∈ l, 0 ≤ x ∧ x < 256
def aN (a : List Int) : List Nat := a.map Int.toNat
def lt (a b : List Int) : Bool := ah (aN a) (aN b)
theorem aN_toI {a : List Int} (h : Dig a) : toI (aN a) = a := by
  unfold aN toI
  rw [List.map_map]
  conv => rhs; rw [← List.map_id a]
  exact List.map_congr_left fun x hx => by have := (h.2 x hx).1; simp; omega
theorem aN_bys {a : List Int} (h : Dig a) : Bys (aN a) := fun x hx => by
  obtain ⟨y, hy, rfl⟩ := List.mem_map.1 hx
  have := h.2 y hy; omega
theorem aN_len {a : List Int} (h : Dig a) : (aN a).length = 32 := by unfold aN; rw [List.length_map, h.1]
theorem aN_inj {a b : List Int} (ha : Dig a) (hb : Dig b) (h : aN a = aN b) : a = b := by rw [← aN_toI ha, h, aN_toI hb]
theorem lt_val {a b : List Int} (ha : Dig a) (hb : Dig b) : F66_path_Ahead 1000 a b = some (lt a b) := by
  have := ahead_val (n := 1000) (by omega) (aN_bys ha) (aN_bys hb) (aN_len ha) (aN_len hb)
  rwa [aN_toI ha, aN_toI hb] at this
theorem lt_self (a : List Int) : lt a a = false := ah_self _
theorem lt_trans {a b c : List Int} (ha : Dig a) (hb : Dig b) (hc : Dig c) (h1 : lt a b = true) (h2 : lt b c = true) : lt a c = true := ah_trans (by rw [aN_len ha, aN_len hb]) (by rw [aN_len hb, aN_len hc]) h1 h2
theorem lt_eq {a b : List Int} (ha : Dig a) (hb : Dig b) (h1 : lt a b = false) (h2 : lt b a = false) : a = b := aN_inj ha hb ((ah_eq (by rw [aN_len ha, aN_len hb])).2 ⟨h1, h2⟩)
theorem lt_ne {a b : List Int} (h : lt a b = true) : a ≠ b := fun e => by subst e; rw [lt_self] at h; cases h
theorem loop_inv {σ β : Type} {f : σ → Option (σ ⊕ β)} (I : σ → Prop) (P : β → Prop) (h : ∀ z, I z → (∀ z', f z = some (.inl z') → I z') ∧ (∀ b, f z = some (.inr b) → P b)) : ∀ (n : Nat) (z : σ) (b : β), I z → loopF f n z = some b → P b
  | 0, z, b, _, e => by simp [loopF] at e
  | n + 1, z, b, hz, e => by
    simp only [loopF] at e
    cases hf : f z with
    | none => rw [hf] at e; cases e
    | some o =>
      rw [hf] at e
      cases o with
      | inl z' => exact loop_inv I P h n z' b ((h z hz).1 z' hf) e
      | inr b' =>
        simp only at e
        have e : b' = b := by simpa using e
        subst e
        exact (h z hz).2 b' hf
def Byt (l : List Int) : Prop := ∀ x ∈ l, 0 ≤ x ∧ x < 256
theorem wrap8 (x : Int) : 0 ≤ IntKind.u8.wrap x ∧ IntKind.u8.wrap x < 256 := by simp [IntKind.wrap, IntKind.bits, IntKind.signed]; omega
theorem byt_set {l : List Int} (h : Byt l) (i : Nat) {v : Int} (hv : 0 ≤ v ∧ v < 256) : Byt (l.set i v) := fun x hx => by
  rcases List.mem_or_eq_of_mem_set hx with hx | rfl
  · exact h x hx
  · exact hv
theorem of_byt {ps : List (List Int)} {r : List Int} (h : F138_sha_Of 1000 ps = some r) : Byt r := by
  unfold F138_sha_Of at h
  obtain ⟨o, _, h⟩ := bind_some h
  obtain ⟨_, h⟩ := ifp h
  obtain ⟨o1, _, h⟩ := bind_some h
  obtain ⟨o2, _, h⟩ := bind_some h
  obtain ⟨o3, _, h⟩ := bind_some h
  obtain ⟨o4, h4, h⟩ := bind_some h
  have e : o4 = r := by simpa using h
  subst e
  refine loop_inv (fun z : Int × List Int => Byt z.2) Byt ?_ 1000 _ _ ?_ h4
  · rintro ⟨i, z⟩ hz
    unfold F138_sha_Of_s5
    by_cases hi : i < 32
    · simp only [decide_eq_true hi, if_true]
      refine ⟨fun z' e => ?_, fun b e => ?_⟩
      · obtain ⟨x, _, e⟩ := bind_some e
        obtain ⟨_, e⟩ := ifp e
        obtain ⟨y, _, e⟩ := bind_some e
        have e := Sum.inl.inj (Option.some.inj e)
        subst e
        exact byt_set hz _ (wrap8 _)
      · obtain ⟨x, _, e⟩ := bind_some e
        obtain ⟨_, e⟩ := ifp e
        obtain ⟨y, _, e⟩ := bind_some e
        cases Option.some.inj e
    · simp only [decide_eq_false hi, Bool.false_eq_true, if_false]
      refine ⟨fun z' e => (by cases Option.some.inj e), fun b e => ?_⟩
      have e := Sum.inr.inj (Option.some.inj e)
      subst e; exact hz
  · intro x hx
    have := List.eq_of_mem_replicate hx
    subst this; decide
theorem ky_dig {k : List Int} (h : k.length = 32) : Dig (ky k) := by
  obtain ⟨e, hl⟩ := ky_val h
  refine ⟨hl, ?_⟩
  unfold F63_acct_Key F104_tag_Of at e
  obtain ⟨y, e1, e⟩ := bind_some e
  have e1' := e1
  obtain ⟨b, _, e2⟩ := bind_some e1
  obtain ⟨r, e3, e4⟩ := bind_some e2
  have e4 : r = y := by simpa using e4
  have e : y = ky k := by simpa using e
  rw [← e, ← e4]
  exact of_byt e3
structure TxD (x : GTx) : Prop where
  ok : TxOk x
  pub : Dig x.Pub
  to : Dig x.To
  amount : 0 ≤ x.Amount ∧ x.Amount < 18446744073709551616
end Go.Proofs.YtonfljoibcnlgaaGreatDoor
