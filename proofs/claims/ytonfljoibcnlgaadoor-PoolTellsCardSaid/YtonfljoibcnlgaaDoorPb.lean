/-
  A transaction's digest and a sender's key are always made: totality of the hash and of what it is given. No machine is in sight.
-/
import Derived.Test.YtonfljoibcnlgaaDoorPa
import Derived.Test.YtonfljoibcnlgaaDoorXz
namespace Go.Proofs.YtonfljoibcnlgaaDoor
open Bd Go

@[reducible] def Len (k : Nat) (o : Option (List Int)) : Prop := ∃ r, o = some r ∧ r.length = k

theorem turned_ok (x : Int) {c : Int} (hc : c = 2 ∨ c = 6 ∨ c = 7 ∨ c = 11 ∨ c = 13 ∨ c = 17 ∨ c = 18 ∨ c = 19 ∨ c = 22 ∨ c = 25) : ∃ v, F170_sha_turned 300 x c = some v := by
  unfold F170_sha_turned F176_bits_RotateLeft32
  rcases hc with rfl | rfl | rfl | rfl | rfl | rfl | rfl | rfl | rfl | rfl <;> (rw [if_pos (by decide +kernel), if_pos (by decide +kernel)]; exact ⟨_, rfl⟩)

/-- the 64 words of a block -/
theorem block0_ok {b w : List Int} (hb : b.length = 64) (hw : w.length = 64) : ∃ r, loopF (fun z => F160_sha_state_block_f5d_s0 300 b z.1 z.2) 300 ((0 : Int), w) = some r ∧ r.length = 64 := by
  refine loop_ok (fun z => 0 ≤ z.1 ∧ z.1 ≤ 64 ∧ z.2.length = 64) (fun z => (64 - z.1).toNat) _ ?_ 300 _ ⟨by simp, by simp, hw⟩ (by simp)
  rintro ⟨t, w⟩ ⟨h0, h1, h2⟩
  simp only at h0 h1 h2 ⊢
  unfold F160_sha_state_block_f5d_s0
  by_cases ht : t < 64
  · rw [if_pos (by simpa using ht)]
    have fin : ∀ o : Option (List Int), Len 64 o → StepOk (fun z : Int × List Int => 0 ≤ z.1 ∧ z.1 ≤ 64 ∧ z.2.length = 64) (fun z => (64 - z.1).toNat) (fun r : List Int => r.length = 64) (t, w) (o.bind fun o43 => some (.inl (IntKind.i64.wrap (t + 1), o43))) := by
      rintro o ⟨r, rfl, hr⟩
      simp only [Option.bind_some, StepOk]
      rw [wi64 (by omega) (by omega)]
      exact ⟨⟨by omega, by omega, hr⟩, by omega⟩
    refine fin _ ?_
    have w4 : ∀ k : Int, 0 ≤ k → k < 4 → t < 16 → IntKind.i64.wrap (IntKind.i64.wrap (4 * t) + k) = 4 * t + k := fun k hk hk4 ht' => by rw [wi64 (x := 4 * t) (by omega) (by omega), wi64 (by omega) (by omega)]
    refine iC (S := Len 64) (fun hc => ?_) (fun hc => ?_)
    · have hc : t < 16 := by simpa using hc
      refine bP' (rd_ex (by rw [wi64 (by omega) (by omega)]; omega) (by rw [wi64 (by omega) (by omega)]; omega)) fun x1 => ?_
      refine bP' (rd_ex (by rw [w4 1 (by omega) (by omega) hc]; omega) (by rw [w4 1 (by omega) (by omega) hc]; omega)) fun x2 => ?_
      refine bP' (rd_ex (by rw [w4 2 (by omega) (by omega) hc]; omega) (by rw [w4 2 (by omega) (by omega) hc]; omega)) fun x3 => ?_
      refine bP' (rd_ex (by rw [w4 3 (by omega) (by omega) hc]; omega) (by rw [w4 3 (by omega) (by omega) hc]; omega)) fun x4 => ?_
      refine bP' (rd_ex h0 (by omega)) fun x5 => ?_
      exact ⟨_, rfl, by simpa using h2⟩
    · have hc : ¬ t < 16 := by simpa using hc
      refine bP' (rd_ex (by rw [wi64 (by omega) (by omega)]; omega) (by rw [wi64 (by omega) (by omega)]; omega)) fun x1 => ?_
      refine bP' (rd_ex (by rw [wi64 (by omega) (by omega)]; omega) (by rw [wi64 (by omega) (by omega)]; omega)) fun x2 => ?_
      refine bP' (rd_ex (by rw [wi64 (by omega) (by omega)]; omega) (by rw [wi64 (by omega) (by omega)]; omega)) fun x3 => ?_
      refine bP' (turned_ok _ (by simp)) fun y1 => ?_
      refine bP' (turned_ok _ (by simp)) fun y2 => ?_
      refine bP' (rd_ex (by rw [wi64 (by omega) (by omega)]; omega) (by rw [wi64 (by omega) (by omega)]; omega)) fun x4 => ?_
      refine bP' (turned_ok _ (by simp)) fun y3 => ?_
      refine bP' (turned_ok _ (by simp)) fun y4 => ?_
      refine bP' (rd_ex h0 (by omega)) fun x5 => ?_
      exact ⟨_, rfl, by simpa using h2⟩
  · rw [if_neg (by simpa using ht)]
    exact h2

/-- the rounds -/
theorem block1_ok {w v : List Int} (hw : w.length = 64) (hv : v.length = 8) : ∃ r, loopF (fun z => F160_sha_state_block_f5d_s1 300 w z.1 z.2) 300 ((0 : Int), v) = some r ∧ r.length = 8 := by
  refine loop_ok (fun z => 0 ≤ z.1 ∧ z.1 ≤ 64 ∧ z.2.length = 8) (fun z => (64 - z.1).toNat) _ ?_ 300 _ ⟨by simp, by simp, hv⟩ (by simp)
  rintro ⟨t, v⟩ ⟨h0, h1, h2⟩
  simp only at h0 h1 h2 ⊢
  unfold F160_sha_state_block_f5d_s1
  by_cases ht : t < 64
  · rw [if_pos (by simpa using ht)]
    have k8 : ∀ k : Nat, k < 8 → ∃ x, rd v (k : Int) = some x := fun k hk => rd_ex (by omega) (by omega)
    refine bP' (k8 0 (by omega)) fun x0 => ?_
    refine bP' (k8 1 (by omega)) fun x1 => ?_
    refine bP' (k8 2 (by omega)) fun x2 => ?_
    refine bP' (k8 4 (by omega)) fun x4 => ?_
    refine bP' (k8 5 (by omega)) fun x5 => ?_
    refine bP' (k8 6 (by omega)) fun x6 => ?_
    refine bP' (k8 7 (by omega)) fun x7 => ?_
    refine bP' (turned_ok _ (by simp)) fun y1 => ?_
    refine bP' (turned_ok _ (by simp)) fun y2 => ?_
    refine bP' (turned_ok _ (by simp)) fun y3 => ?_
    refine bP' (rd_ex h0 (by simpa [shaK] using ht)) fun x8 => ?_
    refine bP' (rd_ex h0 (by omega)) fun x9 => ?_
    refine bP' (turned_ok _ (by simp)) fun y4 => ?_
    refine bP' (turned_ok _ (by simp)) fun y5 => ?_
    refine bP' (turned_ok _ (by simp)) fun y6 => ?_
    refine bP' (k8 3 (by omega)) fun x3 => ?_
    simp only [StepOk]
    rw [wi64 (by omega) (by omega)]
    exact ⟨⟨by omega, by omega, rfl⟩, by omega⟩
  · rw [if_neg (by simpa using ht)]
    exact h2

theorem block2_ok {v s : List Int} (hv : v.length = 8) (hs : s.length = 8) : ∃ r, loopF (fun z => F160_sha_state_block_f5d_s2 v z.1 z.2) 300 ((0 : Int), s) = some r ∧ r.length = 8 := by
  refine loop_ok (fun z => 0 ≤ z.1 ∧ z.1 ≤ 8 ∧ z.2.length = 8) (fun z => (8 - z.1).toNat) _ ?_ 300 _ ⟨by simp, by simp, hs⟩ (by simp)
  rintro ⟨t, s⟩ ⟨h0, h1, h2⟩
  simp only at h0 h1 h2 ⊢
  unfold F160_sha_state_block_f5d_s2
  by_cases ht : t < 8
  · rw [if_pos (by simpa using ht)]
    refine bP' (rd_ex h0 (by omega)) fun x0 => ?_
    refine bP' (rd_ex h0 (by omega)) fun x1 => ?_
    refine bP' (rd_ex h0 (by omega)) fun x2 => ?_
    simp only [StepOk]
    rw [wi64 (by omega) (by omega)]
    exact ⟨⟨by omega, by omega, by simpa using h2⟩, by omega⟩
  · rw [if_neg (by simpa using ht)]
    exact h2
theorem block_ok {b s : List Int} (hb : b.length = 64) (hs : s.length = 8) : ∃ r, F160_sha_state_block_f5d 300 b s = some r ∧ r.length = 8 := by
  unfold F160_sha_state_block_f5d
  refine bP (S := Len 8) (block0_ok hb (by simp)) fun w hw => ?_
  refine bP (S := Len 8) (block1_ok hw hs) fun v hv => ?_
  refine bP (S := Len 8) (block2_ok hv hs) fun r hr => ?_
  exact ⟨r, rfl, hr⟩

theorem of1_ok {s p : List Int} (hs : s.length = 8) (hp : p.length ≤ 10000) : ∃ r, loopF (fun z => F137_sha_Of_s1 300 z.1 z.2) 300 (s, p) = some r ∧ (r.1.length = 8 ∧ r.2.length < 64) := by
  refine loop_ok (fun z : List Int × List Int => z.1.length = 8 ∧ z.2.length ≤ 10000) (fun z => z.2.length / 64) (fun r : List Int × List Int => r.1.length = 8 ∧ r.2.length < 64) ?_ 300 _ ⟨hs, hp⟩ (by simp only; omega)
  rintro ⟨s, p⟩ ⟨h0, h1⟩
  simp only at h0 h1 ⊢
  unfold F137_sha_Of_s1
  by_cases ht : 64 ≤ p.length
  · rw [if_pos (by simp; omega), if_pos (by omega)]
    refine bP (block_ok (by simp; omega) h0) fun y hy => ?_
    rw [if_pos (by omega)]
    simp only [StepOk]
    exact ⟨⟨hy, by simp; omega⟩, by simp; omega⟩
  · rw [if_neg (by simp; omega)]
    exact ⟨h0, by simp only; omega⟩
/-- the hash of one text -/
theorem of_ok {p : List Int} (hp : p.length ≤ 9000) : ∃ r, F137_sha_Of 300 [p] = some r ∧ r.length = 32 := by
  unfold F137_sha_Of
  refine bP (S := Len 32) (Q := fun o : Int × List Int × List Int => o.2.1.length = 8 ∧ o.2.2.length < 64) ?_ fun o ho => ?_
  · refine loop_ok (fun z => 0 ≤ z.2.1 ∧ z.2.1 ≤ 1 ∧ z.2.2.1.length = 8 ∧ z.2.2.2.length < 64) (fun z => (1 - z.2.1).toNat) _ ?_ 300 _ ⟨by simp, by simp, rfl, by simp⟩ (by simp)
    rintro ⟨c, i, s, q⟩ ⟨h0, h1, h2, h3⟩
    simp only at h0 h1 h2 h3 ⊢
    unfold F137_sha_Of_s0
    by_cases hi : i < 1
    · have : i = 0 := by omega
      subst this
      rw [if_pos (by simp)]
      refine bP (Q := fun x => x = p) ⟨p, rfl, rfl⟩ fun x hx => ?_
      subst hx
      rw [if_pos (by simp; omega)]
      refine bP (of1_ok h2 (by simp; omega)) fun y hy => ?_
      simp only [StepOk]
      rw [wi64 (by omega) (by omega)]
      exact ⟨⟨by omega, by omega, hy.1, hy.2⟩, by decide⟩
    · rw [if_neg (by simpa using hi)]
      exact ⟨h2, h3⟩
  · rw [if_pos (by simp; omega)]
    refine bP (S := Len 32) (Q := fun q : List Int => q.length = 56 ∨ q.length = 120) ?_ fun q hq => ?_
    · have hq0 : (o.2.2 ++ [(128 : Int)]).length ≤ 64 ∧ 1 ≤ (o.2.2 ++ [(128 : Int)]).length := by simp; omega
      refine loop_ok (fun z => 1 ≤ z.length ∧ z.length ≤ 120 ∧ (z.length ≤ 56 ∨ 57 ≤ z.length)) (fun z => if z.length ≤ 56 then 56 - z.length else 120 - z.length) _ ?_ 300 _ ⟨hq0.2, by omega, by omega⟩ (by split <;> omega)
      intro z ⟨h0, h1, h2⟩
      unfold F137_sha_Of_s2
      have e : ∀ k : Nat, Int.tmod (k : Int) 64 = ((k % 64 : Nat) : Int) := fun k => by rw [Int.tmod_eq_emod_of_nonneg (by omega)]; omega
      by_cases hz : z.length % 64 = 56
      · rw [if_neg (by rw [e, hz]; simp)]
        show z.length = 56 ∨ z.length = 120
        omega
      · rw [if_pos (by rw [e]; simp; omega), if_pos (by simp; omega)]
        simp only [StepOk, List.length_append, List.length_cons, List.length_nil]
        refine ⟨⟨by omega, by omega, by omega⟩, ?_⟩
        split <;> split <;> omega
    · refine bP (S := Len 32) (Q := fun r : List Int => r.length = 64 ∨ r.length = 128) ?_ fun q' hq' => ?_
      · refine loop_ok (fun z => -8 ≤ z.1 ∧ z.1 ≤ 56 ∧ z.1 % 8 = 0 ∧ (z.2.length : Int) + z.1 / 8 + 1 = q.length + 8) (fun z => (z.1 + 8).toNat) _ ?_ 300 _ ⟨by simp, by simp, by simp, by simp; omega⟩ (by simp)
        rintro ⟨i, z⟩ ⟨h0, h1, h2, h3⟩
        simp only at h0 h1 h2 h3 ⊢
        unfold F137_sha_Of_s3
        by_cases hi : 0 ≤ i
        · rw [if_pos (by simpa using hi), if_pos hi, if_pos (by simp; omega)]
          simp only [StepOk, List.length_append, List.length_cons, List.length_nil]
          have hw : IntKind.i64.wrap (i - 8) = i - 8 := by
            by_cases h8 : 8 ≤ i
            · exact wi64 (by omega) (by omega)
            · have : i = 0 := by omega
              subst this; decide +kernel
          rw [hw]
          exact ⟨⟨by omega, by omega, by omega, by omega⟩, by omega⟩
        · rw [if_neg (by simpa using hi)]
          show z.length = 64 ∨ z.length = 128
          have : i = -8 := by omega
          omega
      · refine bP (S := Len 32) (Q := fun r : List Int => r.length = 8) ?_ fun s hs => ?_
        · refine loop_ok (fun z => z.1.length = 8 ∧ z.2.length ≤ 128 ∧ z.2.length % 64 = 0) (fun z => z.2.length) _ ?_ 300 _ ⟨ho.1, by simp only; omega, by simp only; omega⟩ (by simp only; omega)
          rintro ⟨s, z⟩ ⟨h0, h1, h2⟩
          simp only at h0 h1 h2 ⊢
          unfold F137_sha_Of_s4
          by_cases hz : 0 < z.length
          · rw [if_pos (decide_eq_true (by omega)), if_pos (by omega)]
            refine bP (block_ok (by simp; omega) h0) fun y hy => ?_
            rw [if_pos (by omega)]
            simp only [StepOk]
            exact ⟨⟨hy, by simp; omega, by simp; omega⟩, by simp; omega⟩
          · rw [if_neg (by rw [decide_eq_true_eq]; omega)]
            exact h0
        · refine bP (S := Len 32) (Q := fun r : List Int => r.length = 32) ?_ fun r hr => ⟨r, rfl, hr⟩
          refine loop_ok (fun z => 0 ≤ z.1 ∧ z.1 ≤ 32 ∧ z.2.length = 32) (fun z => (32 - z.1).toNat) _ ?_ 300 _ ⟨by simp, by simp, by simp⟩ (by simp)
          rintro ⟨i, z⟩ ⟨h0, h1, h2⟩
          simp only at h0 h1 h2 ⊢
          unfold F137_sha_Of_s5
          by_cases hi : i < 32
          · rw [if_pos (by simpa using hi)]
            have e1 : Int.tdiv i 4 = i / 4 := Int.tdiv_eq_ediv_of_nonneg h0
            have e2 : Int.tmod i 4 = i % 4 := Int.tmod_eq_emod_of_nonneg h0
            rw [e1, e2]
            refine bP' (rd_ex (by rw [wi64 (by omega) (by omega)]; omega) (by rw [wi64 (by omega) (by omega)]; omega)) fun x => ?_
            rw [if_pos (by rw [wi64 (x := 8 * (i % 4)) (by omega) (by omega), wi64 (by omega) (by omega)]; omega)]
            refine bP' (rd_ex h0 (by omega)) fun x1 => ?_
            simp only [StepOk]
            rw [wi64 (x := i + 1) (by omega) (by omega)]
            exact ⟨⟨by omega, by omega, by simpa using h2⟩, by omega⟩
          · rw [if_neg (by simpa using hi)]
            exact h2
end Go.Proofs.YtonfljoibcnlgaaDoor
