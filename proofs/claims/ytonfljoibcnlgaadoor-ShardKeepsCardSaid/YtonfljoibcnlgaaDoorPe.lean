/-
  The plain law of a sender's line, on: two lists that are the same, a nonce that is found, the ready run, what is past. No machine is in sight.
-/
import Derived.Test.YtonfljoibcnlgaaDoorPd
namespace Go.Proofs.YtonfljoibcnlgaaDoor
open Bd Go

/-- where a nonce stands -/
theorem ahead_ok {ts : List GTx} (hs : Inc ts) (hl : ts.length ≤ 256) (n : Int) : ∃ k : Nat, F75_api_Tx_ahead_844 300 ts n = some (k : Int) ∧ k ≤ ts.length ∧ (∀ i x, ts[i]? = some x → i < k → x.Nonce < n) ∧ (∀ i x, ts[i]? = some x → k ≤ i → n ≤ x.Nonce) := by
  unfold F75_api_Tx_ahead_844
  refine bP (S := fun o => ∃ k : Nat, o = some (k : Int) ∧ k ≤ ts.length ∧ (∀ i x, ts[i]? = some x → i < k → x.Nonce < n) ∧ (∀ i x, ts[i]? = some x → k ≤ i → n ≤ x.Nonce))
    (Q := fun b => ∃ k : Nat, b = (k : Int) ∧ k ≤ ts.length ∧ (∀ i x, ts[i]? = some x → i < k → x.Nonce < n) ∧ (∀ i x, ts[i]? = some x → k ≤ i → n ≤ x.Nonce)) ?_ fun b ⟨k, e, h⟩ => ⟨k, by rw [e], h⟩
  refine loop_ok (fun z : Int × Int => ∃ a b : Nat, z = ((a : Int), (b : Int)) ∧ a ≤ b ∧ b ≤ ts.length ∧ (∀ i x, ts[i]? = some x → i < a → x.Nonce < n) ∧ (∀ i x, ts[i]? = some x → b ≤ i → n ≤ x.Nonce)) (fun z => (z.2 - z.1).toNat) _ ?_ 300 _
    ⟨0, ts.length, rfl, by omega, by omega, fun i x _ h => by omega, fun i x h h2 => by have := (List.getElem?_eq_some_iff.1 h).1; omega⟩ (by simp only; omega)
  rintro z ⟨a, b, rfl, h1, h2, h3, h4⟩
  simp only
  unfold F75_api_Tx_ahead_844_s0
  by_cases hab : a < b
  · rw [if_pos (by simpa using hab), wi64 (x := (a : Int) + b) (by omega) (by omega), Int.tdiv_eq_ediv_of_nonneg (by omega), wi64 (x := ((a : Int) + b) / 2) (by omega) (by omega), show ((a : Int) + b) / 2 = (((a + b) / 2 : Nat) : Int) from by omega, rd_nat]
    obtain ⟨x, hx⟩ : ∃ x, ts[(a + b) / 2]? = some x := ⟨_, List.getElem?_eq_getElem (by omega)⟩
    rw [hx]
    simp only [Option.bind_some, F111_queue_nonces_1]
    by_cases hn : x.Nonce < n
    · rw [if_pos (by simpa using hn)]
      simp only [StepOk]
      rw [wi64 (by omega) (by omega)]
      refine ⟨⟨(a + b) / 2 + 1, b, by simp, by omega, h2, fun i y hy hi => ?_, h4⟩, by omega⟩
      by_cases e : i = (a + b) / 2
      · subst e; rw [hx] at hy; cases hy; exact hn
      · have := inc_at hs hy hx (by omega); omega
    · rw [if_neg (by simpa using hn)]
      simp only [StepOk]
      refine ⟨⟨a, (a + b) / 2, rfl, by omega, by omega, h3, fun i y hy hi => ?_⟩, by omega⟩
      by_cases e : i = (a + b) / 2
      · subst e; rw [hx] at hy; cases hy; omega
      · have := inc_at hs hx hy (by omega); omega
  · rw [if_neg (by simpa using hab)]
    have : a = b := by omega
    subst this
    exact ⟨a, rfl, h2, h3, h4⟩
theorem same_val {a b : List GTx} (hl : a.length ≤ 290) : F20_beadrollref19_SameTxs 300 a b = some (decide (a = b)) := by
  unfold F20_beadrollref19_SameTxs
  by_cases hab : a.length = b.length
  · rw [if_neg (by simp [hab])]
    obtain ⟨r, hr, hP⟩ : ∃ r, loopF (fun z => F20_beadrollref19_SameTxs_s0 a b z) 300 (0 : Int) = some r ∧ ((r = .inl () → a = b) ∧ (r = .inr () → a ≠ b)) := by
      refine loop_ok (fun z => ∃ k : Nat, z = (k : Int) ∧ k ≤ a.length ∧ a.take k = b.take k) (fun z => (a.length - z).toNat) (fun r : Unit ⊕ Unit => (r = .inl () → a = b) ∧ (r = .inr () → a ≠ b)) ?_ 300 _ ⟨0, rfl, by omega, by simp⟩ (by simp; omega)
      rintro z ⟨k, rfl, hk, ht⟩
      unfold F20_beadrollref19_SameTxs_s0
      by_cases hi : k < a.length
      · rw [if_pos (by simpa using hi), rd_nat, rd_nat]
        have hx : a[k]? = some a[k] := List.getElem?_eq_getElem hi
        have hy : b[k]? = some (b[k]'(by omega)) := List.getElem?_eq_getElem (by omega)
        rw [hx, hy]
        simp only [Option.bind_some]
        by_cases he : a[k] = b[k]'(by omega)
        · rw [if_neg (by simp [he])]
          simp only [StepOk]
          rw [wi64 (by omega) (by omega)]
          exact ⟨⟨k + 1, by omega, by omega, by rw [take_succ hx, take_succ hy, ht, he]⟩, by omega⟩
        · rw [if_pos (by simp [he])]
          simp only [StepOk]
          refine ⟨by simp, fun _ e => he ?_⟩
          subst e; rfl
      · rw [if_neg (by simpa using hi)]
        have hk' : k = a.length := by omega
        subst hk'
        rw [List.take_length, hab, List.take_length] at ht
        exact ⟨fun _ => ht, by simp⟩
    rw [hr]
    simp only [Option.bind_some]
    rcases r with ⟨⟩ | ⟨⟩
    · have := hP.1 rfl; simp [this]
    · have := hP.2 rfl; simp [this]
  · rw [if_pos (by simp; omega)]
    have : a ≠ b := fun e => hab (by rw [e])
    simp [this]

/-- among nonces that go up there is one alone -/
theorem inc_uniq {l : List GTx} (h : Inc l) {x y : GTx} (hx : x ∈ l) (hy : y ∈ l) (e : x.Nonce = y.Nonce) : x = y := by
  obtain ⟨i, hi⟩ := List.getElem?_of_mem hx
  obtain ⟨j, hj⟩ := List.getElem?_of_mem hy
  rcases Nat.lt_trichotomy i j with hij | hij | hij
  · have := inc_at h hi hj hij; omega
  · subst hij; rw [hi] at hj; cases hj; rfl
  · have := inc_at h hj hi hij; omega

theorem clone_val {l : List GTx} (h : l.length ≤ 1073741824) : F76_Clone 300 l = some l := by unfold F76_Clone; rw [if_pos h]

end Go.Proofs.YtonfljoibcnlgaaDoor
