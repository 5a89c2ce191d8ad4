/-
  Totality, on: numbers in bytes, what is digested, digests of transactions, keys. No machine is in sight.
-/
import Derived.Test.YtonfljoibcnlgaaDoorPb
namespace Go.Proofs.YtonfljoibcnlgaaDoor
open Bd Go

theorem put_ok (a : Int) {k : Nat} (hk : k = 8 ∨ k = 4 ∧ 0 ≤ a ∧ a < 4294967296) : ∃ r : List Int × Int, F143_num_Put 300 a (k : Int) = some r ∧ r.1.length = k ∧ r.2 = 0 := by
  have h8 : k ≤ 8 ∧ 4 ≤ k := by omega
  unfold F143_num_Put
  rw [if_neg (by simp; omega)]
  simp only [Option.bind_some]
  rw [if_neg (by simp; omega)]
  have h2 : (if decide ((k : Int) < 8) = true then (if 0 ≤ (IntKind.i64.wrap ((8 : Int) * k)) then some (decide ((shr .u64 a (IntKind.i64.wrap ((8 : Int) * k))) > (0 : Int))) else none) else some false) = some false := by
    rcases hk with rfl | ⟨rfl, h0, h1⟩
    · rfl
    · rw [if_pos (by decide), if_pos (by decide +kernel)]
      have : shr .u64 a (IntKind.i64.wrap (8 * ((4 : Nat) : Int))) = 0 := by
        unfold shr
        have e : (2 : Int) ^ (min (IntKind.i64.wrap (8 * ((4 : Nat) : Int))).toNat (IntKind.bits .u64)) = 4294967296 := by decide +kernel
        rw [e, Int.fdiv_eq_ediv_of_nonneg _ (by omega)]; omega
      rw [this]; rfl
  rw [h2]
  simp only [Option.bind_some]
  rw [if_neg (by simp), if_pos (by omega)]
  refine bP (S := fun o => ∃ r : List Int × Int, o = some r ∧ r.1.length = k ∧ r.2 = 0) (Q := fun r : List Int => r.length = k) ?_ fun r hr => ⟨_, rfl, hr, rfl⟩
  refine loop_ok (fun z : Int × List Int => 0 ≤ z.1 ∧ z.1 ≤ (k : Int) ∧ z.2.length = k) (fun z => ((k : Int) - z.1).toNat) _ ?_ 300 _ ⟨by simp, by simp, by simp⟩ (by simp; omega)
  rintro ⟨i, z⟩ ⟨h0, h1, h3⟩
  simp only at h0 h1 h3 ⊢
  unfold F143_num_Put_s0
  by_cases hi : i < k
  · rw [if_pos (by simpa using hi), wi64 (x := 8 * i) (by omega) (by omega), if_pos (by omega), wi64 (x := (k : Int) - 1) (by omega) (by omega), wi64 (x := (k : Int) - 1 - i) (by omega) (by omega)]
    refine bP' (rd_ex (by omega) (by omega)) fun x => ?_
    simp only [StepOk]
    rw [wi64 (by omega) (by omega)]
    exact ⟨⟨by omega, by omega, by simpa using h3⟩, by omega⟩
  · rw [if_neg (by simpa using hi)]
    exact h3

theorem bytes_ok (kind : Int) {p : List Int} (hp : p.length ≤ 8000) : ∃ r, F138_tag_Bytes 300 kind [p] = some r ∧ r.length = p.length + 5 := by
  unfold F138_tag_Bytes
  refine bP (S := Len (p.length + 5)) (Q := fun r : List Int => r.length = p.length + 5) ?_ fun r hr => ⟨_, rfl, hr⟩
  refine loop_ok (fun z => (z.1 = 0 ∧ z.2.length = 1) ∨ (z.1 = 1 ∧ z.2.length = p.length + 5)) (fun z => (1 - z.1).toNat) _ ?_ 300 _ (.inl ⟨rfl, rfl⟩) (by simp)
  rintro ⟨i, z⟩ h
  simp only at h ⊢
  unfold F138_tag_Bytes_s0
  rcases h with ⟨rfl, hz⟩ | ⟨rfl, hz⟩
  · rw [if_pos (by simp)]
    refine bP (Q := fun x => x = p) ⟨p, rfl, rfl⟩ fun x hx => ?_
    subst hx
    have e : IntKind.u64.wrap (IntKind.u32.wrap (x.length : Int)) = (x.length : Int) := by rw [wu32 (by omega) (by omega), wu64 (by omega) (by omega)]
    rw [e]
    refine bP (put_ok (x.length : Int) (k := 4) (.inr ⟨rfl, by omega, by omega⟩)) fun y hy => ?_
    rw [if_pos (by simp; omega), if_pos (by simp; omega)]
    simp only [StepOk]
    rw [wi64 (by omega) (by omega)]
    exact ⟨.inr ⟨rfl, by simp; omega⟩, by decide⟩
  · rw [if_neg (by simp)]
    exact hz

theorem tagOf_ok (kind : Int) {p : List Int} (hp : p.length ≤ 8000) : ∃ r, F115_tag_Of 300 kind [p] = some r ∧ r.length = 32 := by
  unfold F115_tag_Of
  refine bP (S := Len 32) (bytes_ok kind hp) fun y hy => ?_
  exact bP (S := Len 32) (of_ok (by omega)) fun r hr => ⟨r, rfl, hr⟩

/-- transactions as they are handed in: digests of 32 bytes -/
structure TxOk (x : GTx) : Prop where
  pub : x.Pub.length = 32
  to : x.To.length = 32
  sign : x.Sign.length = 32
  nonce : 0 ≤ x.Nonce ∧ x.Nonce < 18446744073709551616
  fee : 0 ≤ x.Fee ∧ x.Fee < 18446744073709551616

theorem body_ok {x : GTx} (h1 : x.Pub.length = 32) (h2 : x.To.length = 32) : ∃ r, F116_tx_Body 300 x = some r ∧ r.length = 88 := by
  unfold F116_tx_Body
  refine bP (S := Len 88) (Q := fun r : List Int => r.length = 64) ?_ fun b hb => ?_
  · unfold F139_api_Digest_70f
    refine bP (S := Len 64) (Q := fun r : List Int => r.length = 64) ?_ fun r hr => ⟨_, rfl, hr⟩
    refine loop_ok (fun z => 0 ≤ z.1 ∧ z.1 ≤ 2 ∧ (z.2.length : Int) = 32 * z.1) (fun z => (2 - z.1).toNat) _ ?_ 300 _ ⟨by simp, by simp, by simp⟩ (by simp)
    rintro ⟨i, z⟩ ⟨h0, h3, h4⟩
    simp only at h0 h3 h4 ⊢
    unfold F139_api_Digest_70f_s0
    by_cases hi : i < 2
    · rw [if_pos (by simpa using hi)]
      have : i = 0 ∨ i = 1 := by omega
      refine bP (Q := fun x => x.length = 32) (by
        rcases this with rfl | rfl
        · exact ⟨_, rfl, h1⟩
        · exact ⟨_, rfl, h2⟩) fun y hy => ?_
      simp only [F140_tx_Body_1, Option.bind_some]
      rw [if_pos (by simp; omega)]
      simp only [StepOk]
      rw [wi64 (by omega) (by omega)]
      exact ⟨⟨by omega, by omega, by simp; omega⟩, by omega⟩
    · rw [if_neg (by simpa using hi)]
      show z.length = 64
      omega
  · unfold F141_tx_put_129
    refine bP (S := Len 88) (Q := fun r : List Int => r.length = 88) ?_ fun r hr => ⟨_, rfl, hr⟩
    refine bP (S := Len 88) (Q := fun r : List Int => r.length = 88) ?_ fun r hr => ⟨_, rfl, hr⟩
    refine loop_ok (fun z => 0 ≤ z.1 ∧ z.1 ≤ 3 ∧ (z.2.length : Int) = 64 + 8 * z.1) (fun z => (3 - z.1).toNat) _ ?_ 300 _ ⟨by simp, by simp, by simp; omega⟩ (by simp)
    rintro ⟨i, z⟩ ⟨h0, h3, h4⟩
    simp only at h0 h3 h4 ⊢
    unfold F141_tx_put_129_s0
    by_cases hi : i < 3
    · rw [if_pos (by simpa using hi)]
      refine bP' (rd_ex h0 (by simpa using hi)) fun y => ?_
      unfold F142_tx_Body_2
      refine bP (Q := fun r : List Int => r.length = 8) (bP (S := Len 8) (put_ok y (k := 8) (.inl rfl)) fun r hr => ⟨_, rfl, hr.1⟩) fun y hy => ?_
      rw [if_pos (by simp; omega)]
      simp only [StepOk]
      rw [wi64 (by omega) (by omega)]
      exact ⟨⟨by omega, by omega, by simp; omega⟩, by omega⟩
    · rw [if_neg (by simpa using hi)]
      show z.length = 88
      omega

theorem sign_ok {x : GTx} (h1 : x.Pub.length = 32) (h2 : x.To.length = 32) : ∃ r, F85_tx_sign 300 x = some r ∧ r.length = 32 := by
  unfold F85_tx_sign
  refine bP (S := Len 32) (body_ok h1 h2) fun b hb => ?_
  exact bP (S := Len 32) (tagOf_ok 4 (by omega)) fun r hr => ⟨r, rfl, hr⟩
theorem key_ok {k : List Int} (h : k.length = 32) : ∃ r, F84_acct_Key 300 k = some r ∧ r.length = 32 := by
  unfold F84_acct_Key
  exact bP (S := Len 32) (tagOf_ok 3 (by omega)) fun r hr => ⟨r, rfl, hr⟩

/-- the right sign; a sender's key -/
def sg (x : GTx) : List Int := (F85_tx_sign 300 x).getD []
def ky (k : List Int) : List Int := (F84_acct_Key 300 k).getD []
theorem sg_val {x : GTx} (h1 : x.Pub.length = 32) (h2 : x.To.length = 32) : F85_tx_sign 300 x = some (sg x) ∧ (sg x).length = 32 := by
  obtain ⟨r, e, hr⟩ := sign_ok h1 h2
  unfold sg; rw [e]; exact ⟨rfl, hr⟩
theorem ky_val {k : List Int} (h : k.length = 32) : F84_acct_Key 300 k = some (ky k) ∧ (ky k).length = 32 := by
  obtain ⟨r, e, hr⟩ := key_ok h
  unfold ky; rw [e]; exact ⟨rfl, hr⟩
/-- the sign does not hang on the sign that stands there -/
theorem sg_with (x : GTx) (s : List Int) : sg { x with Sign := s } = sg x := rfl
end Go.Proofs.YtonfljoibcnlgaaDoor
