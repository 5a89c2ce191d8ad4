/-
  The reference's signs and keys are the program's. No machine is in sight.
-/
import Derived.Test.YtonfljoibcnlgaaDoorRb
namespace Go.Proofs.YtonfljoibcnlgaaDoor
open Bd Go

theorem tag_own (kind : Int) {p : List Int} (hp : p.length ≤ 8000) : F138_tag_Bytes 300 kind [p] = some ([kind] ++ beT 4 p.length 4 ++ p) := by
  unfold F138_tag_Bytes
  have h := loop_to (f := fun z : Int × List Int => F138_tag_Bytes_s0 300 [p] z.1 z.2) (fun t => if t = 0 then ((0 : Int), [kind]) else ((1 : Int), [kind] ++ beT 4 p.length 4 ++ p)) ([kind] ++ beT 4 p.length 4 ++ p) 1 (fun t ht => ?_) ?_ (by decide)
  · simp only [if_true] at h
    rw [h]; rfl
  · have : t = 0 := by omega
    subst this
    simp only [if_true]
    unfold F138_tag_Bytes_s0
    rw [if_pos (by simp)]
    have : rd [p] 0 = some p := rfl
    rw [this]
    simp only [Option.bind_some]
    rw [wu32 (x := (p.length : Int)) (by omega) (by omega), wu64 (x := (p.length : Int)) (by omega) (by omega)]
    have := put_val (N := (p.length : Int)) (by omega) (k := 4) (.inr ⟨rfl, by omega, by omega⟩)
    rw [show (4 : Int) = ((4 : Nat) : Int) from rfl, this]
    simp only [Option.bind_some]
    rw [if_pos (by simp [beT_len]), if_pos (by simp [beT_len]; omega), wi64 (by omega) (by omega)]
    simp
  · simp only [Nat.one_ne_zero, if_false]
    unfold F138_tag_Bytes_s0
    rw [if_neg (by simp)]
theorem tag_ref (kind : Int) {p : List Int} (hp : p.length ≤ 8000) : F172_beadrollref03_Bytes 300 kind [p] = some ([kind] ++ beT 4 p.length 4 ++ p) := by
  unfold F172_beadrollref03_Bytes
  have h := loop_to (f := fun z : Int × List Int => F172_beadrollref03_Bytes_s0 300 [p] z.1 z.2) (fun t => if t = 0 then ((0 : Int), [kind]) else ((1 : Int), [kind] ++ beT 4 p.length 4 ++ p)) ([kind] ++ beT 4 p.length 4 ++ p) 1 (fun t ht => ?_) ?_ (by decide)
  · simp only [if_true] at h
    rw [h]; rfl
  · have : t = 0 := by omega
    subst this
    simp only [if_true]
    unfold F172_beadrollref03_Bytes_s0
    rw [if_pos (by simp)]
    have : rd [p] 0 = some p := rfl
    rw [this]
    simp only [Option.bind_some]
    rw [wu64 (x := (p.length : Int)) (by omega) (by omega)]
    have e : Int.tmod (p.length : Int) 4294967296 = (p.length : Int) := by rw [Int.tmod_eq_emod_of_nonneg (by omega)]; omega
    have := digits_val (N := (p.length : Int)) (by omega) (by omega) (k := 4) (by omega)
    rw [e, show (4 : Int) = ((4 : Nat) : Int) from rfl, this]
    simp only [Option.bind_some]
    rw [if_pos (by simp [beT_len]), if_pos (by simp [beT_len]; omega), wi64 (by omega) (by omega)]
    simp
  · simp only [Nat.one_ne_zero, if_false]
    unfold F172_beadrollref03_Bytes_s0
    rw [if_neg (by simp)]
/-- the reference's digest of one part -/
theorem one_eq {kind : Int} (hk : 0 ≤ kind ∧ kind < 256) {p : List Int} (hB : Byt p) (hp : p.length ≤ 8000) : F144_beadrollref03_One 300 kind p = F115_tag_Of 300 kind [p] := by
  unfold F144_beadrollref03_One F161_beadrollref03_Of F115_tag_Of
  rw [tag_own kind hp, tag_ref kind hp]
  simp only [Option.bind_some]
  rw [sum_eq (p := [kind] ++ beT 4 p.length 4 ++ p) (fun x hx => ?_) (by simp [beT_len]; omega)]
  · cases F137_sha_Of 300 [[kind] ++ beT 4 p.length 4 ++ p] <;> rfl
  · rcases List.mem_append.1 hx with hx | hx
    · rcases List.mem_append.1 hx with hx | hx
      · simp only [List.mem_singleton] at hx; subst hx; exact hk
      · exact beT_byt _ _ _ x hx
    · exact hB x hx
theorem refkey_eq {k : List Int} (h : Dig k) : F146_beadrollref10_Key 300 k = some (ky k) := by
  have h1 := (ky_val h.1).1
  unfold F84_acct_Key at h1
  unfold F146_beadrollref10_Key
  rw [one_eq (by decide) h.2 (by rw [h.1]; decide)]
  exact h1

def bodyB (x : GTx) : List Int := x.Pub ++ x.To ++ beT 8 x.Nonce 8 ++ beT 8 x.Amount 8 ++ beT 8 x.Fee 8
theorem put8 {N : Int} (h1 : N < 18446744073709551616) : F143_num_Put 300 N 8 = some (beT 8 N 8, 0) := put_val (k := 8) h1 (.inl rfl)
theorem dig8 {N : Int} (h0 : 0 ≤ N) (h1 : N < 18446744073709551616) : ∃ b, F162_beadrollref01_Digits 300 N 8 = some (beT 8 N 8, b) := ⟨_, digits_val (k := 8) h0 h1 (by omega)⟩
theorem body_own {x : GTx} (hx : TxD x) : F116_tx_Body 300 x = some (bodyB x) := by
  have l1 := hx.pub.1
  have l2 := hx.to.1
  unfold F116_tx_Body
  have h1 : F139_api_Digest_70f 300 [x.Pub, x.To] = some (x.Pub ++ x.To) := by
    unfold F139_api_Digest_70f
    have h := loop_to (f := fun z : Int × List Int => F139_api_Digest_70f_s0 300 [x.Pub, x.To] z.1 z.2) (fun t => ((t : Int), match t with | 0 => [] | 1 => x.Pub | _ => x.Pub ++ x.To)) (x.Pub ++ x.To) 2 (fun t ht => ?_) ?_ (by decide)
    · simp only [Int.natCast_zero] at h
      rw [h]; rfl
    · have : t = 0 ∨ t = 1 := by omega
      rcases this with rfl | rfl
      · simp only
        unfold F139_api_Digest_70f_s0
        have : rd [x.Pub, x.To] ((0 : Nat) : Int) = some x.Pub := rfl
        rw [if_pos (by simp), this]
        simp only [F140_tx_Body_1, Option.bind_some]
        rw [if_pos (by simp; omega), wi64 (by omega) (by omega)]
        simp
      · simp only
        unfold F139_api_Digest_70f_s0
        have : rd [x.Pub, x.To] ((1 : Nat) : Int) = some x.To := rfl
        rw [if_pos (by simp), this]
        simp only [F140_tx_Body_1, Option.bind_some]
        rw [if_pos (by simp; omega), wi64 (by omega) (by omega)]
        simp
    · simp only
      unfold F139_api_Digest_70f_s0
      rw [if_neg (by simp)]
  have h2 : F141_tx_put_129 300 [x.Nonce, x.Amount, x.Fee] (x.Pub ++ x.To) = some (bodyB x) := by
    unfold F141_tx_put_129
    have h := loop_to (f := fun z : Int × List Int => F141_tx_put_129_s0 300 [x.Nonce, x.Amount, x.Fee] z.1 z.2) (fun t => ((t : Int), match t with | 0 => x.Pub ++ x.To | 1 => x.Pub ++ x.To ++ beT 8 x.Nonce 8 | 2 => x.Pub ++ x.To ++ beT 8 x.Nonce 8 ++ beT 8 x.Amount 8 | _ => bodyB x)) (bodyB x) 3 (fun t ht => ?_) ?_ (by decide)
    · simp only [Int.natCast_zero] at h
      rw [h]; rfl
    · have : t = 0 ∨ t = 1 ∨ t = 2 := by omega
      rcases this with rfl | rfl | rfl
      · simp only
        unfold F141_tx_put_129_s0
        have : rd [x.Nonce, x.Amount, x.Fee] ((0 : Nat) : Int) = some x.Nonce := rfl
        rw [if_pos (by simp), this]
        simp only [F142_tx_Body_2, Option.bind_some]
        rw [put8 hx.ok.nonce.2]
        simp only [Option.bind_some]
        rw [if_pos (by simp [beT_len]; omega), wi64 (by omega) (by omega)]
        rfl
      · simp only
        unfold F141_tx_put_129_s0
        have : rd [x.Nonce, x.Amount, x.Fee] ((1 : Nat) : Int) = some x.Amount := rfl
        rw [if_pos (by simp), this]
        simp only [F142_tx_Body_2, Option.bind_some]
        rw [put8 hx.amount.2]
        simp only [Option.bind_some]
        rw [if_pos (by simp [beT_len]; omega), wi64 (by omega) (by omega)]
        rfl
      · simp only
        unfold F141_tx_put_129_s0
        have : rd [x.Nonce, x.Amount, x.Fee] ((2 : Nat) : Int) = some x.Fee := rfl
        rw [if_pos (by simp), this]
        simp only [F142_tx_Body_2, Option.bind_some]
        rw [put8 hx.ok.fee.2]
        simp only [Option.bind_some]
        rw [if_pos (by simp [beT_len]; omega), wi64 (by omega) (by omega)]
        rfl
    · simp only
      unfold F141_tx_put_129_s0
      rw [if_neg (by simp)]
  rw [h1]
  simp only [Option.bind_some]
  rw [h2]; rfl
theorem body_ref {x : GTx} (hx : TxD x) : F145_beadrollref11_Body 300 x = some (bodyB x) := by
  have l1 := hx.pub.1
  have l2 := hx.to.1
  unfold F145_beadrollref11_Body
  obtain ⟨b1, e1⟩ := dig8 hx.ok.nonce.1 hx.ok.nonce.2
  obtain ⟨b2, e2⟩ := dig8 hx.amount.1 hx.amount.2
  obtain ⟨b3, e3⟩ := dig8 hx.ok.fee.1 hx.ok.fee.2
  rw [if_pos (by omega), if_pos (by simp; omega), e1, e2, e3]
  simp only [Option.bind_some]
  rw [if_pos (by simp [beT_len]; omega), if_pos (by simp [beT_len]; omega), if_pos (by simp [beT_len]; omega)]
  rfl
theorem bodyB_byt {x : GTx} (hx : TxD x) : Byt (bodyB x) ∧ (bodyB x).length = 88 := by
  have l1 := hx.pub.1
  have l2 := hx.to.1
  refine ⟨fun y hy => ?_, by unfold bodyB; simp [beT_len]; omega⟩
  unfold bodyB at hy
  simp only [List.mem_append] at hy
  rcases hy with (((hy | hy) | hy) | hy) | hy
  · exact hx.pub.2 y hy
  · exact hx.to.2 y hy
  · exact beT_byt _ _ _ y hy
  · exact beT_byt _ _ _ y hy
  · exact beT_byt _ _ _ y hy
theorem refcheck_val {x : GTx} (hx : TxD x) : F117_beadrollref11_Check 300 x = some (if x.Sign = sg x then 0 else 110) := by
  have h := (sg_val hx.ok.pub hx.ok.to).1
  obtain ⟨hB, hl⟩ := bodyB_byt hx
  unfold F85_tx_sign at h
  rw [body_own hx] at h
  simp only [Option.bind_some] at h
  have h' : F115_tag_Of 300 4 [bodyB x] = some (sg x) := by
    cases hc : F115_tag_Of 300 4 [bodyB x] with
    | none => rw [hc] at h; cases h
    | some y => rw [hc] at h; simpa using h
  unfold F117_beadrollref11_Check
  rw [body_ref hx]
  simp only [Option.bind_some]
  rw [one_eq (by decide) hB (by omega), h']
  simp only [Option.bind_some]
  by_cases e : x.Sign = sg x <;> simp [e]
theorem reffrom_val {x : GTx} (hx : TxD x) : F118_beadrollref11_From 300 x = some (ky x.Pub) := by
  unfold F118_beadrollref11_From
  rw [refkey_eq hx.pub]; rfl
end Go.Proofs.YtonfljoibcnlgaaDoor
