/-
  The plain law of a sender's line, on: two lists that are the same, a nonce that is found, the ready run, what is past. No machine is in sight.
-/
import Derived.Test.YtonfljoibcnlgaaDoorPd
namespace Go.Proofs.YtonfljoibcnlgaaDoor
open Bd Go

/-- where a nonce stands -/
theorem ahead_ok {ts : List GTx} (hs : Inc ts) (hl : ts.length ≤ 256) (n : Int) : ∃ k : Nat, F75_api_Tx_ahead_844 300 ts n = some (k : Int) ∧ k ≤ ts.length ∧ (∀ i x, ts[i]? = some x → i < k → x.Nonce < n) ∧ (∀ i x, ts[i]? = some x → k ≤ i → n ≤ x.Nonce) := by
  unfold F75_api_Tx_ahead_844
  refine bP (S := fun o => ∃ k : Nat, o = some (k : Int) ∧ k ≤ ts.length ∧ (∀ i x, ts[i]? = some x → i < k → x.Nonce < n) ∧ (∀ i x, ts[i]? = some x → k ≤ i → n ≤ x.Nonce))
    (Q := fun b => ∃ k : Nat, b = (k : Int) ∧ k ≤ ts.length ∧ (∀ i x, ts[i]? = some x → i < k → x.Nonce < n) ∧ (∀ i x, ts[i]? = some x → k ≤ i → n ≤ x.Nonce)) ?_ fun b ⟨k, e, h⟩ => ⟨k, by rw [e], h⟩
  refine loop_ok (fun z : Int × Int => ∃ a b : Nat, z = ((a : Int), (b : Int)) ∧ a ≤ b ∧ b ≤ ts.length ∧ (∀ i x, ts[i]? = some x → i < a → x.Nonce < n) ∧ (∀ i x, ts[i]? = some x → b ≤ i → n ≤ x.Nonce)) (fun z => (z.2 - z.1).toNat) _ ?_ 300 _
    ⟨0, ts.length, rfl, by omega, by omega, fun i x _ h => by omega, fun i x h h2 => by have := (List.getElem?_eq_some_iff.1 h).1; omega⟩ (by simp only; omega)
  rintro z ⟨a, b, rfl, h1, h2, h3, h4⟩
  simp only
  unfold F75_api_Tx_ahead_844_s0
  by_cases hab : a < b
  · rw [if_pos (by simpa using hab), wi64 (x := (a : Int) + b) (by omega) (by omega), Int.tdiv_eq_ediv_of_nonneg (by omega), wi64 (x := ((a : Int) + b) / 2) (by omega) (by omega), show ((a : Int) + b) / 2 = (((a + b) / 2 : Nat) : Int) from by omega, rd_nat]
    obtain ⟨x, hx⟩ : ∃ x, ts[(a + b) / 2]? = some x := ⟨_, List.getElem?_eq_getElem (by omega)⟩
    rw [hx]
    simp only [Option.bind_some, F111_queue_nonces_1]
    by_cases hn : x.Nonce < n
    · rw [if_pos (by simpa using hn)]
      simp only [StepOk]
      rw [wi64 (by omega) (by omega)]
      refine ⟨⟨(a + b) / 2 + 1, b, by simp, by omega, h2, fun i y hy hi => ?_, h4⟩, by omega⟩
      by_cases e : i = (a + b) / 2
      · subst e; rw [hx] at hy; cases hy; exact hn
      · have := inc_at hs hy hx (by omega); omega
    · rw [if_neg (by simpa using hn)]
      simp only [StepOk]
      refine ⟨⟨a, (a + b) / 2, rfl, by omega, by omega, h3, fun i y hy hi => ?_⟩, by omega⟩
      by_cases e : i = (a + b) / 2
      · subst e; rw [hx] at hy; cases hy; omega
      · have := inc_at hs hx hy (by omega); omega
  · rw [if_neg (by simpa using hab)]
    have : a = b := by omega
    subst this
    exact ⟨a, rfl, h2, h3, h4⟩
theorem same_val {a b : List GTx} (hl : a.length ≤ 290) : F20_beadrollref19_SameTxs 300 a b = some (decide (a = b)) := by
  unfold F20_beadrollref19_SameTxs
  by_cases hab : a.length = b.length
  · rw [if_neg (by simp [hab])]
    obtain ⟨r, hr, hP⟩ : ∃ r, loopF (fun z => F20_beadrollref19_SameTxs_s0 a b z) 300 (0 : Int) = some r ∧ ((r = .inl () → a = b) ∧ (r = .inr () → a ≠ b)) := by
      refine loop_ok (fun z => ∃ k : Nat, z = (k : Int) ∧ k ≤ a.length ∧ a.take k = b.take k) (fun z => (a.length - z).toNat) (fun r : Unit ⊕ Unit => (r = .inl () → a = b) ∧ (r = .inr () → a ≠ b)) ?_ 300 _ ⟨0, rfl, by omega, by simp⟩ (by simp; omega)
      rintro z ⟨k, rfl, hk, ht⟩
      unfold F20_beadrollref19_SameTxs_s0
      by_cases hi : k < a.length
      · rw [if_pos (by simpa using hi), rd_nat, rd_nat]
        have hx : a[k]? = some a[k] := List.getElem?_eq_getElem hi
        have hy : b[k]? = some (b[k]'(by omega)) := List.getElem?_eq_getElem (by omega)
        rw [hx, hy]
        simp only [Option.bind_some]
        by_cases he : a[k] = b[k]'(by omega)
        · rw [if_neg (by simp [he])]
          simp only [StepOk]
          rw [wi64 (by omega) (by omega)]
          exact ⟨⟨k + 1, by omega, by omega, by rw [take_succ hx, take_succ hy, ht, he]⟩, by omega⟩
        · rw [if_pos (by simp [he])]
          simp only [StepOk]
          refine ⟨by simp, fun _ e => he ?_⟩
          subst e; rfl
      · rw [if_neg (by simpa using hi)]
        have hk' : k = a.length := by omega
        subst hk'
        rw [List.take_length, hab, List.take_length] at ht
        exact ⟨fun _ => ht, by simp⟩
    rw [hr]
    simp only [Option.bind_some]
    rcases r with ⟨⟩ | ⟨⟩
    · have := hP.1 rfl; simp [this]
    · have := hP.2 rfl; simp [this]
  · rw [if_pos (by simp; omega)]
    have : a ≠ b := fun e => hab (by rw [e])
    simp [this]

/-- among nonces that go up there is one alone -/
theorem inc_uniq {l : List GTx} (h : Inc l) {x y : GTx} (hx : x ∈ l) (hy : y ∈ l) (e : x.Nonce = y.Nonce) : x = y := by
  obtain ⟨i, hi⟩ := List.getElem?_of_mem hx
  obtain ⟨j, hj⟩ := List.getElem?_of_mem hy
  rcases Nat.lt_trichotomy i j with hij | hij | hij
  · have := inc_at h hi hj hij; omega
  · subst hij; rw [hi] at hj; cases hj; rfl
  · have := inc_at h hj hi hij; omega

theorem clone_val {l : List GTx} (h : l.length ≤ 1073741824) : F76_Clone 300 l = some l := by unfold F76_Clone; rw [if_pos h]

/-- what is past, and what is not -/
theorem past_bad {l : GLine} (hl : LineOk l) (hm : ¬ May l) (n : Int) : ∃ q : GLine × List GTx × Int, F17_queue_Past 300 l n = some q ∧ q.2.2 = 8 := by
  unfold F17_queue_Past
  rw [(check_val hl).2 hm]
  exact ⟨_, rfl, rfl⟩
theorem past_ok {l : GLine} (hl : LineOk l) (hm : May l) (n : Int) : ∃ k : Nat, k ≤ l.Txs.length ∧ F17_queue_Past 300 l n = some (⟨l.From, l.Txs.drop k⟩, l.Txs.take k, 0) ∧ (∀ i x, l.Txs[i]? = some x → i < k → x.Nonce < n) ∧ (∀ i x, l.Txs[i]? = some x → k ≤ i → n ≤ x.Nonce) := by
  obtain ⟨k, h1, h2, h3, h4⟩ := ahead_ok hm.2.2 hm.1 n
  refine ⟨k, h2, ?_, h3, h4⟩
  have h256 := hm.1
  unfold F17_queue_Past F74_queue_nonces
  rw [(check_val hl).1 hm]
  simp only [Option.bind_some]
  rw [if_neg (by simp), h1]
  simp only [Option.bind_some, Int.toNat_natCast]
  rw [if_pos (by omega), clone_val (by simp; omega)]
  simp only [Option.bind_some]
  rw [if_pos (by omega), clone_val (by simp; omega)]
  rfl
theorem may_drop {l : GLine} (hm : May l) (k : Nat) : May ⟨l.From, l.Txs.drop k⟩ :=
  ⟨by have := hm.1; simp; omega, fun x hx => hm.2.1 x (List.mem_of_mem_drop hx), inc_drop hm.2.2 k⟩

/-- the ready run -/
theorem ready_bad {l : GLine} (hl : LineOk l) (hm : ¬ May l) (n : Int) : F16_queue_Ready 300 l n = some ([], 8) := by
  unfold F16_queue_Ready
  rw [(check_val hl).2 hm]
  rfl
theorem ready_ok {l : GLine} (hl : LineOk l) (hm : May l) {n : Int} (hn : 0 ≤ n ∧ n < 18446744073709551616) : ∃ (k : Nat) (r : List GTx), F16_queue_Ready 300 l n = some (r, 0) ∧ k ≤ l.Txs.length ∧ (∀ i x, l.Txs[i]? = some x → i < k → x.Nonce < n) ∧ (∀ i x, l.Txs[i]? = some x → k ≤ i → n ≤ x.Nonce) ∧
    r.length ≤ l.Txs.length - k ∧ (∀ i, i < r.length → r[i]? = l.Txs[k + i]? ∧ ∃ x, r[i]? = some x ∧ x.Nonce = n + i) ∧ (∀ x, l.Txs[k + r.length]? = some x → x.Nonce ≠ n + r.length) := by
  obtain ⟨k, h1, h2, h3, h4⟩ := ahead_ok hm.2.2 hm.1 n
  have h256 := hm.1
  obtain ⟨b, hb, hP⟩ : ∃ b, loopF (fun (z : Int × Int × List GTx) => F16_queue_Ready_s0 (l, n) (k : Int) z.1 z.2.1 z.2.2) 300 ((0 : Int), n, ([] : List GTx)) = some b ∧
      ∃ r : List GTx, (Sum.elim (fun j : Int × List GTx => j.2) (fun j : Int × List GTx => j.2) b) = r ∧ r.length ≤ l.Txs.length - k ∧ (∀ i, i < r.length → r[i]? = l.Txs[k + i]? ∧ ∃ x, r[i]? = some x ∧ x.Nonce = n + i) ∧ (∀ x, l.Txs[k + r.length]? = some x → x.Nonce ≠ n + r.length) := by
    refine loop_ok (fun z : Int × Int × List GTx => z.1 = (z.2.2.length : Int) ∧ z.2.2.length ≤ l.Txs.length - k ∧ z.2.1 = IntKind.u64.wrap (n + z.2.2.length) ∧ (∀ i, i < z.2.2.length → z.2.2[i]? = l.Txs[k + i]? ∧ ∃ x, z.2.2[i]? = some x ∧ x.Nonce = n + i)) (fun z => (l.Txs.length - z.1).toNat) _ ?_ 300 _
      ⟨rfl, by simp, by simp; rw [wu64 hn.1 hn.2], fun i hi => by simp at hi⟩ (by simp; omega)
    rintro ⟨i, nc, out⟩ ⟨e1, e2, e3, e4⟩
    simp only at e1 e2 e3 e4 ⊢
    subst e1
    unfold F16_queue_Ready_s0
    simp only [Int.toNat_natCast, List.length_drop]
    by_cases hi : out.length < l.Txs.length - k
    · rw [if_pos (by simp; omega), rd_nat, List.getElem?_drop]
      have hlt : k + out.length < l.Txs.length := by omega
      have hx : l.Txs[k + out.length]? = some l.Txs[k + out.length] := List.getElem?_eq_getElem hlt
      rw [hx]
      simp only [Option.bind_some]
      generalize l.Txs[k + out.length] = x at hx
      have hxr := (hl.txs x (List.mem_of_getElem? hx)).nonce
      have hge := h4 _ x hx (by omega)
      -- nonces of those ahead: no turn over
      have hbound : out.length = 0 ∨ n + out.length ≤ x.Nonce := by
        by_cases h0 : out.length = 0
        · exact .inl h0
        · obtain ⟨q1, y, q2, q3⟩ := e4 (out.length - 1) (by omega)
          rw [q2] at q1
          have := inc_at hm.2.2 q1.symm hx (by omega)
          exact .inr (by omega)
      have hw : IntKind.u64.wrap (n + out.length) = n + out.length := wu64 (by omega) (by omega)
      rw [hw] at e3
      subst e3
      by_cases he : x.Nonce = n + out.length
      · rw [if_neg (by simp [he]), if_pos (by simp; omega)]
        simp only [Option.bind_some, Bool.not_true, Bool.false_eq_true, if_false, StepOk]
        rw [wi64 (by omega) (by omega)]
        refine ⟨⟨by simp, by simp; omega, by simp [Int.add_assoc], fun j hj => ?_⟩, by omega⟩
        simp only [List.length_append, List.length_cons, List.length_nil] at hj
        by_cases hjo : j < out.length
        · rw [List.getElem?_append_left hjo]; exact e4 j hjo
        · have : j = out.length := by omega
          subst this
          rw [List.getElem?_append_right (Nat.le_refl _), Nat.sub_self]
          exact ⟨hx.symm, x, rfl, he⟩
      · rw [if_pos (by simp [he])]
        simp only [Option.bind_some, if_true, StepOk, Sum.elim_inr]
        exact ⟨out, rfl, e2, e4, fun y hy => by rw [hx] at hy; cases hy; exact he⟩
    · rw [if_neg (by simp; omega)]
      simp only [StepOk, Sum.elim_inl]
      exact ⟨out, rfl, e2, e4, fun y hy => by have := (List.getElem?_eq_some_iff.1 hy).1; omega⟩
  obtain ⟨r, hr, p1, p2, p3⟩ := hP
  refine ⟨k, r, ?_, h2, h3, h4, p1, p2, p3⟩
  unfold F16_queue_Ready F73_queue_run F74_queue_nonces
  rw [(check_val hl).1 hm]
  simp only [Option.bind_some]
  rw [if_neg (by simp), h1]
  simp only [Option.bind_some]
  rw [if_pos (by omega), hb]
  simp only [Option.bind_some]
  rcases b with b | b <;> (simp only [Sum.elim_inl, Sum.elim_inr] at hr ⊢; rw [hr])
end Go.Proofs.YtonfljoibcnlgaaDoor
