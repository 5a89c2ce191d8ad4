/-
  The plain law of a sender's line, on: two lists that are the same, a nonce that is found, the ready run, what is past. No machine is in sight.
  The plain law of a sender's line: the ready run, what is past. No machine is in sight.
  What 'Put' makes of a line, as a function on plain data. No machine is in sight.
  A shard as plain data: whether it may be, how many transactions there are, its copy. No machine is in sight.
  A shard as plain data: a sender's line, a line that is set. No machine is in sight.
  What 'Submit' makes of a shard, as a function on plain data. No machine is in sight.
-/
import Derived.Test.YtonfljoibcnlgaaDoorM1
namespace Go.Proofs.YtonfljoibcnlgaaDoor
open Bd Go

/-- where a nonce stands -/
theorem ahead_ok {ts : List GTx} (hs : Inc ts) (hl : ts.length ≤ 256) (n : Int) : ∃ k : Nat, F75_api_Tx_ahead_844 1000 ts n = some (k : Int) ∧ k ≤ ts.length ∧ (∀ i x, ts[i]? = some x → i < k → x.Nonce < n) ∧ (∀ i x, ts[i]? = some x → k ≤ i → n ≤ x.Nonce) := by
  unfold F75_api_Tx_ahead_844
  refine bP (S := fun o => ∃ k : Nat, o = some (k : Int) ∧ k ≤ ts.length ∧ (∀ i x, ts[i]? = some x → i < k → x.Nonce < n) ∧ (∀ i x, ts[i]? = some x → k ≤ i → n ≤ x.Nonce))
    (Q := fun b => ∃ k : Nat, b = (k : Int) ∧ k ≤ ts.length ∧ (∀ i x, ts[i]? = some x → i < k → x.Nonce < n) ∧ (∀ i x, ts[i]? = some x → k ≤ i → n ≤ x.Nonce)) ?_ fun b ⟨k, e, h⟩ => ⟨k, by rw [e], h⟩
  refine loop_ok (fun z : Int × Int => ∃ a b : Nat, z = ((a : Int), (b : Int)) ∧ a ≤ b ∧ b ≤ ts.length ∧ (∀ i x, ts[i]? = some x → i < a → x.Nonce < n) ∧ (∀ i x, ts[i]? = some x → b ≤ i → n ≤ x.Nonce)) (fun z => (z.2 - z.1).toNat) _ ?_ 1000 _
    ⟨0, ts.length, rfl, by omega, by omega, fun i x _ h => by omega, fun i x h h2 => by have := (List.getElem?_eq_some_iff.1 h).1; omega⟩ (by simp only; omega)
  rintro z ⟨a, b, rfl, h1, h2, h3, h4⟩
  simp only
  unfold F75_api_Tx_ahead_844_s0
  by_cases hab : a < b
  · rw [if_pos (by simpa using hab), wi64 (x := (a : Int) + b) (by omega) (by omega), Int.tdiv_eq_ediv_of_nonneg (by omega), wi64 (x := ((a : Int) + b) / 2) (by omega) (by omega), show ((a : Int) + b) / 2 = (((a + b) / 2 : Nat) : Int) from by omega, rd_nat]
    obtain ⟨x, hx⟩ : ∃ x, ts[(a + b) / 2]? = some x := ⟨_, List.getElem?_eq_getElem (by omega)⟩
    rw [hx]
    simp only [Option.bind_some, F111_queue_nonces_1]
    by_cases hn : x.Nonce < n
    · rw [if_pos (by simpa using hn)]
      simp only [StepOk]
      rw [wi64 (by omega) (by omega)]
      refine ⟨⟨(a + b) / 2 + 1, b, by simp, by omega, h2, fun i y hy hi => ?_, h4⟩, by omega⟩
      by_cases e : i = (a + b) / 2
      · subst e; rw [hx] at hy; cases hy; exact hn
      · have := inc_at hs hy hx (by omega); omega
    · rw [if_neg (by simpa using hn)]
      simp only [StepOk]
      refine ⟨⟨a, (a + b) / 2, rfl, by omega, by omega, h3, fun i y hy hi => ?_⟩, by omega⟩
      by_cases e : i = (a + b) / 2
      · subst e; rw [hx] at hy; cases hy; omega
      · have := inc_at hs hx hy (by omega); omega
  · rw [if_neg (by simpa using hab)]
    have : a = b := by omega
    subst this
    exact ⟨a, rfl, h2, h3, h4⟩
/-- among nonces that go up there is one alone -/
theorem inc_uniq {l : List GTx} (h : Inc l) {x y : GTx} (hx : x ∈ l) (hy : y ∈ l) (e : x.Nonce = y.Nonce) : x = y := by
  obtain ⟨i, hi⟩ := List.getElem?_of_mem hx
  obtain ⟨j, hj⟩ := List.getElem?_of_mem hy
  rcases Nat.lt_trichotomy i j with hij | hij | hij
  · have := inc_at h hi hj hij; omega
  · subst hij; rw [hi] at hj; cases hj; rfl
  · have := inc_at h hj hi hij; omega

theorem clone_val {l : List GTx} (h : l.length ≤ 1073741824) : F76_Clone 1000 l = some l := by unfold F76_Clone; rw [if_pos h]

end Go.Proofs.YtonfljoibcnlgaaDoor
namespace Go.Proofs.YtonfljoibcnlgaaDoor
open Bd Go

theorem past_ok {l : GLine} (hl : LineOk l) (hm : May l) (n : Int) : ∃ k : Nat, k ≤ l.Txs.length ∧ F17_queue_Past 1000 l n = some (⟨l.From, l.Txs.drop k⟩, l.Txs.take k, 0) ∧ (∀ i x, l.Txs[i]? = some x → i < k → x.Nonce < n) ∧ (∀ i x, l.Txs[i]? = some x → k ≤ i → n ≤ x.Nonce) := by
  obtain ⟨k, h1, h2, h3, h4⟩ := ahead_ok hm.2.2 hm.1 n
  refine ⟨k, h2, ?_, h3, h4⟩
  have h256 := hm.1
  unfold F17_queue_Past F74_queue_nonces
  rw [(check_val hl).1 hm]
  simp only [Option.bind_some]
  rw [if_neg (by simp), h1]
  simp only [Option.bind_some, Int.toNat_natCast]
  rw [if_pos (by omega), clone_val (by simp; omega)]
  simp only [Option.bind_some]
  rw [if_pos (by omega), clone_val (by simp; omega)]
  rfl
theorem may_drop {l : GLine} (hm : May l) (k : Nat) : May ⟨l.From, l.Txs.drop k⟩ :=
  ⟨by have := hm.1; simp; omega, fun x hx => hm.2.1 x (List.mem_of_mem_drop hx), inc_drop hm.2.2 k⟩

theorem ready_ok {l : GLine} (hl : LineOk l) (hm : May l) {n : Int} (hn : 0 ≤ n ∧ n < 18446744073709551616) : ∃ (k : Nat) (r : List GTx), F16_queue_Ready 1000 l n = some (r, 0) ∧ k ≤ l.Txs.length ∧ (∀ i x, l.Txs[i]? = some x → i < k → x.Nonce < n) ∧ (∀ i x, l.Txs[i]? = some x → k ≤ i → n ≤ x.Nonce) ∧
    r.length ≤ l.Txs.length - k ∧ (∀ i, i < r.length → r[i]? = l.Txs[k + i]? ∧ ∃ x, r[i]? = some x ∧ x.Nonce = n + i) ∧ (∀ x, l.Txs[k + r.length]? = some x → x.Nonce ≠ n + r.length) := by
  obtain ⟨k, h1, h2, h3, h4⟩ := ahead_ok hm.2.2 hm.1 n
  have h256 := hm.1
  obtain ⟨b, hb, hP⟩ : ∃ b, loopF (fun (z : Int × Int × List GTx) => F16_queue_Ready_s0 (l, n) (k : Int) z.1 z.2.1 z.2.2) 1000 ((0 : Int), n, ([] : List GTx)) = some b ∧
      ∃ r : List GTx, (Sum.elim (fun j : Int × List GTx => j.2) (fun j : Int × List GTx => j.2) b) = r ∧ r.length ≤ l.Txs.length - k ∧ (∀ i, i < r.length → r[i]? = l.Txs[k + i]? ∧ ∃ x, r[i]? = some x ∧ x.Nonce = n + i) ∧ (∀ x, l.Txs[k + r.length]? = some x → x.Nonce ≠ n + r.length) := by
    refine loop_ok (fun z : Int × Int × List GTx => z.1 = (z.2.2.length : Int) ∧ z.2.2.length ≤ l.Txs.length - k ∧ z.2.1 = IntKind.u64.wrap (n + z.2.2.length) ∧ (∀ i, i < z.2.2.length → z.2.2[i]? = l.Txs[k + i]? ∧ ∃ x, z.2.2[i]? = some x ∧ x.Nonce = n + i)) (fun z => (l.Txs.length - z.1).toNat) _ ?_ 1000 _
      ⟨rfl, by simp, by simp; rw [wu64 hn.1 hn.2], fun i hi => by simp at hi⟩ (by simp; omega)
    rintro ⟨i, nc, out⟩ ⟨e1, e2, e3, e4⟩
    simp only at e1 e2 e3 e4 ⊢
    subst e1
    unfold F16_queue_Ready_s0
    simp only [Int.toNat_natCast, List.length_drop]
    by_cases hi : out.length < l.Txs.length - k
    · rw [if_pos (by simp; omega), rd_nat, List.getElem?_drop]
      have hlt : k + out.length < l.Txs.length := by omega
      have hx : l.Txs[k + out.length]? = some l.Txs[k + out.length] := List.getElem?_eq_getElem hlt
      rw [hx]
      simp only [Option.bind_some]
      generalize l.Txs[k + out.length] = x at hx
      have hxr := (hl.txs x (List.mem_of_getElem? hx)).nonce
      have hge := h4 _ x hx (by omega)
      -- nonces of those ahead: no turn over
      have hbound : out.length = 0 ∨ n + out.length ≤ x.Nonce := by
        by_cases h0 : out.length = 0
        · exact .inl h0
        · obtain ⟨q1, y, q2, q3⟩ := e4 (out.length - 1) (by omega)
          rw [q2] at q1
          have := inc_at hm.2.2 q1.symm hx (by omega)
          exact .inr (by omega)
      have hw : IntKind.u64.wrap (n + out.length) = n + out.length := wu64 (by omega) (by omega)
      rw [hw] at e3
      subst e3
      by_cases he : x.Nonce = n + out.length
      · rw [if_neg (by simp [he]), if_pos (by simp; omega)]
        simp only [Option.bind_some, Bool.not_true, Bool.false_eq_true, if_false, StepOk]
        rw [wi64 (by omega) (by omega)]
        refine ⟨⟨by simp, by simp; omega, by simp [Int.add_assoc], fun j hj => ?_⟩, by omega⟩
        simp only [List.length_append, List.length_cons, List.length_nil] at hj
        by_cases hjo : j < out.length
        · rw [List.getElem?_append_left hjo]; exact e4 j hjo
        · have : j = out.length := by omega
          subst this
          rw [List.getElem?_append_right (Nat.le_refl _), Nat.sub_self]
          exact ⟨hx.symm, x, rfl, he⟩
      · rw [if_pos (by simp [he])]
        simp only [Option.bind_some, if_true, StepOk, Sum.elim_inr]
        exact ⟨out, rfl, e2, e4, fun y hy => by rw [hx] at hy; cases hy; exact he⟩
    · rw [if_neg (by simp; omega)]
      simp only [StepOk, Sum.elim_inl]
      exact ⟨out, rfl, e2, e4, fun y hy => by have := (List.getElem?_eq_some_iff.1 hy).1; omega⟩
  obtain ⟨r, hr, p1, p2, p3⟩ := hP
  refine ⟨k, r, ?_, h2, h3, h4, p1, p2, p3⟩
  unfold F16_queue_Ready F73_queue_run F74_queue_nonces
  rw [(check_val hl).1 hm]
  simp only [Option.bind_some]
  rw [if_neg (by simp), h1]
  simp only [Option.bind_some]
  rw [if_pos (by omega), hb]
  simp only [Option.bind_some]
  rcases b with b | b <;> (simp only [Sum.elim_inl, Sum.elim_inr] at hr ⊢; rw [hr])
end Go.Proofs.YtonfljoibcnlgaaDoor
namespace Go.Proofs.YtonfljoibcnlgaaDoor
open Bd Go

/-- the empty line -/
def zl : GLine := ⟨List.replicate 32 (0 : Int), []⟩

/-- what a line comes to that takes a transaction in -/
def Takes (l : GLine) (x : GTx) (P S old : List GTx) : Prop :=
  F34_queue_Put 1000 l x = some (⟨l.From, P ++ x :: S⟩, old, 0) ∧ l.Txs = P ++ old ++ S ∧ (old = [] ∨ ∃ y, old = [y] ∧ y.Nonce = x.Nonce ∧ y.Fee < x.Fee) ∧ (∀ z ∈ P, z.Nonce < x.Nonce) ∧ (∀ z ∈ S, x.Nonce < z.Nonce)

theorem tx_from {x : GTx} (hx : TxOk x) : F39_tx_From 1000 x = some (ky x.Pub) := by
  unfold F39_tx_From
  rw [(ky_val hx.pub).1]
  rfl

end Go.Proofs.YtonfljoibcnlgaaDoor
namespace Go.Proofs.YtonfljoibcnlgaaDoor
open Bd Go

/-! ### shards -/
structure ShOk (ls : List GLine) : Prop where
  line : ∀ l ∈ ls, LineOk l
  dig : ∀ l ∈ ls, Dig l.From

structure LineD (l : GLine) : Prop where
  dig : Dig l.From
  txs : ∀ x ∈ l.Txs, TxD x
theorem LineD.ok {l : GLine} (h : LineD l) : LineOk l := ⟨h.dig.1, fun x hx => (h.txs x hx).ok⟩
def ShD (ls : List GLine) : Prop := ∀ l ∈ ls, LineD l
theorem shok_of {ls : List GLine} (h : ShD ls) : ShOk ls := ⟨fun l hl => (h l hl).ok, fun l hl => (h l hl).dig⟩
def Srt (ls : List GLine) : Prop := ls.Pairwise fun a b => lt a.From b.From = true
def MayS (ls : List GLine) : Prop := (∀ l ∈ ls, l.Txs ≠ [] ∧ May l) ∧ Srt ls
def cnt (ls : List GLine) : Nat := (ls.map fun l => l.Txs.length).sum
def lineOf (ls : List GLine) (f : List Int) : GLine := (ls.find? fun l => decide (l.From = f)).getD ⟨f, []⟩

theorem srt_snoc {ls : List GLine} {k : Nat} {x : GLine} (hd : ∀ l ∈ ls, Dig l.From) (h : Srt (ls.take k)) (hx : ls[k]? = some x) (hl : k = 0 ∨ ∃ y, ls[k - 1]? = some y ∧ lt y.From x.From = true) : Srt (ls.take (k + 1)) := by
  rw [take_succ hx]
  refine List.pairwise_append.2 ⟨h, List.pairwise_singleton _ _, fun a ha b hb => ?_⟩
  simp only [List.mem_singleton] at hb; subst hb
  rcases hl with rfl | ⟨y, hy, hyx⟩
  · simp at ha
  · cases k with
    | zero => simp at ha
    | succ k =>
      simp only [Nat.add_sub_cancel] at hy
      have hal : a ∈ ls := List.mem_of_mem_take ha
      rw [take_succ hy] at h ha
      rcases List.mem_append.1 ha with ha | ha
      · exact lt_trans (hd a hal) (hd y (List.mem_of_getElem? hy)) (hd b (List.mem_of_getElem? hx)) ((List.pairwise_append.1 h).2.2 a ha y (by simp)) hyx
      · simp only [List.mem_singleton] at ha; subst ha; exact hyx
theorem srt_at {l : List GLine} (h : Srt l) {i j : Nat} {x y : GLine} (hi : l[i]? = some x) (hj : l[j]? = some y) (hij : i < j) : lt x.From y.From = true := by
  obtain ⟨hi', rfl⟩ := List.getElem?_eq_some_iff.1 hi
  obtain ⟨hj', rfl⟩ := List.getElem?_eq_some_iff.1 hj
  exact List.pairwise_iff_getElem.1 h i j hi' hj' hij

theorem shcheck_val {ls : List GLine} (hs : ShOk ls) (hlen : ls.length ≤ 290) : (MayS ls → F52_shard_Check 1000 ⟨ls⟩ = some 0) ∧ (¬ MayS ls → F52_shard_Check 1000 ⟨ls⟩ = some 8) := by
  unfold F52_shard_Check
  obtain ⟨b, hb, hP⟩ : ∃ b, loopF (fun z => F52_shard_Check_s0 1000 ⟨ls⟩ z) 1000 (0 : Int) = some b ∧ ((b = .inl () → MayS ls) ∧ (b = .inr () → ¬ MayS ls)) := by
    refine loop_ok (fun z => ∃ k : Nat, z = (k : Int) ∧ k ≤ ls.length ∧ (∀ l ∈ ls.take k, l.Txs ≠ [] ∧ May l) ∧ Srt (ls.take k)) (fun z => (ls.length - z).toNat) (fun b : Unit ⊕ Unit => (b = .inl () → MayS ls) ∧ (b = .inr () → ¬ MayS ls)) ?_ 1000 _ ⟨0, rfl, by omega, by simp, by simp [Srt]⟩ (by simp; omega)
    rintro z ⟨k, rfl, hk, hall, hsrt⟩
    unfold F52_shard_Check_s0
    simp only
    by_cases hi : k < ls.length
    · rw [if_pos (by simpa using hi)]
      obtain ⟨x, hx⟩ : ∃ x, ls[k]? = some x := ⟨_, List.getElem?_eq_getElem hi⟩
      rw [rd_nat, hx]
      simp only [Option.bind_some]
      have hxm := List.mem_of_getElem? hx
      by_cases h0 : x.Txs = []
      · rw [if_pos (by simp [h0])]
        simp only [Option.bind_some, if_true, StepOk]
        exact ⟨by simp, fun _ hm => (hm.1 x hxm).1 h0⟩
      · rw [if_neg (by simpa using h0)]
        by_cases hm : May x
        · rw [(check_val (hs.line x hxm)).1 hm]
          simp only [Option.bind_some]
          rw [if_neg (by simp)]
          by_cases hk0 : k = 0
          · subst hk0
            simp only [Int.natCast_zero, gt_iff_lt, Int.lt_irrefl, decide_false, Bool.false_eq_true, if_false, Option.bind_some, StepOk]
            rw [wi64 (by omega) (by omega)]
            refine ⟨⟨1, rfl, by omega, ?_, srt_snoc hs.dig hsrt hx (.inl rfl)⟩, by omega⟩
            rw [take_succ hx]; intro y hy; simp at hy; subst hy; exact ⟨h0, hm⟩
          · rw [if_pos (by simp; omega), wi64 (by omega) (by omega), show (k : Int) - 1 = ((k - 1 : Nat) : Int) from by omega, rd_nat]
            obtain ⟨y, hy⟩ : ∃ y, ls[k - 1]? = some y := ⟨_, List.getElem?_eq_getElem (by omega)⟩
            rw [hy]
            simp only [Option.bind_some]
            rw [lt_val (hs.dig y (List.mem_of_getElem? hy)) (hs.dig x hxm)]
            simp only [Option.bind_some]
            cases hl : lt y.From x.From with
            | false =>
              simp only [Bool.not_false, if_true, StepOk]
              refine ⟨by simp, fun _ hM => ?_⟩
              have := srt_at hM.2 hy hx (by omega)
              rw [hl] at this; cases this
            | true =>
              simp only [Bool.not_true, Bool.false_eq_true, if_false, StepOk]
              rw [wi64 (by omega) (by omega)]
              refine ⟨⟨k + 1, by omega, by omega, ?_, srt_snoc hs.dig hsrt hx (.inr ⟨y, hy, hl⟩)⟩, by omega⟩
              rw [take_succ hx]
              intro z hz
              rcases List.mem_append.1 hz with hz | hz
              · exact hall z hz
              · simp only [List.mem_singleton] at hz; subst hz; exact ⟨h0, hm⟩
        · rw [(check_val (hs.line x hxm)).2 hm]
          simp only [Option.bind_some]
          rw [if_pos (by simp)]
          simp only [Option.bind_some, if_true, StepOk]
          exact ⟨by simp, fun _ hM => hm (hM.1 x hxm).2⟩
    · rw [if_neg (by simpa using hi)]
      have hk' : k = ls.length := by omega
      subst hk'
      rw [List.take_length] at hall hsrt
      exact ⟨fun _ => ⟨hall, hsrt⟩, by simp⟩
  rw [hb]
  simp only [Option.bind_some]
  rcases b with ⟨⟩ | ⟨⟩
  · exact ⟨fun _ => rfl, fun h => absurd (hP.1 rfl) h⟩
  · exact ⟨fun h => absurd h (hP.2 rfl), fun _ => rfl⟩

/-! ### how many -/
theorem cnt_append (a b : List GLine) : cnt (a ++ b) = cnt a + cnt b := by simp [cnt]
theorem cnt_one (l : GLine) : cnt [l] = l.Txs.length := by simp [cnt]
def cm (ls : List GLine) : Nat := (ls.map fun l => min 100 l.Txs.length).sum
theorem cm_cnt : ∀ {ls : List GLine}, cm ls < 100 → cnt ls = cm ls
  | [], _ => rfl
  | l :: ls, h => by
    have h1 : cm (l :: ls) = min 100 l.Txs.length + cm ls := by simp [cm]
    have h2 : cnt (l :: ls) = l.Txs.length + cnt ls := by simp [cnt]
    have := cm_cnt (ls := ls) (by omega)
    omega
theorem cm_le (ls : List GLine) : cm ls ≤ 100 * ls.length := by
  induction ls with
  | nil => simp [cm]
  | cons l ls ih =>
    have h1 : cm (l :: ls) = min 100 l.Txs.length + cm ls := by simp [cm]
    simp only [List.length_cons]; omega
theorem great_val (ls : List GLine) : ∃ b, F49_beadrollref20_Great 1000 ⟨ls⟩ = some b ∧ (b = false → ls.length ≤ 6 ∧ cnt ls ≤ 20) := by
  unfold F49_beadrollref20_Great
  refine bP (S := fun o => ∃ b, o = some b ∧ (b = false → ls.length ≤ 6 ∧ cnt ls ≤ 20)) (Q := fun b : Int => ls.length ≤ 6 → b = (cm ls : Int)) ?_ fun b hb => ?_
  · refine loop_ok (fun z => ∃ k : Nat, z = ((cm (ls.take k) : Int), (k : Int)) ∧ k ≤ ls.length ∧ k ≤ 20) (fun z => (20 - z.2).toNat) _ ?_ 1000 _ ⟨0, rfl, by omega, by omega⟩ (by simp)
    rintro z ⟨k, rfl, hk, hk2⟩
    unfold F49_beadrollref20_Great_s0
    simp only
    by_cases hi : k < ls.length ∧ k < 20
    · rw [if_pos (by simpa using hi.1)]
      simp only [Option.bind_some]
      rw [if_pos (by have := hi.2; simp; omega)]
      obtain ⟨x, hx⟩ : ∃ x, ls[k]? = some x := ⟨_, List.getElem?_eq_getElem hi.1⟩
      rw [rd_nat, hx]
      simp only [Option.bind_some, StepOk]
      have h2 : cm (ls.take (k + 1)) = cm (ls.take k) + min 100 x.Txs.length := by rw [take_succ hx]; simp [cm]
      have h3 := cm_le (ls.take k)
      have h4 : (ls.take k).length ≤ 20 := by simp; omega
      have h5 : (if (100 : Int) < (x.Txs.length : Int) then (100 : Int) else (x.Txs.length : Int)) = ((min 100 x.Txs.length : Nat) : Int) := by split <;> omega
      rw [h5, wi64 (by omega) (by omega), wi64 (by omega) (by omega)]
      exact ⟨⟨k + 1, by rw [h2]; simp, by omega, by omega⟩, by omega⟩
    · have he : ((if decide ((k : Int) < (ls.length : Int)) = true then some (decide ((k : Int) < (20 : Int))) else some false) : Option Bool) = some false := by
        by_cases h1 : k < ls.length
        · rw [if_pos (by simpa using h1)]
          have : ¬ k < 20 := fun h => hi ⟨h1, h⟩
          simp; omega
        · rw [if_neg (by simpa using h1)]
      rw [he]
      simp only [Option.bind_some, Bool.false_eq_true, if_false, StepOk]
      intro h6
      have : k = ls.length := by omega
      subst this; rw [List.take_length]
  · by_cases h6 : ls.length ≤ 6
    · rw [if_neg (by simp; omega)]
      refine ⟨_, rfl, fun hf => ⟨h6, ?_⟩⟩
      have := hb h6
      subst this
      have h20 : cm ls ≤ 20 := by
        have hf' : ((cm ls : Int) ≤ 20) := by simpa using hf
        omega
      rw [cm_cnt (by omega)]; exact h20
    · rw [if_pos (by simp; omega)]
      exact ⟨true, rfl, by simp⟩


theorem mem_cnt {ls : List GLine} {l : GLine} (h : l ∈ ls) : l.Txs.length ≤ cnt ls := by
  obtain ⟨a, b, rfl⟩ := List.append_of_mem h
  rw [cnt_append]
  have : cnt (l :: b) = l.Txs.length + cnt b := by simp [cnt]
  omega
theorem clone_val' {l : List GTx} (h : l.length ≤ 1073741824) : F76_Clone 1000 l = some l := by unfold F76_Clone; rw [if_pos h]
/-! ### a shard's copy -/
theorem shtwin_val {ls : List GLine} (hlen : ls.length ≤ 290) (hc : cnt ls ≤ 100000) : F61_shard_Twin 1000 ⟨ls⟩ = some ls := by
  unfold F61_shard_Twin F100_Clone
  rw [if_pos (by simp only; omega)]
  simp only [Option.bind_some]
  obtain ⟨b, hb, rfl⟩ : ∃ b, loopF (fun z : Int × List GLine => F61_shard_Twin_s0 1000 ls z.1 z.2) 1000 ((0 : Int), ls) = some b ∧ b = ls := by
    refine loop_ok (fun z => ∃ k : Nat, z = ((k : Int), ls) ∧ k ≤ ls.length) (fun z => (ls.length - z.1).toNat) (fun b : List GLine => b = ls) ?_ 1000 _ ⟨0, rfl, by omega⟩ (by simp; omega)
    rintro z ⟨k, rfl, hk⟩
    unfold F61_shard_Twin_s0
    simp only
    by_cases hi : k < ls.length
    · rw [if_pos (by simpa using hi), rd_nat]
      obtain ⟨x, hx⟩ : ∃ x, ls[k]? = some x := ⟨_, List.getElem?_eq_getElem hi⟩
      rw [hx]
      simp only [Option.bind_some]
      have hxc := mem_cnt (List.mem_of_getElem? hx)
      unfold F47_queue_Twin
      rw [clone_val' (by omega)]
      simp only [Option.bind_some, StepOk]
      rw [wi64 (by omega) (by omega)]
      refine ⟨⟨k + 1, ?_, by omega⟩, by omega⟩
      have hset : ls.set k x = ls := by
        obtain ⟨h1, h2⟩ := List.getElem?_eq_some_iff.1 hx
        rw [← h2]; simp
      simp [hset]
    · rw [if_neg (by simpa using hi)]
      exact rfl
  rw [hb]; rfl

end Go.Proofs.YtonfljoibcnlgaaDoor
namespace Go.Proofs.YtonfljoibcnlgaaDoor
open Bd Go

/-! ### a sender's line -/
theorem drop_cons' {α : Type} {a : List α} {m : Nat} {x : α} (h : a[m]? = some x) : a.drop m = x :: a.drop (m + 1) := by
  obtain ⟨h1, h2⟩ := List.getElem?_eq_some_iff.1 h
  rw [List.drop_eq_getElem_cons h1, h2]
theorem idx_val {ls : List GLine} (hd : ∀ l ∈ ls, Dig l.From) {f : List Int} (hf : Dig f) (hlen : ls.length ≤ 290) :
    ∃ k : Nat, k ≤ ls.length ∧ (∀ i x, ls[i]? = some x → i < k → lt x.From f = true) ∧ ((k = ls.length ∧ F112_api_Line_65c 1000 ls f = some (-1)) ∨ (F112_api_Line_65c 1000 ls f = some (k : Int) ∧ ∃ x, ls[k]? = some x ∧ lt x.From f = false)) := by
  unfold F112_api_Line_65c
  obtain ⟨b, hb, hP⟩ : ∃ b, loopF (fun z => F112_api_Line_65c_s0 1000 ls f z) 1000 (0 : Int) = some b ∧ ∃ k : Nat, k ≤ ls.length ∧ (∀ i x, ls[i]? = some x → i < k → lt x.From f = true) ∧ ((k = ls.length ∧ b = .inl ()) ∨ (b = .inr (k : Int) ∧ ∃ x, ls[k]? = some x ∧ lt x.From f = false)) := by
    refine loop_ok (fun z => ∃ k : Nat, z = (k : Int) ∧ k ≤ ls.length ∧ (∀ i x, ls[i]? = some x → i < k → lt x.From f = true)) (fun z => (ls.length - z).toNat) _ ?_ 1000 _ ⟨0, rfl, by omega, fun i x _ h => by omega⟩ (by simp; omega)
    rintro z ⟨k, rfl, hk, hall⟩
    unfold F112_api_Line_65c_s0 F147_shard_part_find_1_acc
    by_cases hi : k < ls.length
    · rw [if_pos (by simpa using hi)]
      obtain ⟨x, hx⟩ : ∃ x, ls[k]? = some x := ⟨_, List.getElem?_eq_getElem hi⟩
      rw [rd_nat, hx]
      simp only [Option.bind_some]
      rw [lt_val (hd x (List.mem_of_getElem? hx)) hf]
      simp only [Option.bind_some]
      cases hl : lt x.From f with
      | false =>
        simp only [Bool.not_false, if_true, StepOk]
        exact ⟨k, hk, hall, .inr ⟨rfl, x, hx, hl⟩⟩
      | true =>
        simp only [Bool.not_true, Bool.false_eq_true, if_false, StepOk]
        rw [wi64 (by omega) (by omega)]
        refine ⟨⟨k + 1, by omega, by omega, fun i y hy hik => ?_⟩, by omega⟩
        by_cases e : i = k
        · subst e; rw [hx] at hy; cases hy; exact hl
        · exact hall i y hy (by omega)
    · rw [if_neg (by simpa using hi)]
      exact ⟨k, hk, hall, .inl ⟨by omega, rfl⟩⟩
  rw [hb]
  simp only [Option.bind_some]
  obtain ⟨k, h1, h2, h3⟩ := hP
  refine ⟨k, h1, h2, ?_⟩
  rcases h3 with ⟨e, rfl⟩ | ⟨rfl, h⟩
  · exact .inl ⟨e, rfl⟩
  · exact .inr ⟨rfl, h⟩

/-- a shard's lines about a sender: those ahead, its own, those behind -/
structure About (ls : List GLine) (f : List Int) (P M S : List GLine) : Prop where
  eq : ls = P ++ M ++ S
  ahead : ∀ l ∈ P, lt l.From f = true
  behind : ∀ l ∈ S, lt f l.From = true
  own : M = [] ∨ ∃ y, M = [y] ∧ y.From = f

theorem about {ls : List GLine} (hd : ∀ l ∈ ls, Dig l.From) (hs : Srt ls) {f : List Int} (hf : Dig f) (hlen : ls.length ≤ 290) :
    ∃ P M S, About ls f P M S ∧ F119_shard_part_find_363 1000 f ls = some ((P.length : Int), !M.isEmpty) := by
  obtain ⟨k, h1, h2, h3⟩ := idx_val hd hf hlen
  have hP : ∀ l ∈ ls.take k, lt l.From f = true := fun l hl => by
    obtain ⟨i, hi⟩ := List.getElem?_of_mem hl
    rw [List.getElem?_take] at hi
    split at hi
    · exact h2 i l hi (by omega)
    · cases hi
  unfold F119_shard_part_find_363
  rcases h3 with ⟨rfl, h⟩ | ⟨h, x, hx, hlt⟩
  · rw [List.take_length] at hP
    refine ⟨ls, [], [], ⟨by simp, hP, by simp, .inl rfl⟩, ?_⟩
    rw [h]
    simp only [Option.bind_some]
    rw [if_pos (by decide)]; rfl
  · have hxm := List.mem_of_getElem? hx
    have hk : k < ls.length := (List.getElem?_eq_some_iff.1 hx).1
    have hdrop : ls.drop k = x :: ls.drop (k + 1) := drop_cons' hx
    have hS : ∀ l ∈ ls.drop (k + 1), lt x.From l.From = true := fun l hl => by
      obtain ⟨i, hi⟩ := List.getElem?_of_mem hl
      rw [List.getElem?_drop] at hi
      exact srt_at hs hx hi (by omega)
    rw [h]
    simp only [Option.bind_some]
    rw [if_neg (by simp), rd_nat, hx]
    simp only [Option.bind_some]
    have hlen' : ((ls.take k).length : Int) = (k : Int) := by rw [List.length_take]; omega
    by_cases he : x.From = f
    · refine ⟨ls.take k, [x], ls.drop (k + 1), ⟨?_, hP, fun l hl => he ▸ hS l hl, .inr ⟨x, rfl, he⟩⟩, by rw [hlen']; simp [he]⟩
      rw [List.append_assoc, List.singleton_append, ← hdrop, List.take_append_drop]
    · have hfx : lt f x.From = true := by
        cases hc : lt f x.From with
        | true => rfl
        | false => exact absurd (lt_eq (hd x hxm) hf hlt hc) he
      refine ⟨ls.take k, [], ls.drop k, ⟨by simp, hP, fun l hl => ?_, .inl rfl⟩, by rw [hlen']; simp [he]⟩
      rw [hdrop] at hl
      rcases List.mem_cons.1 hl with rfl | hl
      · exact hfx
      · exact lt_trans hf (hd x hxm) (hd l (List.mem_of_mem_drop hl)) hfx (hS l hl)
theorem find_none {P : List GLine} {f : List Int} (h : ∀ l ∈ P, l.From ≠ f) : (P.find? fun l => decide (l.From = f)) = none := List.find?_eq_none.2 fun l hl => by simpa using h l hl
theorem About.line {ls : List GLine} {f : List Int} {P M S : List GLine} (h : About ls f P M S) : lineOf ls f = (M.head?).getD ⟨f, []⟩ := by
  have hP := find_none (P := P) (f := f) fun l hl => lt_ne (h.ahead l hl)
  have hS := find_none (P := S) (f := f) fun l hl => (lt_ne (h.behind l hl)).symm
  unfold lineOf
  rw [h.eq, List.append_assoc, List.find?_append, hP, List.find?_append, hS]
  rcases h.own with rfl | ⟨y, rfl, hy⟩
  · rfl
  · simp [List.find?, hy]
/-- a line that is set -/
def setL (P : List GLine) (l : GLine) (S : List GLine) : List GLine := P ++ (if l.Txs = [] then [] else [l]) ++ S
theorem del_val {α : Type} {k : Nat} {P S : List GLine} {y : GLine} (_ : k = P.length) (hl : (P ++ [y] ++ S).length ≤ 1000) : F121_Delete 1000 (k : Int) (IntKind.i64.wrap ((k : Int) + 1)) (P ++ [y] ++ S) = some (P ++ S) := by
  subst k
  have hl' : P.length + 1 + S.length ≤ 1000 := by simp at hl; omega
  unfold F121_Delete
  rw [wi64 (by omega) (by omega), if_pos ⟨by omega, by omega, by simp; omega, by simp; omega⟩]
  congr 1
  have e : ((P.length : Int) + 1).toNat = P.length + 1 := by omega
  rw [e, Int.toNat_natCast]
  simp [List.take_append, List.drop_append]
theorem ins122_val {k : Nat} {l : List GLine} {x : GLine} (hk : k ≤ l.length) (hl : l.length ≤ 1000) : F122_Insert 1000 (k : Int) l [x] = some (l.take k ++ [x] ++ l.drop k) := by
  unfold F122_Insert
  rw [if_pos ⟨by omega, by omega, rfl, by simp; omega⟩, Int.toNat_natCast]
theorem set_val {ls : List GLine} (hd : ∀ l ∈ ls, Dig l.From) (hs : Srt ls) {l : GLine} (hf : Dig l.From) (hlen : ls.length ≤ 290) :
    ∃ P M S, About ls l.From P M S ∧ F95_shard_part_set_ddb 1000 l ls = some (setL P l S) := by
  obtain ⟨P, M, S, hA, h⟩ := about hd hs hf hlen
  refine ⟨P, M, S, hA, ?_⟩
  have hle : P.length + M.length + S.length = ls.length := by rw [hA.eq]; simp [Nat.add_assoc]
  unfold F95_shard_part_set_ddb
  rw [h]
  simp only [Option.bind_some]
  rcases hA.own with rfl | ⟨y, rfl, hy⟩
  · simp only [List.isEmpty_nil, Bool.not_true, Bool.false_eq_true, if_false, Option.bind_some]
    by_cases h0 : l.Txs = []
    · rw [if_neg (by simp [h0])]
      simp only [setL, h0, if_true]
      rw [hA.eq]
    · have hpos : 0 < l.Txs.length := List.length_pos_iff.2 h0
      rw [if_pos (by simpa using hpos), ins122_val (by omega) (by omega)]
      simp only [Option.bind_some, setL, h0, if_false]
      rw [hA.eq]; simp
  · simp only [List.isEmpty_cons, Bool.not_false, if_true, Option.bind_some]
    by_cases h0 : l.Txs = []
    · rw [if_pos (by simp [h0])]
      have := del_val (α := Unit) (k := P.length) (P := P) (S := S) (y := y) rfl (by rw [← hA.eq]; omega)
      rw [hA.eq, this]
      simp [setL, h0]
    · rw [if_neg (by simpa using h0)]
      simp only [List.length_cons, List.length_nil] at hle
      rw [rd_nat, hA.eq]
      have : (P ++ [y] ++ S)[P.length]? = some y := by simp
      rw [this]
      simp only [Option.bind_some, setL, h0, if_false, Nat.zero_add, Int.toNat_natCast]
      simp [List.set_append]
/-- what is set comes to -/
theorem setL_spec {ls : List GLine} (hd : ∀ l ∈ ls, Dig l.From) (hm : MayS ls) {l : GLine} (hf : Dig l.From) (hl : May l) {P M S : List GLine} (hA : About ls l.From P M S) :
    MayS (setL P l S) ∧ lineOf (setL P l S) l.From = l ∧ (∀ g, g ≠ l.From → lineOf (setL P l S) g = lineOf ls g) ∧ cnt (setL P l S) + (lineOf ls l.From).Txs.length = cnt ls + l.Txs.length ∧ (setL P l S).length ≤ ls.length + 1 ∧
      (∀ x ∈ setL P l S, x = l ∨ x ∈ ls) := by
  have hmem : ∀ x ∈ setL P l S, (x = l ∧ l.Txs ≠ []) ∨ x ∈ P ∨ x ∈ S := fun x hx => by
    unfold setL at hx
    split at hx <;> simp at hx <;> rcases hx with h | h <;> simp_all
    rcases h with h | h <;> simp_all
  have hPls : ∀ x ∈ P, x ∈ ls := fun x hx => by rw [hA.eq]; simp [hx]
  have hSls : ∀ x ∈ S, x ∈ ls := fun x hx => by rw [hA.eq]; simp [hx]
  have hsrt := hm.2
  unfold Srt at hsrt
  rw [hA.eq, List.append_assoc] at hsrt
  obtain ⟨sP, sMS, sPM⟩ := List.pairwise_append.1 hsrt
  obtain ⟨sM, sS, sMS2⟩ := List.pairwise_append.1 sMS
  have hPS : ∀ a ∈ P, ∀ b ∈ S, lt a.From b.From = true := fun a ha b hb => sPM a ha b (by simp [hb])
  have hA2 : About (setL P l S) l.From P (if l.Txs = [] then [] else [l]) S := ⟨rfl, hA.ahead, hA.behind, by split; exact .inl rfl; exact .inr ⟨l, rfl, rfl⟩⟩
  refine ⟨⟨fun x hx => ?_, ?_⟩, ?_, fun g hg => ?_, ?_, ?_, fun x hx => ?_⟩
  · rcases hmem x hx with ⟨rfl, h⟩ | h | h
    · exact ⟨h, hl⟩
    · exact hm.1 x (hPls x h)
    · exact hm.1 x (hSls x h)
  · unfold Srt setL
    rw [List.append_assoc]
    refine List.pairwise_append.2 ⟨sP, List.pairwise_append.2 ⟨by split <;> simp, sS, fun a ha b hb => ?_⟩, fun a ha b hb => ?_⟩
    · split at ha
      · cases ha
      · simp only [List.mem_singleton] at ha; subst ha; exact hA.behind b hb
    · rcases List.mem_append.1 hb with hb | hb
      · split at hb
        · cases hb
        · simp only [List.mem_singleton] at hb; subst hb; exact hA.ahead a ha
      · exact hPS a ha b hb
  · rw [hA2.line]
    split
    · next h => simp only [List.head?_nil, Option.getD_none]; cases l; simp_all
    · rfl
  · unfold lineOf setL
    rw [hA.eq]
    simp only [List.find?_append]
    have e1 : ((if l.Txs = [] then [] else [l]).find? fun l => decide (l.From = g)) = none := find_none fun x hx => by
      split at hx
      · cases hx
      · simp only [List.mem_singleton] at hx; subst hx; exact hg.symm
    have e2 : (M.find? fun l => decide (l.From = g)) = none := find_none fun x hx => by
      rcases hA.own with rfl | ⟨y, rfl, hy⟩
      · cases hx
      · simp only [List.mem_singleton] at hx; subst hx; rw [hy]; exact hg.symm
    rw [e1, e2]
  · rw [hA.line]
    have e1 : cnt (setL P l S) = cnt P + l.Txs.length + cnt S := by
      unfold setL
      rw [cnt_append, cnt_append]
      split
      · next h => simp [cnt, h]
      · rw [cnt_one]
    have e2 : cnt ls = cnt P + cnt M + cnt S := by rw [hA.eq, cnt_append, cnt_append]
    rw [e1, e2]
    rcases hA.own with rfl | ⟨y, rfl, hy⟩
    · simp [cnt]; omega
    · rw [cnt_one]; simp; omega
  · unfold setL
    rw [hA.eq]
    split <;> simp <;> omega
  · rcases hmem x hx with ⟨rfl, _⟩ | h | h
    · exact .inl rfl
    · exact .inr (hPls x h)
    · exact .inr (hSls x h)
end Go.Proofs.YtonfljoibcnlgaaDoor
namespace Go.Proofs.YtonfljoibcnlgaaDoor
open Bd Go

theorem lineOf_mem {ls : List GLine} (hs : Srt ls) {l : GLine} (hl : l ∈ ls) : lineOf ls l.From = l := by
  unfold lineOf
  cases hf : ls.find? fun y => decide (y.From = l.From) with
  | none => exact absurd (List.find?_eq_none.1 hf l hl) (by simp)
  | some y =>
    have h1 := List.mem_of_find?_eq_some hf
    have h2 : y.From = l.From := by simpa using List.find?_some hf
    obtain ⟨i, hi⟩ := List.getElem?_of_mem h1
    obtain ⟨j, hj⟩ := List.getElem?_of_mem hl
    rcases Nat.lt_trichotomy i j with h | h | h
    · have := srt_at hs hi hj h; rw [h2, lt_self] at this; cases this
    · subst h; rw [hi] at hj; cases hj; rfl
    · have := srt_at hs hj hi h; rw [h2, lt_self] at this; cases this
theorem lineOf_or (ls : List GLine) (f : List Int) : (lineOf ls f = ⟨f, []⟩ ∧ ∀ l ∈ ls, l.From ≠ f) ∨ (lineOf ls f ∈ ls ∧ (lineOf ls f).From = f) := by
  unfold lineOf
  cases hf : ls.find? fun y => decide (y.From = f) with
  | none => exact .inl ⟨rfl, fun l hl => by simpa using List.find?_eq_none.1 hf l hl⟩
  | some y => exact .inr ⟨List.mem_of_find?_eq_some hf, by simpa using List.find?_some hf⟩
theorem lineOf_may {ls : List GLine} (hm : MayS ls) (f : List Int) : May (lineOf ls f) := by
  rcases lineOf_or ls f with ⟨h, _⟩ | ⟨h, _⟩
  · rw [h]; exact ⟨by simp, by simp, List.Pairwise.nil⟩
  · exact (hm.1 _ h).2
/-- a sender's transaction of a nonce -/
theorem shfind_val {ls : List GLine} (hs : Srt ls) (hlen : ls.length ≤ 290) (hc : cnt ls ≤ 290) (f : List Int) (n : Int) :
    ∃ q : GTx × Bool, F51_beadrolllaw20_find 1000 ⟨ls⟩ f n = some q ∧ (q.2 = true → q.1 ∈ (lineOf ls f).Txs ∧ q.1.Nonce = n) ∧ (q.2 = false → ∀ x ∈ (lineOf ls f).Txs, x.Nonce ≠ n) := by
  unfold F51_beadrolllaw20_find
  refine bP (S := fun o => ∃ q : GTx × Bool, o = some q ∧ (q.2 = true → q.1 ∈ (lineOf ls f).Txs ∧ q.1.Nonce = n) ∧ (q.2 = false → ∀ x ∈ (lineOf ls f).Txs, x.Nonce ≠ n))
    (Q := fun r : Unit ⊕ GTx => (∀ x, r = .inr x → x ∈ (lineOf ls f).Txs ∧ x.Nonce = n) ∧ (r = .inl () → ∀ x ∈ (lineOf ls f).Txs, x.Nonce ≠ n)) ?_ fun r hr => ?_
  · refine loop_ok (fun z => ∃ k : Nat, z = (k : Int) ∧ k ≤ ls.length ∧ ∀ l ∈ ls.take k, l.From = f → ∀ x ∈ l.Txs, x.Nonce ≠ n) (fun z => (ls.length - z).toNat) _ ?_ 1000 _ ⟨0, rfl, by omega, by simp⟩ (by simp; omega)
    rintro z ⟨k, rfl, hk, ht⟩
    unfold F51_beadrolllaw20_find_s0
    by_cases hi : k < ls.length
    · rw [if_pos (by simpa using hi)]
      obtain ⟨l, hl⟩ : ∃ l, ls[k]? = some l := ⟨_, List.getElem?_eq_getElem hi⟩
      have hlm := List.mem_of_getElem? hl
      have hlc := mem_cnt hlm
      obtain ⟨b, hb, hP⟩ : ∃ b, loopF (fun z => F51_beadrolllaw20_find_s1 ⟨ls⟩ f n (k : Int) z) 1000 (0 : Int) = some b ∧ ((∀ x, b = .inr x → l.From = f ∧ x ∈ l.Txs ∧ x.Nonce = n) ∧ (b = .inl () → l.From = f → ∀ x ∈ l.Txs, x.Nonce ≠ n)) := by
        refine loop_ok (fun z => ∃ j : Nat, z = (j : Int) ∧ j ≤ l.Txs.length ∧ ∀ x ∈ l.Txs.take j, x.Nonce ≠ n) (fun z => (l.Txs.length - z).toNat) (fun b : Unit ⊕ GTx => (∀ x, b = .inr x → l.From = f ∧ x ∈ l.Txs ∧ x.Nonce = n) ∧ (b = .inl () → l.From = f → ∀ x ∈ l.Txs, x.Nonce ≠ n)) ?_ 1000 _ ⟨0, rfl, by omega, by simp⟩ (by simp; omega)
        rintro z ⟨j, rfl, hj, hx⟩
        unfold F51_beadrolllaw20_find_s1
        rw [rd_nat, hl]
        simp only [Option.bind_some]
        by_cases hj2 : j < l.Txs.length
        · rw [if_pos (by simpa using hj2)]
          simp only [Option.bind_some]
          by_cases hf : l.From = f
          · rw [if_pos (by simpa using hf), rd_nat]
            obtain ⟨x, hxj⟩ : ∃ x, l.Txs[j]? = some x := ⟨_, List.getElem?_eq_getElem hj2⟩
            rw [hxj]
            simp only [Option.bind_some]
            by_cases he : x.Nonce = n
            · rw [if_pos (by simpa using he)]
              simp only [StepOk]
              exact ⟨fun y e => by cases e; exact ⟨hf, List.mem_of_getElem? hxj, he⟩, by simp⟩
            · rw [if_neg (by simpa using he)]
              simp only [StepOk]
              rw [wi64 (by omega) (by omega)]
              refine ⟨⟨j + 1, by omega, by omega, fun y hy => ?_⟩, by omega⟩
              rw [take_succ hxj] at hy
              rcases List.mem_append.1 hy with hy | hy
              · exact hx y hy
              · simp only [List.mem_singleton] at hy; subst hy; exact he
          · rw [if_neg (by simpa using hf)]
            simp only [StepOk]
            exact ⟨by simp, fun _ h => absurd h hf⟩
        · rw [if_neg (by simpa using hj2)]
          simp only [Option.bind_some, Bool.false_eq_true, if_false, StepOk]
          have : j = l.Txs.length := by omega
          subst this
          rw [List.take_length] at hx
          exact ⟨by simp, fun _ _ => hx⟩
      rw [hb]
      simp only [Option.bind_some]
      rcases b with ⟨⟩ | x
      · simp only [Sum.elim_inl, StepOk]
        rw [wi64 (by omega) (by omega)]
        refine ⟨⟨k + 1, by omega, by omega, fun y hy => ?_⟩, by omega⟩
        rw [take_succ hl] at hy
        rcases List.mem_append.1 hy with hy | hy
        · exact ht y hy
        · simp only [List.mem_singleton] at hy; subst hy; exact hP.2 rfl
      · simp only [Sum.elim_inr, StepOk]
        obtain ⟨h1, h2, h3⟩ := hP.1 x rfl
        refine ⟨fun y e => ?_, by simp⟩
        cases e
        rw [← h1, lineOf_mem hs hlm]
        exact ⟨h2, h3⟩
    · rw [if_neg (by simpa using hi)]
      have hk' : k = ls.length := by omega
      subst hk'
      rw [List.take_length] at ht
      simp only [StepOk]
      refine ⟨by simp, fun _ x hx => ?_⟩
      rcases lineOf_or ls f with ⟨h, _⟩ | ⟨h1, h2⟩
      · rw [h] at hx; cases hx
      · exact ht _ h1 h2 x hx
  · rcases r with ⟨⟩ | x
    · exact ⟨_, rfl, by simp, fun _ => hr.2 rfl⟩
    · exact ⟨_, rfl, fun _ => hr.1 x rfl, by simp⟩
theorem shfind_in {ls : List GLine} (hm : MayS ls) (hlen : ls.length ≤ 290) (hc : cnt ls ≤ 290) {f : List Int} {x : GTx} (hx : x ∈ (lineOf ls f).Txs) : F51_beadrolllaw20_find 1000 ⟨ls⟩ f x.Nonce = some (x, true) := by
  obtain ⟨⟨q, b⟩, h1, h2, h3⟩ := shfind_val hm.2 hlen hc f x.Nonce
  rw [h1]
  cases b with
  | false => exact absurd rfl (h3 rfl x hx)
  | true =>
    have e : q = x := inc_uniq (lineOf_may hm f).2.2 (h2 rfl).1 hx (h2 rfl).2
    rw [e]

/-! ### the worst line -/
def lastFee (l : GLine) : Int := (l.Txs.getLast?.map (·.Fee)).getD 0
def wst (f : List Int) : List GLine → Int → Int → Int → Int
  | [], _, at_, _ => at_
  | l :: r, i, at_, least => if l.From ≠ f ∧ lastFee l < least then wst f r (i + 1) i (lastFee l) else wst f r (i + 1) at_ least
/-! ### Submit -/
/-- a shard that has taken a transaction in -/
structure Sub (ls : List GLine) (cap : Int) (x : GTx) (a : List GLine) (gone : List GTx) : Prop where
  may : MayS a
  ok : ShOk a
  len : a.length ≤ ls.length + 2
  has : x ∈ (lineOf a (ky x.Pub)).Txs
  one : gone.length ≤ 1
  count : cnt a + gone.length = cnt ls + 1
  kept : ∀ f, ∀ z ∈ (lineOf ls f).Txs, z ∈ (lineOf a f).Txs ∨ gone = [z]
  room : gone = [] → (cnt ls : Int) < cap

end Go.Proofs.YtonfljoibcnlgaaDoor
