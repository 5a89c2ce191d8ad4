import Derived.Test.YtonfljoibcnlgaaGreatDoorM1
namespace Go.Proofs.YtonfljoibcnlgaaGreatDoor
open Bd Go
theorem ahead_ok {ts : List GTx} (hs : Inc ts) (hl : ts.length ≤ 256) (n : Int) : ∃ k : Nat, F73_api_Tx_ahead_f93 1000 ts n = some (k : Int) ∧ k ≤ ts.length ∧ (∀ i x, ts[i]? = some x → i < k → x.Nonce < n) ∧ (∀ i x, ts[i]? = some x → k ≤ i → n ≤ x.Nonce) := by
  unfold F73_api_Tx_ahead_f93
  refine bP (S := fun o => ∃ k : Nat, o = some (k : Int) ∧ k ≤ ts.length ∧ (∀ i x, ts[i]? = some x → i < k → x.Nonce < n) ∧ (∀ i x, ts[i]? = some x → k ≤ i → n ≤ x.Nonce))
    (Q := fun b => ∃ k : Nat, b = (k : Int) ∧ k ≤ ts.length ∧ (∀ i x, ts[i]? = some x → i < k → x.Nonce < n) ∧ (∀ i x, ts[i]? = some x → k ≤ i → n ≤ x.Nonce)) ?_ fun b ⟨k, e, h⟩ => ⟨k, by rw [e], h⟩
  refine loop_ok (fun z : Int × Int => ∃ a b : Nat, z = ((a : Int), (b : Int)) ∧ a ≤ b ∧ b ≤ ts.length ∧ (∀ i x, ts[i]? = some x → i < a → x.Nonce < n) ∧ (∀ i x, ts[i]? = some x → b ≤ i → n ≤ x.Nonce)) (fun z => (z.2 - z.1).toNat) _ ?_ 1000 _
    ⟨0, ts.length, rfl, by omega, by omega, fun i x _ h => by omega, fun i x h h2 => by have := (List.getElem?_eq_some_iff.1 h).1; omega⟩ (by simp only; omega)
  rintro z ⟨a, b, rfl, h1, h2, h3, h4⟩
  simp only
  unfold F73_api_Tx_ahead_f93_s0
  by_cases hab : a < b
  · rw [if_pos (by simpa using hab), wi64 (x := (a : Int) + b) (by omega) (by omega), Int.tdiv_eq_ediv_of_nonneg (by omega), wi64 (x := ((a : Int) + b) / 2) (by omega) (by omega), show ((a : Int) + b) / 2 = (((a + b) / 2 : Nat) : Int) from by omega, rd_nat]
    obtain ⟨x, hx⟩ : ∃ x, ts[(a + b) / 2]? = some x := ⟨_, List.getElem?_eq_getElem (by omega)⟩
    rw [hx]
    simp only [Option.bind_some, F115_queue_nonces_1]
    by_cases hn : x.Nonce < n
    · rw [if_pos (by simpa using hn)]
      simp only [StepOk]
      rw [wi64 (by omega) (by omega)]
      refine ⟨⟨(a + b) / 2 + 1, b, by simp, by omega, h2, fun i y hy hi => ?_, h4⟩, by omega⟩
      by_cases e : i = (a + b) / 2
      · subst e; rw [hx] at hy; cases hy; exact hn
      · have := inc_at hs hy hx (by omega); omega
    · rw [if_neg (by simpa using hn)]
      simp only [StepOk]
      refine ⟨⟨a, (a + b) / 2, rfl, by omega, by omega, h3, fun i y hy hi => ?_⟩, by omega⟩
      by_cases e : i = (a + b) / 2
      · subst e; rw [hx] at hy; cases hy; omega
      · have := inc_at hs hx hy (by omega); omega
  · rw [if_neg (by simpa using hab)]
    have : a = b := by omega
    subst this
    exact ⟨a, rfl, h2, h3, h4⟩
theorem clone_val {l : List GTx} (h : l.length ≤ 1073741824) : F74_Clone 1000 l = some l := by unfold F74_Clone; rw [if_pos h]
end Go.Proofs.YtonfljoibcnlgaaGreatDoor
namespace Go.Proofs.YtonfljoibcnlgaaGreatDoor
open Bd Go
theorem past_ok {l : GLine} (hl : LineOk l) (hm : May l) (n : Int) : ∃ k : Nat, k ≤ l.Txs.length ∧ F34_queue_Past 1000 l n = some (⟨l.From, l.Txs.drop k⟩, l.Txs.take k, 0) ∧ (∀ i x, l.Txs[i]? = some x → i < k → x.Nonce < n) ∧ (∀ i x, l.Txs[i]? = some x → k ≤ i → n ≤ x.Nonce) := by
  obtain ⟨k, h1, h2, h3, h4⟩ := ahead_ok hm.2.2 hm.1 n
  refine ⟨k, h2, ?_, h3, h4⟩
  have h256 := hm.1
  unfold F34_queue_Past F72_queue_nonces
  rw [(check_val hl).1 hm]
  simp only [Option.bind_some]
  rw [if_neg (by simp), h1]
  simp only [Option.bind_some, Int.toNat_natCast]
  rw [if_pos (by omega), clone_val (by simp; omega)]
  simp only [Option.bind_some]
  rw [if_pos (by omega), clone_val (by simp; omega)]
  rfl
theorem may_drop {l : GLine} (hm : May l) (k : Nat) : May ⟨l.From, l.Txs.drop k⟩ :=
  ⟨by have := hm.1; simp; omega, fun x hx => hm.2.1 x (List.mem_of_mem_drop hx), inc_drop hm.2.2 k⟩
theorem ready_ok {l : GLine} (hl : LineOk l) (hm : May l) {n : Int} (hn : 0 ≤ n ∧ n < 18446744073709551616) : ∃ (k : Nat) (r : List GTx), F35_queue_Ready 1000 l n = some (r, 0) ∧ k ≤ l.Txs.length ∧ (∀ i x, l.Txs[i]? = some x → i < k → x.Nonce < n) ∧ (∀ i x, l.Txs[i]? = some x → k ≤ i → n ≤ x.Nonce) ∧
    r.length ≤ l.Txs.length - k ∧ (∀ i, i < r.length → r[i]? = l.Txs[k + i]? ∧ ∃ x, r[i]? = some x ∧ x.Nonce = n + i) ∧ (∀ x, l.Txs[k + r.length]? = some x → x.Nonce ≠ n + r.length) := by
  obtain ⟨k, h1, h2, h3, h4⟩ := ahead_ok hm.2.2 hm.1 n
  have h256 := hm.1
  obtain ⟨b, hb, hP⟩ : ∃ b, loopF (fun (z : Int × Int × List GTx) => F35_queue_Ready_s0 (l, n) (k : Int) z.1 z.2.1 z.2.2) 1000 ((0 : Int), n, ([] : List GTx)) = some b ∧
      ∃ r : List GTx, (Sum.elim (fun j : Int × List GTx => j.2) (fun j : Int × List GTx => j.2) b) = r ∧ r.length ≤ l.Txs.length - k ∧ (∀ i, i < r.length → r[i]? = l.Txs[k + i]? ∧ ∃ x, r[i]? = some x ∧ x.Nonce = n + i) ∧ (∀ x, l.Txs[k + r.length]? = some x → x.Nonce ≠ n + r.length) := by
    refine loop_ok (fun z : Int × Int × List GTx => z.1 = (z.2.2.length : Int) ∧ z.2.2.length ≤ l.Txs.length - k ∧ z.2.1 = IntKind.u64.wrap (n + z.2.2.length) ∧ (∀ i, i < z.2.2.length → z.2.2[i]? = l.Txs[k + i]? ∧ ∃ x, z.2.2[i]? = some x ∧ x.Nonce = n + i)) (fun z => (l.Txs.length - z.1).toNat) _ ?_ 1000 _
      ⟨rfl, by simp, by simp; rw [wu64 hn.1 hn.2], fun i hi => by simp at hi⟩ (by simp; omega)
    rintro ⟨i, nc, out⟩ ⟨e1, e2, e3, e4⟩
    simp only at e1 e2 e3 e4 ⊢
    subst e1
    unfold F35_queue_Ready_s0
    simp only [Int.toNat_natCast, List.length_drop]
    by_cases hi : out.length < l.Txs.length - k
    · rw [if_pos (by simp; omega), rd_nat, List.getElem?_drop]
      have hlt : k + out.length < l.Txs.length := by omega
      have hx : l.Txs[k + out.length]? = some l.Txs[k + out.length] := List.getElem?_eq_getElem hlt
      rw [hx]
      simp only [Option.bind_some]
      generalize l.Txs[k + out.length] = x at hx
      have hxr := (hl.txs x (List.mem_of_getElem? hx)).nonce
      have hge := h4 _ x hx (by omega)
      have hbound : out.length = 0 ∨ n + out.length ≤ x.Nonce := by
        by_cases h0 : out.length = 0
        · exact .inl h0
        · obtain ⟨q1, y, q2, q3⟩ := e4 (out.length - 1) (by omega)
          rw [q2] at q1
          have := inc_at hm.2.2 q1.symm hx (by omega)
          exact .inr (by omega)
      have hw : IntKind.u64.wrap (n + out.length) = n + out.length := wu64 (by omega) (by omega)
      rw [hw] at e3
      subst e3
      by_cases he : x.Nonce = n + out.length
      · rw [if_neg (by simp [he]), if_pos (by simp; omega)]
        simp only [Option.bind_some, Bool.not_true, Bool.false_eq_true, if_false, StepOk]
        rw [wi64 (by omega) (by omega)]
        refine ⟨⟨by simp, by simp; omega, by simp [Int.add_assoc], fun j hj => ?_⟩, by omega⟩
        simp only [List.length_append, List.length_cons, List.length_nil] at hj
        by_cases hjo : j < out.length
        · rw [List.getElem?_append_left hjo]; exact e4 j hjo
        · have : j = out.length := by omega
          subst this
          rw [List.getElem?_append_right (Nat.le_refl _), Nat.sub_self]
          exact ⟨hx.symm, x, rfl, he⟩
      · rw [if_pos (by simp [he])]
        simp only [Option.bind_some, if_true, StepOk, Sum.elim_inr]
        exact ⟨out, rfl, e2, e4, fun y hy => by rw [hx] at hy; cases hy; exact he⟩
    · rw [if_neg (by simp; omega)]
      simp only [StepOk, Sum.elim_inl]
      exact ⟨out, rfl, e2, e4, fun y hy => by have := (List.getElem?_eq_some_iff.1 hy).1; omega⟩
  obtain ⟨r, hr, p1, p2, p3⟩ := hP
  refine ⟨k, r, ?_, h2, h3, h4, p1, p2, p3⟩
  unfold F35_queue_Ready F75_queue_run F72_queue_nonces
  rw [(check_val hl).1 hm]
  simp only [Option.bind_some]
  rw [if_neg (by simp), h1]
  simp only [Option.bind_some]
  rw [if_pos (by omega), hb]
  simp only [Option.bind_some]
  rcases b with b | b <;> (simp only [Sum.elim_inl, Sum.elim_inr] at hr ⊢; rw [hr])
end Go.Proofs.YtonfljoibcnlgaaGreatDoor
namespace Go.Proofs.YtonfljoibcnlgaaGreatDoor
open Bd Go
def zl : GLine := ⟨List.replicate 32 (0 : Int), []⟩
def Takes (l : GLine) (x : GTx) (P S old : List GTx) : Prop :=
  F44_queue_Put 1000 l x = some (⟨l.From, P ++ x :: S⟩, old, 0) ∧ l.Txs = P ++ old ++ S ∧ (old = [] ∨ ∃ y, old = [y] ∧ y.Nonce = x.Nonce ∧ y.Fee < x.Fee) ∧ (∀ z ∈ P, z.Nonce < x.Nonce) ∧ (∀ z ∈ S, x.Nonce < z.Nonce)
theorem ins_val {k : Nat} {l : List GTx} {x : GTx} (hk : k ≤ l.length) (hl : l.length ≤ 250) : F91_Insert 1000 (k : Int) l [x] = some (l.take k ++ [x] ++ l.drop k) := by
  unfold F91_Insert
  rw [if_pos ⟨by omega, by omega, rfl, by simp; omega⟩, Int.toNat_natCast]
theorem put_own {l : GLine} (hl : LineOk l) (hm : May l) {x : GTx} (hx : TxOk x) (ho : own x l.From = true) (hlen : l.Txs.length ≤ 250) :
    (∃ y ∈ l.Txs, y.Nonce = x.Nonce ∧ x.Fee ≤ y.Fee ∧ F44_queue_Put 1000 l x = some (zl, [], 190)) ∨ ∃ P S old, Takes l x P S old := by
  obtain ⟨k, h1, h2, h3, h4⟩ := ahead_ok hm.2.2 hm.1 x.Nonce
  have hP : ∀ z ∈ l.Txs.take k, z.Nonce < x.Nonce := fun z hz => by
    obtain ⟨i, hi⟩ := List.getElem?_of_mem hz
    rw [List.getElem?_take] at hi
    split at hi
    · exact h3 i z hi (by omega)
    · cases hi
  have hput : F44_queue_Put 1000 l x = (((if (decide ((k : Int) < ((l.Txs).length : Int))) = true then ((rd l.Txs (k : Int)).bind fun (x14 : GTx) => some (x14.Nonce == x.Nonce)) else some false)).bind fun (o17 : Bool) => (if o17 = true then ((rd l.Txs (k : Int)).bind fun (x19 : GTx) => (if (decide (x.Fee ≤ x19.Fee)) = true then some (zl, [], (190 : Int)) else ((rd l.Txs (k : Int)).bind fun (_ : GTx) => ((rd l.Txs (k : Int)).bind fun (x26 : GTx) => some ((⟨l.From, (l.Txs.set (0 + ((k : Int)).toNat) x)⟩ : GLine), ([x26] : List GTx), (0 : Int)))))) else (if (((l.Txs).length : Int) == (256 : Int)) = true then some (zl, [], (9 : Int)) else ((F91_Insert 1000 (k : Int) l.Txs ([x] : List GTx)).bind fun (y30 : List GTx) => some ((⟨l.From, y30⟩ : GLine), [], (0 : Int)))))) := by
    unfold F44_queue_Put F72_queue_nonces F69_queue_Twin
    rw [(check_val hl).1 hm, own_val hx, ho, clone_val (by omega)]
    simp only [Option.bind_some]
    rw [if_neg (by decide), if_neg (by decide), h1]
    rfl
  have hins : k ≤ l.Txs.length → (∀ z ∈ l.Txs.drop k, x.Nonce < z.Nonce) → F44_queue_Put 1000 l x = some (⟨l.From, l.Txs.take k ++ [x] ++ l.Txs.drop k⟩, [], 0) → ∃ P S old, Takes l x P S old := fun _ hS he =>
    ⟨l.Txs.take k, l.Txs.drop k, [], by rw [he]; simp, by simp, .inl rfl, hP, hS⟩
  by_cases hk : k < l.Txs.length
  · obtain ⟨y, hy⟩ : ∃ y, l.Txs[k]? = some y := ⟨_, List.getElem?_eq_getElem hk⟩
    have hge := h4 k y hy (Nat.le_refl _)
    rw [if_pos (by simpa using hk), rd_nat, hy] at hput
    simp only [Option.bind_some] at hput
    have hym := List.mem_of_getElem? hy
    by_cases he : y.Nonce = x.Nonce
    · rw [if_pos (by simpa using he)] at hput
      by_cases hf : x.Fee ≤ y.Fee
      · rw [if_pos (by simpa using hf)] at hput
        exact .inl ⟨y, hym, he, hf, hput⟩
      · rw [if_neg (by simpa using hf)] at hput
        refine .inr ⟨l.Txs.take k, l.Txs.drop (k + 1), [y], ?_, ?_, .inr ⟨y, rfl, he, by omega⟩, hP, fun z hz => ?_⟩
        · rw [hput, Nat.zero_add, Int.toNat_natCast, List.set_eq_take_append_cons_drop, if_pos hk]
        · have := (List.getElem?_eq_some_iff.1 hy).2
          rw [← this, List.append_assoc, List.singleton_append, List.getElem_cons_drop, List.take_append_drop]
        · obtain ⟨i, hi⟩ := List.getElem?_of_mem hz
          rw [List.getElem?_drop] at hi
          have := inc_at hm.2.2 hy hi (by omega)
          omega
    · rw [if_neg (by simpa using he), if_neg (by simp; omega), ins_val (by omega) hlen] at hput
      refine .inr (hins (by omega) (fun z hz => ?_) hput)
      obtain ⟨i, hi⟩ := List.getElem?_of_mem hz
      rw [List.getElem?_drop] at hi
      by_cases hi0 : i = 0
      · subst hi0
        rw [Nat.add_zero, hy] at hi; cases hi
        omega
      · have := inc_at hm.2.2 hy hi (by omega)
        omega
  · rw [if_neg (by simpa using hk)] at hput
    simp only [Option.bind_some] at hput
    rw [if_neg (by decide), if_neg (by simp; omega), ins_val (by omega) hlen] at hput
    refine .inr (hins (by omega) (fun z hz => ?_) hput)
    rw [List.drop_eq_nil_of_le (by omega)] at hz
    cases hz
theorem takes_may {l : GLine} {x : GTx} {P S old : List GTx} (hm : May l) (hlen : l.Txs.length ≤ 250) (ho : own x l.From = true) (h : Takes l x P S old) : May ⟨l.From, P ++ x :: S⟩ := by
  obtain ⟨_, h1, h2, h3, h4⟩ := h
  have hmem : ∀ z, z ∈ P ∨ z ∈ S → z ∈ l.Txs := fun z hz => by rw [h1]; simp; rcases hz with h | h <;> simp [h]
  have hl : l.Txs.length = P.length + old.length + S.length := by rw [h1]; simp [Nat.add_assoc]
  refine ⟨by simp; omega, fun z hz => ?_, ?_⟩
  · rcases List.mem_append.1 hz with hz | hz
    · exact hm.2.1 z (hmem z (.inl hz))
    · rcases List.mem_cons.1 hz with rfl | hz
      · exact ho
      · exact hm.2.1 z (hmem z (.inr hz))
  · have hinc := hm.2.2
    unfold Inc at hinc ⊢
    rw [h1, List.append_assoc] at hinc
    obtain ⟨a1, a2, a3⟩ := List.pairwise_append.1 hinc
    obtain ⟨b1, b2, b3⟩ := List.pairwise_append.1 a2
    refine List.pairwise_append.2 ⟨a1, List.pairwise_cons.2 ⟨h4, b2⟩, fun p hp q hq => ?_⟩
    rcases List.mem_cons.1 hq with rfl | hq
    · exact h3 p hp
    · exact a3 p hp q (by simp [hq])
theorem takes_line {l : GLine} {x : GTx} {P S old : List GTx} (hl : LineOk l) (hx : TxOk x) (h : Takes l x P S old) : LineOk ⟨l.From, P ++ x :: S⟩ := by
  obtain ⟨_, h1, h2, h3, h4⟩ := h
  refine ⟨hl.from_, fun z hz => ?_⟩
  rcases List.mem_append.1 hz with hz | hz
  · exact hl.txs z (by rw [h1]; simp [hz])
  · rcases List.mem_cons.1 hz with rfl | hz
    · exact hx
    · exact hl.txs z (by rw [h1]; simp [hz])
theorem tx_check {x : GTx} (hx : TxOk x) : F43_tx_Check 1000 x = some (if x.Sign = sg x then 0 else 110) := by
  unfold F43_tx_Check
  rw [(sg_val hx.pub hx.to).1]
  simp only [Option.bind_some]
  by_cases h : x.Sign = sg x <;> simp [h]
theorem tx_from {x : GTx} (hx : TxOk x) : F27_tx_From 1000 x = some (ky x.Pub) := by
  unfold F27_tx_From
  rw [(ky_val hx.pub).1]
  rfl
end Go.Proofs.YtonfljoibcnlgaaGreatDoor
namespace Go.Proofs.YtonfljoibcnlgaaGreatDoor
open Bd Go
structure ShOk (ls : List GLine) : Prop where
  line : ∀ l ∈ ls, LineOk l
  dig : ∀ l ∈ ls, Dig l.From
structure LineD (l : GLine) : Prop where
  dig : Dig l.From
  txs : ∀ x ∈ l.Txs, TxD x
theorem LineD.ok {l : GLine} (h : LineD l) : LineOk l := ⟨h.dig.1, fun x hx => (h.txs x hx).ok⟩
def ShD (ls : List GLine) : Prop := ∀ l ∈ ls, LineD l
theorem shok_of {ls : List GLine} (h : ShD ls) : ShOk ls := ⟨fun l hl => (h l hl).ok, fun l hl => (h l hl).dig⟩
def Srt (ls : List GLine) : Prop := ls.Pairwise fun a b => lt a.From b.From = true
def MayS (ls : List GLine) : Prop := (∀ l ∈ ls, l.Txs ≠ [] ∧ May l) ∧ Srt ls
def cnt (ls : List GLine) : Nat := (ls.map fun l => l.Txs.length).sum
def lineOf (ls : List GLine) (f : List Int) : GLine := (ls.find? fun l => decide (l.From = f)).getD ⟨f, []⟩
theorem srt_snoc {ls : List GLine} {k : Nat} {x : GLine} (hd : ∀ l ∈ ls, Dig l.From) (h : Srt (ls.take k)) (hx : ls[k]? = some x) (hl : k = 0 ∨ ∃ y, ls[k - 1]? = some y ∧ lt y.From x.From = true) : Srt (ls.take (k + 1)) := by
  rw [take_succ hx]
  refine List.pairwise_append.2 ⟨h, List.pairwise_singleton _ _, fun a ha b hb => ?_⟩
  simp only [List.mem_singleton] at hb; subst hb
  rcases hl with rfl | ⟨y, hy, hyx⟩
  · simp at ha
  · cases k with
    | zero => simp at ha
    | succ k =>
      simp only [Nat.add_sub_cancel] at hy
      have hal : a ∈ ls := List.mem_of_mem_take ha
      rw [take_succ hy] at h ha
      rcases List.mem_append.1 ha with ha | ha
      · exact lt_trans (hd a hal) (hd y (List.mem_of_getElem? hy)) (hd b (List.mem_of_getElem? hx)) ((List.pairwise_append.1 h).2.2 a ha y (by simp)) hyx
      · simp only [List.mem_singleton] at ha; subst ha; exact hyx
theorem srt_at {l : List GLine} (h : Srt l) {i j : Nat} {x y : GLine} (hi : l[i]? = some x) (hj : l[j]? = some y) (hij : i < j) : lt x.From y.From = true := by
  obtain ⟨hi', rfl⟩ := List.getElem?_eq_some_iff.1 hi
  obtain ⟨hj', rfl⟩ := List.getElem?_eq_some_iff.1 hj
  exact List.pairwise_iff_getElem.1 h i j hi' hj' hij
theorem shcheck_val {ls : List GLine} (hs : ShOk ls) (hlen : ls.length ≤ 290) : (MayS ls → F30_shard_Check 1000 ⟨ls⟩ = some 0) ∧ (¬ MayS ls → F30_shard_Check 1000 ⟨ls⟩ = some 8) := by
  unfold F30_shard_Check
  obtain ⟨b, hb, hP⟩ : ∃ b, loopF (fun z => F30_shard_Check_s0 1000 ⟨ls⟩ z) 1000 (0 : Int) = some b ∧ ((b = .inl () → MayS ls) ∧ (b = .inr () → ¬ MayS ls)) := by
    refine loop_ok (fun z => ∃ k : Nat, z = (k : Int) ∧ k ≤ ls.length ∧ (∀ l ∈ ls.take k, l.Txs ≠ [] ∧ May l) ∧ Srt (ls.take k)) (fun z => (ls.length - z).toNat) (fun b : Unit ⊕ Unit => (b = .inl () → MayS ls) ∧ (b = .inr () → ¬ MayS ls)) ?_ 1000 _ ⟨0, rfl, by omega, by simp, by simp [Srt]⟩ (by simp; omega)
    rintro z ⟨k, rfl, hk, hall, hsrt⟩
    unfold F30_shard_Check_s0
    simp only
    by_cases hi : k < ls.length
    · rw [if_pos (by simpa using hi)]
      obtain ⟨x, hx⟩ : ∃ x, ls[k]? = some x := ⟨_, List.getElem?_eq_getElem hi⟩
      rw [rd_nat, hx]
      simp only [Option.bind_some]
      have hxm := List.mem_of_getElem? hx
      by_cases h0 : x.Txs = []
      · rw [if_pos (by simp [h0])]
        simp only [Option.bind_some, if_true, StepOk]
        exact ⟨by simp, fun _ hm => (hm.1 x hxm).1 h0⟩
      · rw [if_neg (by simpa using h0)]
        by_cases hm : May x
        · rw [(check_val (hs.line x hxm)).1 hm]
          simp only [Option.bind_some]
          rw [if_neg (by simp)]
          by_cases hk0 : k = 0
          · subst hk0
            simp only [Int.natCast_zero, gt_iff_lt, Int.lt_irrefl, decide_false, Bool.false_eq_true, if_false, Option.bind_some, StepOk]
            rw [wi64 (by omega) (by omega)]
            refine ⟨⟨1, rfl, by omega, ?_, srt_snoc hs.dig hsrt hx (.inl rfl)⟩, by omega⟩
            rw [take_succ hx]; intro y hy; simp at hy; subst hy; exact ⟨h0, hm⟩
          · rw [if_pos (by simp; omega), wi64 (by omega) (by omega), show (k : Int) - 1 = ((k - 1 : Nat) : Int) from by omega, rd_nat]
            obtain ⟨y, hy⟩ : ∃ y, ls[k - 1]? = some y := ⟨_, List.getElem?_eq_getElem (by omega)⟩
            rw [hy]
            simp only [Option.bind_some]
            rw [lt_val (hs.dig y (List.mem_of_getElem? hy)) (hs.dig x hxm)]
            simp only [Option.bind_some]
            cases hl : lt y.From x.From with
            | false =>
              simp only [Bool.not_false, if_true, StepOk]
              refine ⟨by simp, fun _ hM => ?_⟩
              have := srt_at hM.2 hy hx (by omega)
              rw [hl] at this; cases this
            | true =>
              simp only [Bool.not_true, Bool.false_eq_true, if_false, StepOk]
              rw [wi64 (by omega) (by omega)]
              refine ⟨⟨k + 1, by omega, by omega, ?_, srt_snoc hs.dig hsrt hx (.inr ⟨y, hy, hl⟩)⟩, by omega⟩
              rw [take_succ hx]
              intro z hz
              rcases List.mem_append.1 hz with hz | hz
              · exact hall z hz
              · simp only [List.mem_singleton] at hz; subst hz; exact ⟨h0, hm⟩
        · rw [(check_val (hs.line x hxm)).2 hm]
          simp only [Option.bind_some]
          rw [if_pos (by simp)]
          simp only [Option.bind_some, if_true, StepOk]
          exact ⟨by simp, fun _ hM => hm (hM.1 x hxm).2⟩
    · rw [if_neg (by simpa using hi)]
      have hk' : k = ls.length := by omega
      subst hk'
      rw [List.take_length] at hall hsrt
      exact ⟨fun _ => ⟨hall, hsrt⟩, by simp⟩
  rw [hb]
  simp only [Option.bind_some]
  rcases b with ⟨⟩ | ⟨⟩
  · exact ⟨fun _ => rfl, fun h => absurd (hP.1 rfl) h⟩
  · exact ⟨fun h => absurd h (hP.2 rfl), fun _ => rfl⟩
theorem cnt_append (a b : List GLine) : cnt (a ++ b) = cnt a + cnt b := by simp [cnt]
theorem cnt_one (l : GLine) : cnt [l] = l.Txs.length := by simp [cnt]
theorem cnt_take_le (ls : List GLine) (k : Nat) : cnt (ls.take k) ≤ cnt ls := by
  conv => rhs; rw [← List.take_append_drop k ls, cnt_append]
  omega
theorem count_val {ls : List GLine} (hlen : ls.length ≤ 290) (hc : cnt ls ≤ 100000) : F98_shard_Count 1000 ⟨ls⟩ = some (cnt ls : Int) := by
  unfold F98_shard_Count
  obtain ⟨b, hb, rfl⟩ : ∃ b, loopF (fun z : Int × Int => F98_shard_Count_s0 ⟨ls⟩ z.1 z.2) 1000 ((0 : Int), (0 : Int)) = some b ∧ b = (cnt ls : Int) := by
    refine loop_ok (fun z => ∃ k : Nat, z = ((cnt (ls.take k) : Int), (k : Int)) ∧ k ≤ ls.length) (fun z => (ls.length - z.2).toNat) (fun b : Int => b = (cnt ls : Int)) ?_ 1000 _ ⟨0, rfl, by omega⟩ (by simp; omega)
    rintro z ⟨k, rfl, hk⟩
    unfold F98_shard_Count_s0
    simp only
    by_cases hi : k < ls.length
    · rw [if_pos (by simpa using hi)]
      obtain ⟨x, hx⟩ : ∃ x, ls[k]? = some x := ⟨_, List.getElem?_eq_getElem hi⟩
      rw [rd_nat, hx]
      simp only [Option.bind_some, StepOk]
      have h1 := cnt_take_le ls (k + 1)
      have h2 : cnt (ls.take (k + 1)) = cnt (ls.take k) + x.Txs.length := by rw [take_succ hx, cnt_append, cnt_one]
      rw [wi64 (by omega) (by omega), wi64 (by omega) (by omega)]
      exact ⟨⟨k + 1, by rw [h2]; simp, by omega⟩, by omega⟩
    · rw [if_neg (by simpa using hi)]
      have hk' : k = ls.length := by omega
      subst hk'
      rw [List.take_length]; exact rfl
  rw [hb]; rfl
def cm (ls : List GLine) : Nat := (ls.map fun l => min 100 l.Txs.length).sum
theorem cm_cnt : ∀ {ls : List GLine}, cm ls < 100 → cnt ls = cm ls
  | [], _ => rfl
  | l :: ls, h => by
    have h1 : cm (l :: ls) = min 100 l.Txs.length + cm ls := by simp [cm]
    have h2 : cnt (l :: ls) = l.Txs.length + cnt ls := by simp [cnt]
    have := cm_cnt (ls := ls) (by omega)
    omega
theorem cm_le (ls : List GLine) : cm ls ≤ 100 * ls.length := by
  induction ls with
  | nil => simp [cm]
  | cons l ls ih =>
    have h1 : cm (l :: ls) = min 100 l.Txs.length + cm ls := by simp [cm]
    simp only [List.length_cons]; omega
theorem great_val (ls : List GLine) : ∃ b, F6_beadrollref20_Great 1000 ⟨ls⟩ = some b ∧ (b = false → ls.length ≤ 6 ∧ cnt ls ≤ 20) := by
  unfold F6_beadrollref20_Great
  refine bP (S := fun o => ∃ b, o = some b ∧ (b = false → ls.length ≤ 6 ∧ cnt ls ≤ 20)) (Q := fun b : Int => ls.length ≤ 6 → b = (cm ls : Int)) ?_ fun b hb => ?_
  · refine loop_ok (fun z => ∃ k : Nat, z = ((cm (ls.take k) : Int), (k : Int)) ∧ k ≤ ls.length ∧ k ≤ 20) (fun z => (20 - z.2).toNat) _ ?_ 1000 _ ⟨0, rfl, by omega, by omega⟩ (by simp)
    rintro z ⟨k, rfl, hk, hk2⟩
    unfold F6_beadrollref20_Great_s0
    simp only
    by_cases hi : k < ls.length ∧ k < 20
    · rw [if_pos (by simpa using hi.1)]
      simp only [Option.bind_some]
      rw [if_pos (by have := hi.2; simp; omega)]
      obtain ⟨x, hx⟩ : ∃ x, ls[k]? = some x := ⟨_, List.getElem?_eq_getElem hi.1⟩
      rw [rd_nat, hx]
      simp only [Option.bind_some, StepOk]
      have h2 : cm (ls.take (k + 1)) = cm (ls.take k) + min 100 x.Txs.length := by rw [take_succ hx]; simp [cm]
      have h3 := cm_le (ls.take k)
      have h4 : (ls.take k).length ≤ 20 := by simp; omega
      have h5 : (if (100 : Int) < (x.Txs.length : Int) then (100 : Int) else (x.Txs.length : Int)) = ((min 100 x.Txs.length : Nat) : Int) := by split <;> omega
      rw [h5, wi64 (by omega) (by omega), wi64 (by omega) (by omega)]
      exact ⟨⟨k + 1, by rw [h2]; simp, by omega, by omega⟩, by omega⟩
    · have he : ((if decide ((k : Int) < (ls.length : Int)) = true then some (decide ((k : Int) < (20 : Int))) else some false) : Option Bool) = some false := by
        by_cases h1 : k < ls.length
        · rw [if_pos (by simpa using h1)]
          have : ¬ k < 20 := fun h => hi ⟨h1, h⟩
          simp; omega
        · rw [if_neg (by simpa using h1)]
      rw [he]
      simp only [Option.bind_some, Bool.false_eq_true, if_false, StepOk]
      intro h6
      have : k = ls.length := by omega
      subst this; rw [List.take_length]
  · by_cases h6 : ls.length ≤ 6
    · rw [if_neg (by simp; omega)]
      refine ⟨_, rfl, fun hf => ⟨h6, ?_⟩⟩
      have := hb h6
      subst this
      have h20 : cm ls ≤ 20 := by
        have hf' : ((cm ls : Int) ≤ 20) := by simpa using hf
        omega
      rw [cm_cnt (by omega)]; exact h20
    · rw [if_pos (by simp; omega)]
      exact ⟨true, rfl, by simp⟩
theorem mem_cnt {ls : List GLine} {l : GLine} (h : l ∈ ls) : l.Txs.length ≤ cnt ls := by
  obtain ⟨a, b, rfl⟩ := List.append_of_mem h
  rw [cnt_append]
  have : cnt (l :: b) = l.Txs.length + cnt b := by simp [cnt]
  omega
theorem clone_val' {l : List GTx} (h : l.length ≤ 1073741824) : F74_Clone 1000 l = some l := by unfold F74_Clone; rw [if_pos h]
theorem shtwin_val {ls : List GLine} (hlen : ls.length ≤ 290) (hc : cnt ls ≤ 100000) : F32_shard_Twin 1000 ⟨ls⟩ = some ls := by
  unfold F32_shard_Twin F68_Clone
  rw [if_pos (by simp only; omega)]
  simp only [Option.bind_some]
  obtain ⟨b, hb, rfl⟩ : ∃ b, loopF (fun z : Int × List GLine => F32_shard_Twin_s0 1000 ls z.1 z.2) 1000 ((0 : Int), ls) = some b ∧ b = ls := by
    refine loop_ok (fun z => ∃ k : Nat, z = ((k : Int), ls) ∧ k ≤ ls.length) (fun z => (ls.length - z.1).toNat) (fun b : List GLine => b = ls) ?_ 1000 _ ⟨0, rfl, by omega⟩ (by simp; omega)
    rintro z ⟨k, rfl, hk⟩
    unfold F32_shard_Twin_s0
    simp only
    by_cases hi : k < ls.length
    · rw [if_pos (by simpa using hi), rd_nat]
      obtain ⟨x, hx⟩ : ∃ x, ls[k]? = some x := ⟨_, List.getElem?_eq_getElem hi⟩
      rw [hx]
      simp only [Option.bind_some]
      have hxc := mem_cnt (List.mem_of_getElem? hx)
      unfold F69_queue_Twin
      rw [clone_val' (by omega)]
      simp only [Option.bind_some, StepOk]
      rw [wi64 (by omega) (by omega)]
      refine ⟨⟨k + 1, ?_, by omega⟩, by omega⟩
      have hset : ls.set k x = ls := by
        obtain ⟨h1, h2⟩ := List.getElem?_eq_some_iff.1 hx
        rw [← h2]; simp
      simp [hset]
    · rw [if_neg (by simpa using hi)]
      exact rfl
  rw [hb]; rfl
end Go.Proofs.YtonfljoibcnlgaaGreatDoor
namespace Go.Proofs.YtonfljoibcnlgaaGreatDoor
open Bd Go
theorem drop_cons' {α : Type} {a : List α} {m : Nat} {x : α} (h : a[m]? = some x) : a.drop m = x :: a.drop (m + 1) := by
  obtain ⟨h1, h2⟩ := List.getElem?_eq_some_iff.1 h
  rw [List.drop_eq_getElem_cons h1, h2]
theorem idx_val {ls : List GLine} (hd : ∀ l ∈ ls, Dig l.From) {f : List Int} (hf : Dig f) (hlen : ls.length ≤ 290) :
    ∃ k : Nat, k ≤ ls.length ∧ (∀ i x, ls[i]? = some x → i < k → lt x.From f = true) ∧ ((k = ls.length ∧ F117_api_Line_250 1000 ls f = some (-1)) ∨ (F117_api_Line_250 1000 ls f = some (k : Int) ∧ ∃ x, ls[k]? = some x ∧ lt x.From f = false)) := by
  unfold F117_api_Line_250
  obtain ⟨b, hb, hP⟩ : ∃ b, loopF (fun z => F117_api_Line_250_s0 1000 ls f z) 1000 (0 : Int) = some b ∧ ∃ k : Nat, k ≤ ls.length ∧ (∀ i x, ls[i]? = some x → i < k → lt x.From f = true) ∧ ((k = ls.length ∧ b = .inl ()) ∨ (b = .inr (k : Int) ∧ ∃ x, ls[k]? = some x ∧ lt x.From f = false)) := by
    refine loop_ok (fun z => ∃ k : Nat, z = (k : Int) ∧ k ≤ ls.length ∧ (∀ i x, ls[i]? = some x → i < k → lt x.From f = true)) (fun z => (ls.length - z).toNat) _ ?_ 1000 _ ⟨0, rfl, by omega, fun i x _ h => by omega⟩ (by simp; omega)
    rintro z ⟨k, rfl, hk, hall⟩
    unfold F117_api_Line_250_s0 F118_shard_part_find_1_9b6
    by_cases hi : k < ls.length
    · rw [if_pos (by simpa using hi)]
      obtain ⟨x, hx⟩ : ∃ x, ls[k]? = some x := ⟨_, List.getElem?_eq_getElem hi⟩
      rw [rd_nat, hx]
      simp only [Option.bind_some]
      rw [lt_val (hd x (List.mem_of_getElem? hx)) hf]
      simp only [Option.bind_some]
      cases hl : lt x.From f with
      | false =>
        simp only [Bool.not_false, if_true, StepOk]
        exact ⟨k, hk, hall, .inr ⟨rfl, x, hx, hl⟩⟩
      | true =>
        simp only [Bool.not_true, Bool.false_eq_true, if_false, StepOk]
        rw [wi64 (by omega) (by omega)]
        refine ⟨⟨k + 1, by omega, by omega, fun i y hy hik => ?_⟩, by omega⟩
        by_cases e : i = k
        · subst e; rw [hx] at hy; cases hy; exact hl
        · exact hall i y hy (by omega)
    · rw [if_neg (by simpa using hi)]
      exact ⟨k, hk, hall, .inl ⟨by omega, rfl⟩⟩
  rw [hb]
  simp only [Option.bind_some]
  obtain ⟨k, h1, h2, h3⟩ := hP
  refine ⟨k, h1, h2, ?_⟩
  rcases h3 with ⟨e, rfl⟩ | ⟨rfl, h⟩
  · exact .inl ⟨e, rfl⟩
  · exact .inr ⟨rfl, h⟩
structure About (ls : List GLine) (f : List Int) (P M S : List GLine) : Prop where
  eq : ls = P ++ M ++ S
  ahead : ∀ l ∈ P, lt l.From f = true
  behind : ∀ l ∈ S, lt f l.From = true
  own : M = [] ∨ ∃ y, M = [y] ∧ y.From = f
theorem about {ls : List GLine} (hd : ∀ l ∈ ls, Dig l.From) (hs : Srt ls) {f : List Int} (hf : Dig f) (hlen : ls.length ≤ 290) :
    ∃ P M S, About ls f P M S ∧ F76_shard_part_find_a8c 1000 f ls = some ((P.length : Int), !M.isEmpty) := by
  obtain ⟨k, h1, h2, h3⟩ := idx_val hd hf hlen
  have hP : ∀ l ∈ ls.take k, lt l.From f = true := fun l hl => by
    obtain ⟨i, hi⟩ := List.getElem?_of_mem hl
    rw [List.getElem?_take] at hi
    split at hi
    · exact h2 i l hi (by omega)
    · cases hi
  unfold F76_shard_part_find_a8c
  rcases h3 with ⟨rfl, h⟩ | ⟨h, x, hx, hlt⟩
  · rw [List.take_length] at hP
    refine ⟨ls, [], [], ⟨by simp, hP, by simp, .inl rfl⟩, ?_⟩
    rw [h]
    simp only [Option.bind_some]
    rw [if_pos (by decide)]; rfl
  · have hxm := List.mem_of_getElem? hx
    have hk : k < ls.length := (List.getElem?_eq_some_iff.1 hx).1
    have hdrop : ls.drop k = x :: ls.drop (k + 1) := drop_cons' hx
    have hS : ∀ l ∈ ls.drop (k + 1), lt x.From l.From = true := fun l hl => by
      obtain ⟨i, hi⟩ := List.getElem?_of_mem hl
      rw [List.getElem?_drop] at hi
      exact srt_at hs hx hi (by omega)
    rw [h]
    simp only [Option.bind_some]
    rw [if_neg (by simp), rd_nat, hx]
    simp only [Option.bind_some]
    have hlen' : ((ls.take k).length : Int) = (k : Int) := by rw [List.length_take]; omega
    by_cases he : x.From = f
    · refine ⟨ls.take k, [x], ls.drop (k + 1), ⟨?_, hP, fun l hl => he ▸ hS l hl, .inr ⟨x, rfl, he⟩⟩, by rw [hlen']; simp [he]⟩
      rw [List.append_assoc, List.singleton_append, ← hdrop, List.take_append_drop]
    · have hfx : lt f x.From = true := by
        cases hc : lt f x.From with
        | true => rfl
        | false => exact absurd (lt_eq (hd x hxm) hf hlt hc) he
      refine ⟨ls.take k, [], ls.drop k, ⟨by simp, hP, fun l hl => ?_, .inl rfl⟩, by rw [hlen']; simp [he]⟩
      rw [hdrop] at hl
      rcases List.mem_cons.1 hl with rfl | hl
      · exact hfx
      · exact lt_trans hf (hd x hxm) (hd l (List.mem_of_mem_drop hl)) hfx (hS l hl)
theorem find_none {P : List GLine} {f : List Int} (h : ∀ l ∈ P, l.From ≠ f) : (P.find? fun l => decide (l.From = f)) = none := List.find?_eq_none.2 fun l hl => by simpa using h l hl
theorem About.line {ls : List GLine} {f : List Int} {P M S : List GLine} (h : About ls f P M S) : lineOf ls f = (M.head?).getD ⟨f, []⟩ := by
  have hP := find_none (P := P) (f := f) fun l hl => lt_ne (h.ahead l hl)
  have hS := find_none (P := S) (f := f) fun l hl => (lt_ne (h.behind l hl)).symm
  unfold lineOf
  rw [h.eq, List.append_assoc, List.find?_append, hP, List.find?_append, hS]
  rcases h.own with rfl | ⟨y, rfl, hy⟩
  · rfl
  · simp [List.find?, hy]
def setL (P : List GLine) (l : GLine) (S : List GLine) : List GLine := P ++ (if l.Txs = [] then [] else [l]) ++ S
theorem del_val {α : Type} {k : Nat} {P S : List GLine} {y : GLine} (_ : k = P.length) (hl : (P ++ [y] ++ S).length ≤ 1000) : F77_Delete 1000 (k : Int) (IntKind.i64.wrap ((k : Int) + 1)) (P ++ [y] ++ S) = some (P ++ S) := by
  subst k
  have hl' : P.length + 1 + S.length ≤ 1000 := by simp at hl; omega
  unfold F77_Delete
  rw [wi64 (by omega) (by omega), if_pos ⟨by omega, by omega, by simp; omega, by simp; omega⟩]
  congr 1
  have e : ((P.length : Int) + 1).toNat = P.length + 1 := by omega
  rw [e, Int.toNat_natCast]
  simp [List.take_append, List.drop_append]
theorem ins122_val {k : Nat} {l : List GLine} {x : GLine} (hk : k ≤ l.length) (hl : l.length ≤ 1000) : F78_Insert 1000 (k : Int) l [x] = some (l.take k ++ [x] ++ l.drop k) := by
  unfold F78_Insert
  rw [if_pos ⟨by omega, by omega, rfl, by simp; omega⟩, Int.toNat_natCast]
theorem set_val {ls : List GLine} (hd : ∀ l ∈ ls, Dig l.From) (hs : Srt ls) {l : GLine} (hf : Dig l.From) (hlen : ls.length ≤ 290) :
    ∃ P M S, About ls l.From P M S ∧ F36_shard_part_set_08b 1000 l ls = some (setL P l S) := by
  obtain ⟨P, M, S, hA, h⟩ := about hd hs hf hlen
  refine ⟨P, M, S, hA, ?_⟩
  have hle : P.length + M.length + S.length = ls.length := by rw [hA.eq]; simp [Nat.add_assoc]
  unfold F36_shard_part_set_08b
  rw [h]
  simp only [Option.bind_some]
  rcases hA.own with rfl | ⟨y, rfl, hy⟩
  · simp only [List.isEmpty_nil, Bool.not_true, Bool.false_eq_true, if_false, Option.bind_some]
    by_cases h0 : l.Txs = []
    · rw [if_neg (by simp [h0])]
      simp only [setL, h0, if_true]
      rw [hA.eq]
    · have hpos : 0 < l.Txs.length := List.length_pos_iff.2 h0
      rw [if_pos (by simpa using hpos), ins122_val (by omega) (by omega)]
      simp only [Option.bind_some, setL, h0, if_false]
      rw [hA.eq]; simp
  · simp only [List.isEmpty_cons, Bool.not_false, if_true, Option.bind_some]
    by_cases h0 : l.Txs = []
    · rw [if_pos (by simp [h0])]
      have := del_val (α := Unit) (k := P.length) (P := P) (S := S) (y := y) rfl (by rw [← hA.eq]; omega)
      rw [hA.eq, this]
      simp [setL, h0]
    · rw [if_neg (by simpa using h0)]
      simp only [List.length_cons, List.length_nil] at hle
      rw [rd_nat, hA.eq]
      have : (P ++ [y] ++ S)[P.length]? = some y := by simp
      rw [this]
      simp only [Option.bind_some, setL, h0, if_false, Nat.zero_add, Int.toNat_natCast]
      simp [List.set_append]
theorem line_val {ls : List GLine} (hd : ∀ l ∈ ls, Dig l.From) (hs : Srt ls) {f : List Int} (hf : Dig f) (hlen : ls.length ≤ 290) : F45_shard_part_line_4f5 1000 f ls = some (lineOf ls f) := by
  obtain ⟨P, M, S, hA, h⟩ := about hd hs hf hlen
  unfold F45_shard_part_line_4f5
  rw [h, hA.line]
  simp only [Option.bind_some]
  rcases hA.own with rfl | ⟨y, rfl, hy⟩
  · rfl
  · simp only [List.isEmpty_cons, Bool.not_false, Bool.not_true, Bool.false_eq_true, if_false]
    rw [rd_nat, hA.eq]
    have : (P ++ [y] ++ S)[P.length]? = some y := by simp
    rw [this]; rfl
theorem setL_spec {ls : List GLine} (hd : ∀ l ∈ ls, Dig l.From) (hm : MayS ls) {l : GLine} (hf : Dig l.From) (hl : May l) {P M S : List GLine} (hA : About ls l.From P M S) :
    MayS (setL P l S) ∧ lineOf (setL P l S) l.From = l ∧ (∀ g, g ≠ l.From → lineOf (setL P l S) g = lineOf ls g) ∧ cnt (setL P l S) + (lineOf ls l.From).Txs.length = cnt ls + l.Txs.length ∧ (setL P l S).length ≤ ls.length + 1 ∧
      (∀ x ∈ setL P l S, x = l ∨ x ∈ ls) := by
  have hmem : ∀ x ∈ setL P l S, (x = l ∧ l.Txs ≠ []) ∨ x ∈ P ∨ x ∈ S := fun x hx => by
    unfold setL at hx
    split at hx <;> simp at hx <;> rcases hx with h | h <;> simp_all
    rcases h with h | h <;> simp_all
  have hPls : ∀ x ∈ P, x ∈ ls := fun x hx => by rw [hA.eq]; simp [hx]
  have hSls : ∀ x ∈ S, x ∈ ls := fun x hx => by rw [hA.eq]; simp [hx]
  have hsrt := hm.2
  unfold Srt at hsrt
  rw [hA.eq, List.append_assoc] at hsrt
  obtain ⟨sP, sMS, sPM⟩ := List.pairwise_append.1 hsrt
  obtain ⟨sM, sS, sMS2⟩ := List.pairwise_append.1 sMS
  have hPS : ∀ a ∈ P, ∀ b ∈ S, lt a.From b.From = true := fun a ha b hb => sPM a ha b (by simp [hb])
  have hA2 : About (setL P l S) l.From P (if l.Txs = [] then [] else [l]) S := ⟨rfl, hA.ahead, hA.behind, by split; exact .inl rfl; exact .inr ⟨l, rfl, rfl⟩⟩
  refine ⟨⟨fun x hx => ?_, ?_⟩, ?_, fun g hg => ?_, ?_, ?_, fun x hx => ?_⟩
  · rcases hmem x hx with ⟨rfl, h⟩ | h | h
    · exact ⟨h, hl⟩
    · exact hm.1 x (hPls x h)
    · exact hm.1 x (hSls x h)
  · unfold Srt setL
    rw [List.append_assoc]
    refine List.pairwise_append.2 ⟨sP, List.pairwise_append.2 ⟨by split <;> simp, sS, fun a ha b hb => ?_⟩, fun a ha b hb => ?_⟩
    · split at ha
      · cases ha
      · simp only [List.mem_singleton] at ha; subst ha; exact hA.behind b hb
    · rcases List.mem_append.1 hb with hb | hb
      · split at hb
        · cases hb
        · simp only [List.mem_singleton] at hb; subst hb; exact hA.ahead a ha
      · exact hPS a ha b hb
  · rw [hA2.line]
    split
    · next h => simp only [List.head?_nil, Option.getD_none]; cases l; simp_all
    · rfl
  · unfold lineOf setL
    rw [hA.eq]
    simp only [List.find?_append]
    have e1 : ((if l.Txs = [] then [] else [l]).find? fun l => decide (l.From = g)) = none := find_none fun x hx => by
      split at hx
      · cases hx
      · simp only [List.mem_singleton] at hx; subst hx; exact hg.symm
    have e2 : (M.find? fun l => decide (l.From = g)) = none := find_none fun x hx => by
      rcases hA.own with rfl | ⟨y, rfl, hy⟩
      · cases hx
      · simp only [List.mem_singleton] at hx; subst hx; rw [hy]; exact hg.symm
    rw [e1, e2]
  · rw [hA.line]
    have e1 : cnt (setL P l S) = cnt P + l.Txs.length + cnt S := by
      unfold setL
      rw [cnt_append, cnt_append]
      split
      · next h => simp [cnt, h]
      · rw [cnt_one]
    have e2 : cnt ls = cnt P + cnt M + cnt S := by rw [hA.eq, cnt_append, cnt_append]
    rw [e1, e2]
    rcases hA.own with rfl | ⟨y, rfl, hy⟩
    · simp [cnt]; omega
    · rw [cnt_one]; simp; omega
  · unfold setL
    rw [hA.eq]
    split <;> simp <;> omega
  · rcases hmem x hx with ⟨rfl, _⟩ | h | h
    · exact .inl rfl
    · exact .inr (hPls x h)
    · exact .inr (hSls x h)
end Go.Proofs.YtonfljoibcnlgaaGreatDoor
namespace Go.Proofs.YtonfljoibcnlgaaGreatDoor
open Bd Go
theorem lineOf_mem {ls : List GLine} (hs : Srt ls) {l : GLine} (hl : l ∈ ls) : lineOf ls l.From = l := by
  unfold lineOf
  cases hf : ls.find? fun y => decide (y.From = l.From) with
  | none => exact absurd (List.find?_eq_none.1 hf l hl) (by simp)
  | some y =>
    have h1 := List.mem_of_find?_eq_some hf
    have h2 : y.From = l.From := by simpa using List.find?_some hf
    obtain ⟨i, hi⟩ := List.getElem?_of_mem h1
    obtain ⟨j, hj⟩ := List.getElem?_of_mem hl
    rcases Nat.lt_trichotomy i j with h | h | h
    · have := srt_at hs hi hj h; rw [h2, lt_self] at this; cases this
    · subst h; rw [hi] at hj; cases hj; rfl
    · have := srt_at hs hj hi h; rw [h2, lt_self] at this; cases this
theorem lineOf_or (ls : List GLine) (f : List Int) : (lineOf ls f = ⟨f, []⟩ ∧ ∀ l ∈ ls, l.From ≠ f) ∨ (lineOf ls f ∈ ls ∧ (lineOf ls f).From = f) := by
  unfold lineOf
  cases hf : ls.find? fun y => decide (y.From = f) with
  | none => exact .inl ⟨rfl, fun l hl => by simpa using List.find?_eq_none.1 hf l hl⟩
  | some y => exact .inr ⟨List.mem_of_find?_eq_some hf, by simpa using List.find?_some hf⟩
theorem lineOf_from (ls : List GLine) (f : List Int) : (lineOf ls f).From = f := by
  rcases lineOf_or ls f with ⟨h, _⟩ | ⟨_, h⟩
  · rw [h]
  · exact h
theorem lineOf_cnt (ls : List GLine) (f : List Int) : (lineOf ls f).Txs.length ≤ cnt ls := by
  rcases lineOf_or ls f with ⟨h, _⟩ | ⟨h, _⟩
  · rw [h]; simp
  · exact mem_cnt h
theorem lineOf_may {ls : List GLine} (hm : MayS ls) (f : List Int) : May (lineOf ls f) := by
  rcases lineOf_or ls f with ⟨h, _⟩ | ⟨h, _⟩
  · rw [h]; exact ⟨by simp, by simp, List.Pairwise.nil⟩
  · exact (hm.1 _ h).2
theorem lineOf_ok {ls : List GLine} (hs : ShOk ls) {f : List Int} (hf : f.length = 32) : LineOk (lineOf ls f) := by
  rcases lineOf_or ls f with ⟨h, _⟩ | ⟨h, _⟩
  · rw [h]; exact ⟨hf, by simp⟩
  · exact hs.line _ h
def lastFee (l : GLine) : Int := (l.Txs.getLast?.map (·.Fee)).getD 0
def wst (f : List Int) : List GLine → Int → Int → Int → Int
  | [], _, at_, _ => at_
  | l :: r, i, at_, least => if l.From ≠ f ∧ lastFee l < least then wst f r (i + 1) i (lastFee l) else wst f r (i + 1) at_ least
theorem last_val {ls : List GLine} {k : Nat} {l : GLine} (hl : ls[k]? = some l) (h0 : l.Txs ≠ []) (hc : l.Txs.length ≤ 100000) : F135_shard_part_worst_1_abe 1000 (k : Int) ls = some (lastFee l) := by
  have hpos : 0 < l.Txs.length := List.length_pos_iff.2 h0
  unfold F135_shard_part_worst_1_abe
  rw [rd_nat, hl]
  simp only [Option.bind_some]
  rw [wi64 (by omega) (by omega), show (l.Txs.length : Int) - 1 = ((l.Txs.length - 1 : Nat) : Int) from by omega, rd_nat]
  unfold lastFee
  rw [List.getLast?_eq_getElem?]
  rw [List.getElem?_eq_getElem (show l.Txs.length - 1 < l.Txs.length from by omega)]
  rfl
theorem worst_val {ls : List GLine} (h0 : ∀ l ∈ ls, l.Txs ≠ []) (hlen : ls.length ≤ 290) (hc : cnt ls ≤ 100000) {x : GTx} (hx : x.Pub.length = 32) : F99_shard_part_worst_91b 1000 x ls = some (wst (ky x.Pub) ls 0 (-1) x.Fee) := by
  unfold F99_shard_part_worst_91b F27_tx_From
  rw [(ky_val hx).1]
  simp only [Option.bind_some]
  obtain ⟨b, hb, rfl⟩ : ∃ b, loopF (fun z : Int × Int => F99_shard_part_worst_91b_s0 1000 x ls (ky x.Pub) z.1 z.2) 1000 ((-1 : Int), (0 : Int)) = some b ∧ b = wst (ky x.Pub) ls 0 (-1) x.Fee := by
    refine loop_ok (fun z : Int × Int => ∃ (k : Nat) (least : Int), z.2 = (k : Int) ∧ k ≤ ls.length ∧ wst (ky x.Pub) (ls.drop k) k z.1 least = wst (ky x.Pub) ls 0 (-1) x.Fee ∧ ((z.1 = -1 ∧ least = x.Fee) ∨ ∃ (j : Nat) (y : GLine), z.1 = (j : Int) ∧ ls[j]? = some y ∧ least = lastFee y ∧ least < x.Fee))
      (fun z : Int × Int => (ls.length - z.2).toNat) (fun b : Int => b = wst (ky x.Pub) ls 0 (-1) x.Fee) ?_ 1000 _ ⟨0, x.Fee, rfl, by omega, rfl, .inl ⟨rfl, rfl⟩⟩ (by simp; omega)
    rintro ⟨a, i⟩ ⟨k, least, e, hk, hw, hat⟩
    simp only at e hw hat
    subst e
    unfold F99_shard_part_worst_91b_s0
    simp only
    by_cases hi : k < ls.length
    · rw [if_pos (by simpa using hi), rd_nat]
      obtain ⟨l, hl⟩ : ∃ l, ls[k]? = some l := ⟨_, List.getElem?_eq_getElem hi⟩
      have hlm := List.mem_of_getElem? hl
      have hlc := mem_cnt hlm
      rw [drop_cons' hl, wst] at hw
      rw [hl]
      simp only [Option.bind_some]
      rw [last_val hl (h0 l hlm) (by omega)]
      simp only [Option.bind_some]
      by_cases hf : l.From = ky x.Pub
      · rw [if_neg (by simp [hf])]
        rw [if_neg (by simp [hf])] at hw
        simp only [Option.bind_some, Bool.false_eq_true, if_false, StepOk]
        rw [wi64 (by omega) (by omega)]
        exact ⟨⟨k + 1, least, by simp, by omega, by rw [← hw]; simp, hat⟩, by omega⟩
      · rw [if_pos (by simp [hf])]
        rcases hat with ⟨rfl, rfl⟩ | ⟨j, y, rfl, hy, rfl, hlt⟩
        · by_cases hfee : lastFee l < x.Fee
          · rw [if_pos (by simpa using hfee), if_pos (by simp)]
            rw [if_pos ⟨hf, hfee⟩] at hw
            simp only [Option.bind_some, if_true, StepOk]
            rw [wi64 (by omega) (by omega)]
            exact ⟨⟨k + 1, lastFee l, by simp, by omega, by rw [← hw]; simp, .inr ⟨k, l, rfl, hl, rfl, hfee⟩⟩, by omega⟩
          · rw [if_neg (by simpa using hfee)]
            rw [if_neg fun h => hfee h.2] at hw
            simp only [Option.bind_some, Bool.false_eq_true, if_false, StepOk]
            rw [wi64 (by omega) (by omega)]
            exact ⟨⟨k + 1, x.Fee, by simp, by omega, by rw [← hw]; simp, .inl (by simp)⟩, by omega⟩
        · have hyc := mem_cnt (List.mem_of_getElem? hy)
          rw [last_val hy (h0 y (List.mem_of_getElem? hy)) (by omega)]
          simp only [Option.bind_some]
          by_cases hfee : lastFee l < lastFee y
          · rw [if_pos (by simp; omega), if_neg (by simp)]
            rw [if_pos ⟨hf, hfee⟩] at hw
            simp only [Option.bind_some, hfee, decide_true, if_true, StepOk]
            rw [wi64 (by omega) (by omega)]
            exact ⟨⟨k + 1, lastFee l, by simp, by omega, by rw [← hw]; simp, .inr ⟨k, l, rfl, hl, rfl, by omega⟩⟩, by omega⟩
          · rw [if_neg fun h => hfee h.2] at hw
            have hnext : ∃ (k' : Nat) (least : Int), ((k : Int) + 1) = (k' : Int) ∧ k' ≤ ls.length ∧ wst (ky x.Pub) (ls.drop k') k' (j : Int) least = wst (ky x.Pub) ls 0 (-1) x.Fee ∧ (((j : Int) = -1 ∧ least = x.Fee) ∨ ∃ (j' : Nat) (y : GLine), (j : Int) = (j' : Int) ∧ ls[j']? = some y ∧ least = lastFee y ∧ least < x.Fee) :=
              ⟨k + 1, lastFee y, by simp, by omega, by rw [← hw]; simp, .inr ⟨j, y, rfl, hy, rfl, hlt⟩⟩
            by_cases hfx : lastFee l < x.Fee
            · rw [if_pos (by simpa using hfx), if_neg (by simp)]
              simp only [Option.bind_some, hfee, decide_false, Bool.false_eq_true, if_false, StepOk]
              rw [wi64 (by omega) (by omega)]
              exact ⟨hnext, by omega⟩
            · rw [if_neg (by simpa using hfx)]
              simp only [Option.bind_some, Bool.false_eq_true, if_false, StepOk]
              rw [wi64 (by omega) (by omega)]
              exact ⟨hnext, by omega⟩
    · rw [if_neg (by simpa using hi)]
      have hk' : k = ls.length := by omega
      subst hk'
      rw [List.drop_length] at hw
      exact hw
  rw [hb]; rfl
theorem wst_spec {f : List Int} : ∀ (ls : List GLine) (i : Nat) (at_ least : Int), wst f ls i at_ least = at_ ∨ ∃ (k : Nat) (w : GLine), wst f ls i at_ least = ((i + k : Nat) : Int) ∧ ls[k]? = some w ∧ w.From ≠ f
  | [], _, _, _ => .inl rfl
  | l :: r, i, at_, least => by
    unfold wst
    split
    · next h =>
      have := wst_spec (f := f) r (i + 1) i (lastFee l)
      rw [show ((i + 1 : Nat) : Int) = (i : Int) + 1 from by simp] at this
      rcases this with h1 | ⟨k, w, h1, h2, h3⟩
      · exact .inr ⟨0, l, h1, rfl, h.1⟩
      · exact .inr ⟨k + 1, w, by rw [h1]; congr 1; omega, by simpa using h2, h3⟩
    · have := wst_spec (f := f) r (i + 1) at_ least
      rw [show ((i + 1 : Nat) : Int) = (i : Int) + 1 from by simp] at this
      rcases this with h1 | ⟨k, w, h1, h2, h3⟩
      · exact .inl h1
      · exact .inr ⟨k + 1, w, by rw [h1]; congr 1; omega, by simpa using h2, h3⟩
structure Sub (ls : List GLine) (cap : Int) (x : GTx) (a : List GLine) (gone : List GTx) : Prop where
  may : MayS a
  ok : ShOk a
  len : a.length ≤ ls.length + 2
  has : x ∈ (lineOf a (ky x.Pub)).Txs
  one : gone.length ≤ 1
  count : cnt a + gone.length = cnt ls + 1
  kept : ∀ f, ∀ z ∈ (lineOf ls f).Txs, z ∈ (lineOf a f).Txs ∨ gone = [z]
  room : gone = [] → (cnt ls : Int) < cap
  froms : ∀ l ∈ a, l.From = ky x.Pub ∨ ∃ y ∈ ls, y.From = l.From
theorem submit_val {ls : List GLine} (hs : ShOk ls) (hlen : ls.length ≤ 6) (hc : cnt ls ≤ 20) {x : GTx} (hx : TxOk x) (cap nonce : Int) :
    ∃ a gone e, F52_shard_Submit 1000 ⟨ls⟩ cap nonce x = some (⟨a⟩, gone, e) ∧ ((e ≠ 0 ∧ a = [] ∧ gone = []) ∨ (e = 0 ∧ Sub ls cap x a gone)) := by
  unfold F52_shard_Submit
  by_cases hm : MayS ls
  case neg =>
    rw [(shcheck_val hs (by omega)).2 hm]
    exact ⟨[], [], 8, rfl, .inl ⟨by decide, rfl, rfl⟩⟩
  rw [(shcheck_val hs (by omega)).1 hm]
  simp only [Option.bind_some]
  rw [if_neg (by simp), tx_check hx]
  simp only [Option.bind_some]
  by_cases hsg : x.Sign = sg x
  case neg =>
    rw [if_neg hsg]
    exact ⟨[], [], 110, rfl, .inl ⟨by decide, rfl, rfl⟩⟩
  rw [if_pos hsg, if_neg (by simp)]
  by_cases hst : x.Nonce < nonce
  · rw [if_pos (by simpa using hst)]
    exact ⟨[], [], 200, rfl, .inl ⟨by decide, rfl, rfl⟩⟩
  rw [if_neg (by simpa using hst)]
  refine bP (S := fun o => ∃ a gone e, o = some ((⟨a⟩ : GShard), gone, e) ∧ ((e ≠ 0 ∧ a = [] ∧ gone = []) ∨ (e = 0 ∧ Sub ls cap x a gone))) (Q := fun _ => True) ?_ fun far _ => ?_
  · split <;> exact ⟨_, rfl, trivial⟩
  cases far with
  | true => exact ⟨[], [], 201, rfl, .inl ⟨by decide, rfl, rfl⟩⟩
  | false =>
  simp only [Bool.false_eq_true, if_false]
  have hfd : Dig (ky x.Pub) := ky_dig hx.pub
  rw [shtwin_val (by omega) (by omega), tx_from hx]
  simp only [Option.bind_some]
  rw [line_val hs.dig hm.2 hfd (by omega)]
  simp only [Option.bind_some]
  have hl0 := lineOf_ok hs hfd.1
  have hm0 := lineOf_may hm (ky x.Pub)
  have hf0 := lineOf_from ls (ky x.Pub)
  have hc0 := lineOf_cnt ls (ky x.Pub)
  have ho : own x (lineOf ls (ky x.Pub)).From = true := by rw [hf0]; simp [own, hsg]
  rcases put_own hl0 hm0 hx ho (by omega) with ⟨y, _, _, _, he⟩ | ⟨P, S, old, hT⟩
  · rw [he]
    exact ⟨[], [], 190, rfl, .inl ⟨by decide, rfl, rfl⟩⟩
  have hmay := takes_may hm0 (by omega) ho hT
  have hline := takes_line hl0 hx hT
  obtain ⟨h1, h2, h3, h4, h5⟩ := hT
  rw [h1]
  rw [hf0] at hmay hline ⊢
  simp only [Option.bind_some]
  rw [if_neg (by simp)]
  simp only [Option.bind_some]
  rw [if_neg (by simp), if_neg (by simp)]
  have hl0len : (lineOf ls (ky x.Pub)).Txs.length = P.length + old.length + S.length := by rw [h2]; simp [Nat.add_assoc]
  have hold : old.length ≤ 1 := by rcases h3 with rfl | ⟨y, rfl, _⟩ <;> simp
  by_cases hfull : old = [] ∧ (cnt ls : Int) ≥ cap
  · obtain ⟨rfl, hfull⟩ := hfull
    rw [if_pos (by simp), count_val (by omega) (by omega)]
    simp only [Option.bind_some]
    rw [if_pos (by simpa using hfull), worst_val (fun l hl => (hm.1 l hl).1) (by omega) (by omega) hx.pub]
    simp only [Option.bind_some]
    rcases wst_spec (f := ky x.Pub) ls 0 (-1) x.Fee with hw | ⟨k, w, hw, hwk, hwf⟩
    · rw [show ((0 : Nat) : Int) = 0 from rfl] at hw
      rw [hw]
      exact ⟨[], [], 9, rfl, .inl ⟨by decide, rfl, rfl⟩⟩
    rw [Nat.zero_add, show ((0 : Nat) : Int) = 0 from rfl] at hw
    have hwm := List.mem_of_getElem? hwk
    have hw0 := (hm.1 w hwm).1
    have hwpos : 0 < w.Txs.length := List.length_pos_iff.2 hw0
    have hwc := mem_cnt hwm
    rw [hw, if_neg (by simp), rd_nat, hwk]
    simp only [Option.bind_some]
    rw [wi64 (by omega) (by omega), show (w.Txs.length : Int) - 1 = ((w.Txs.length - 1 : Nat) : Int) from by omega, rd_nat]
    obtain ⟨z, hz⟩ : ∃ z, w.Txs[w.Txs.length - 1]? = some z := ⟨_, List.getElem?_eq_getElem (by omega)⟩
    rw [hz]
    simp only [Option.bind_some]
    rw [if_pos (by omega)]
    obtain ⟨w', hw'⟩ : ∃ w' : GLine, w' = { w with Txs := w.Txs.take (w.Txs.length - 1) } := ⟨_, rfl⟩
    rw [Int.toNat_natCast, ← hw']
    have hwfrom : w'.From = w.From := by rw [hw']
    have hwtxs : w'.Txs = w.Txs.take (w.Txs.length - 1) := by rw [hw']
    have hwsplit : w.Txs = w'.Txs ++ [z] := by
      rw [hwtxs]
      have := take_succ hz
      rw [show w.Txs.length - 1 + 1 = w.Txs.length from by omega, List.take_length] at this
      exact this
    have hwmay : May w' := ⟨by rw [hwtxs, List.length_take]; omega, fun q hq => by rw [hwfrom]; rw [hwtxs] at hq; exact ((hm.1 w hwm).2).2.1 q (List.mem_of_mem_take hq), by rw [hwtxs]; exact inc_take ((hm.1 w hwm).2).2.2 _⟩
    have hwlen : w'.Txs.length + 1 = w.Txs.length := by rw [hwsplit]; simp
    obtain ⟨P1, M1, S1, hA1, hset1⟩ := set_val hs.dig hm.2 (l := w') (by rw [hwfrom]; exact hs.dig w hwm) (by omega)
    obtain ⟨m1, m2, m3, m4, m5, m6⟩ := setL_spec hs.dig hm (by rw [hwfrom]; exact hs.dig w hwm) hwmay hA1
    rw [hset1]
    simp only [Option.bind_some]
    obtain ⟨b, hb⟩ : ∃ b, b = setL P1 w' S1 := ⟨_, rfl⟩
    rw [← hb] at m1 m2 m3 m4 m5 m6 ⊢
    have hlw : lineOf ls w'.From = w := by rw [hwfrom]; exact lineOf_mem hm.2 hwm
    rw [hlw] at m4
    have hbok : ShOk b := ⟨fun l hl => by
        rcases m6 l hl with rfl | h
        · exact ⟨by rw [hwfrom]; exact (hs.line w hwm).from_, fun q hq => (hs.line w hwm).txs q (by rw [hwsplit]; simp [hq])⟩
        · exact hs.line l h, fun l hl => by
        rcases m6 l hl with rfl | h
        · rw [hwfrom]; exact hs.dig w hwm
        · exact hs.dig l h⟩
    have hbx : lineOf b (ky x.Pub) = lineOf ls (ky x.Pub) := m3 _ (by rw [hwfrom]; exact hwf.symm)
    obtain ⟨P2, M2, S2, hA2, hset2⟩ := set_val hbok.dig m1.2 (l := ⟨ky x.Pub, P ++ x :: S⟩) hfd (by omega)
    obtain ⟨n1, n2, n3, n4, n5, n6⟩ := setL_spec hbok.dig m1 hfd hmay hA2
    rw [hset2]
    simp only [Option.bind_some]
    simp only at n2 n3 n4
    refine ⟨_, _, _, rfl, .inr ⟨rfl, ⟨n1, ⟨fun l hl => ?_, fun l hl => ?_⟩, by omega, by rw [n2]; simp, by simp, ?_, fun f q hq => ?_, by simp, fun l hl => by
      rcases n6 l hl with rfl | h
      · exact .inl rfl
      · rcases m6 l h with rfl | h
        · exact .inr ⟨w, hwm, hwfrom.symm⟩
        · exact .inr ⟨l, h, rfl⟩⟩⟩⟩
    · rcases n6 l hl with rfl | h
      · exact hline
      · exact hbok.line l h
    · rcases n6 l hl with rfl | h
      · exact hfd
      · exact hbok.dig l h
    · rw [hbx] at n4
      simp only [List.length_append, List.length_cons, List.length_nil] at n4 hl0len ⊢
      omega
    · by_cases hfx : f = ky x.Pub
      · subst hfx
        rw [n2]
        rw [h2] at hq
        simp at hq
        left
        rcases hq with h | h <;> simp [h]
      · rw [n3 f hfx]
        by_cases hfw : f = w'.From
        · subst hfw
          rw [hlw, hwsplit] at hq
          rw [m2]
          rcases List.mem_append.1 hq with h | h
          · exact .inl h
          · simp only [List.mem_singleton] at h; subst h; exact .inr rfl
        · rw [m3 f hfw]; exact .inl hq
  · have hroom : old = [] → (cnt ls : Int) < cap := fun h => by
      by_cases h' : (cnt ls : Int) ≥ cap
      · exact absurd ⟨h, h'⟩ hfull
      · omega
    have e : ((if (((old.length : Int)) == (0 : Int)) = true then (F98_shard_Count 1000 ⟨ls⟩).bind fun y24 => some (decide (y24 ≥ cap)) else some false) : Option Bool) = some false := by
      by_cases h0 : old = []
      · rw [if_pos (by simp [h0]), count_val (by omega) (by omega)]
        have := hroom h0
        simp; omega
      · rw [if_neg (by simpa using h0)]
    rw [e]
    simp only [Option.bind_some, Bool.false_eq_true, if_false]
    obtain ⟨P2, M2, S2, hA2, hset2⟩ := set_val hs.dig hm.2 (l := ⟨ky x.Pub, P ++ x :: S⟩) hfd (by omega)
    obtain ⟨n1, n2, n3, n4, n5, n6⟩ := setL_spec hs.dig hm hfd hmay hA2
    rw [hset2]
    simp only [Option.bind_some]
    simp only at n2 n3 n4
    refine ⟨_, _, _, rfl, .inr ⟨rfl, ⟨n1, ⟨fun l hl => ?_, fun l hl => ?_⟩, by omega, by rw [n2]; simp, hold, ?_, fun f q hq => ?_, hroom, fun l hl => by
      rcases n6 l hl with rfl | h
      · exact .inl rfl
      · exact .inr ⟨l, h, rfl⟩⟩⟩⟩
    · rcases n6 l hl with rfl | h
      · exact hline
      · exact hs.line l h
    · rcases n6 l hl with rfl | h
      · exact hfd
      · exact hs.dig l h
    · simp only [List.length_append, List.length_cons] at n4
      omega
    · by_cases hfx : f = ky x.Pub
      · subst hfx
        rw [n2]
        rw [h2] at hq
        rcases List.mem_append.1 hq with h | h
        · rcases List.mem_append.1 h with h | h
          · left; simp [h]
          · rcases h3 with rfl | ⟨y, rfl, _⟩
            · cases h
            · simp only [List.mem_singleton] at h; subst h; exact .inr rfl
        · left; simp [h]
      · rw [n3 f hfx]; exact .inl hq
end Go.Proofs.YtonfljoibcnlgaaGreatDoor
