/-
  What 'Put' makes of a line, as a function on plain data. No machine is in sight.
-/
import Derived.Test.YtonfljoibcnlgaaDoorPe
namespace Go.Proofs.YtonfljoibcnlgaaDoor
open Bd Go

/-- the empty line -/
def zl : GLine := ⟨List.replicate 32 (0 : Int), []⟩

/-- what a line comes to that takes a transaction in -/
def Takes (l : GLine) (x : GTx) (P S old : List GTx) : Prop :=
  F34_queue_Put 300 l x = some (⟨l.From, P ++ x :: S⟩, old, 0) ∧ l.Txs = P ++ old ++ S ∧ (old = [] ∨ ∃ y, old = [y] ∧ y.Nonce = x.Nonce ∧ y.Fee < x.Fee) ∧ (∀ z ∈ P, z.Nonce < x.Nonce) ∧ (∀ z ∈ S, x.Nonce < z.Nonce)

theorem put_bad {l : GLine} (hl : LineOk l) (hm : ¬ May l) (x : GTx) : F34_queue_Put 300 l x = some (zl, [], 8) := by
  unfold F34_queue_Put
  rw [(check_val hl).2 hm]
  rfl
theorem put_alien {l : GLine} (hl : LineOk l) (hm : May l) {x : GTx} (hx : TxOk x) (ho : own x l.From = false) : F34_queue_Put 300 l x = some (zl, [], 2) := by
  unfold F34_queue_Put
  rw [(check_val hl).1 hm, own_val hx, ho]
  rfl
theorem ins_val {k : Nat} {l : List GTx} {x : GTx} (hk : k ≤ l.length) (hl : l.length ≤ 250) : F83_Insert 300 (k : Int) l [x] = some (l.take k ++ [x] ++ l.drop k) := by
  unfold F83_Insert
  rw [if_pos ⟨by omega, by omega, rfl, by simp; omega⟩, Int.toNat_natCast]

theorem put_own {l : GLine} (hl : LineOk l) (hm : May l) {x : GTx} (hx : TxOk x) (ho : own x l.From = true) (hlen : l.Txs.length ≤ 250) :
    (∃ y ∈ l.Txs, y.Nonce = x.Nonce ∧ x.Fee ≤ y.Fee ∧ F34_queue_Put 300 l x = some (zl, [], 190)) ∨ ∃ P S old, Takes l x P S old := by
  obtain ⟨k, h1, h2, h3, h4⟩ := ahead_ok hm.2.2 hm.1 x.Nonce
  have hP : ∀ z ∈ l.Txs.take k, z.Nonce < x.Nonce := fun z hz => by
    obtain ⟨i, hi⟩ := List.getElem?_of_mem hz
    rw [List.getElem?_take] at hi
    split at hi
    · exact h3 i z hi (by omega)
    · cases hi
  have hput : F34_queue_Put 300 l x = (((if (decide ((k : Int) < ((l.Txs).length : Int))) = true then ((rd l.Txs (k : Int)).bind fun (x14 : GTx) => some (x14.Nonce == x.Nonce)) else some false)).bind fun (o17 : Bool) => (if o17 = true then ((rd l.Txs (k : Int)).bind fun (x19 : GTx) => (if (decide (x.Fee ≤ x19.Fee)) = true then some (zl, [], (190 : Int)) else ((rd l.Txs (k : Int)).bind fun (_ : GTx) => ((rd l.Txs (k : Int)).bind fun (x26 : GTx) => some ((⟨l.From, (l.Txs.set (0 + ((k : Int)).toNat) x)⟩ : GLine), ([x26] : List GTx), (0 : Int)))))) else (if (((l.Txs).length : Int) == (256 : Int)) = true then some (zl, [], (9 : Int)) else ((F83_Insert 300 (k : Int) l.Txs ([x] : List GTx)).bind fun (y30 : List GTx) => some ((⟨l.From, y30⟩ : GLine), [], (0 : Int)))))) := by
    unfold F34_queue_Put F74_queue_nonces F47_queue_Twin
    rw [(check_val hl).1 hm, own_val hx, ho, clone_val (by omega)]
    simp only [Option.bind_some]
    rw [if_neg (by decide), if_neg (by decide), h1]
    rfl
  have hins : k ≤ l.Txs.length → (∀ z ∈ l.Txs.drop k, x.Nonce < z.Nonce) → F34_queue_Put 300 l x = some (⟨l.From, l.Txs.take k ++ [x] ++ l.Txs.drop k⟩, [], 0) → ∃ P S old, Takes l x P S old := fun _ hS he =>
    ⟨l.Txs.take k, l.Txs.drop k, [], by rw [he]; simp, by simp, .inl rfl, hP, hS⟩
  by_cases hk : k < l.Txs.length
  · obtain ⟨y, hy⟩ : ∃ y, l.Txs[k]? = some y := ⟨_, List.getElem?_eq_getElem hk⟩
    have hge := h4 k y hy (Nat.le_refl _)
    rw [if_pos (by simpa using hk), rd_nat, hy] at hput
    simp only [Option.bind_some] at hput
    have hym := List.mem_of_getElem? hy
    by_cases he : y.Nonce = x.Nonce
    · rw [if_pos (by simpa using he)] at hput
      by_cases hf : x.Fee ≤ y.Fee
      · rw [if_pos (by simpa using hf)] at hput
        exact .inl ⟨y, hym, he, hf, hput⟩
      · rw [if_neg (by simpa using hf)] at hput
        refine .inr ⟨l.Txs.take k, l.Txs.drop (k + 1), [y], ?_, ?_, .inr ⟨y, rfl, he, by omega⟩, hP, fun z hz => ?_⟩
        · rw [hput, Nat.zero_add, Int.toNat_natCast, List.set_eq_take_append_cons_drop, if_pos hk]
        · have := (List.getElem?_eq_some_iff.1 hy).2
          rw [← this, List.append_assoc, List.singleton_append, List.getElem_cons_drop, List.take_append_drop]
        · obtain ⟨i, hi⟩ := List.getElem?_of_mem hz
          rw [List.getElem?_drop] at hi
          have := inc_at hm.2.2 hy hi (by omega)
          omega
    · rw [if_neg (by simpa using he), if_neg (by simp; omega), ins_val (by omega) hlen] at hput
      refine .inr (hins (by omega) (fun z hz => ?_) hput)
      obtain ⟨i, hi⟩ := List.getElem?_of_mem hz
      rw [List.getElem?_drop] at hi
      by_cases hi0 : i = 0
      · subst hi0
        rw [Nat.add_zero, hy] at hi; cases hi
        omega
      · have := inc_at hm.2.2 hy hi (by omega)
        omega
  · rw [if_neg (by simpa using hk)] at hput
    simp only [Option.bind_some] at hput
    rw [if_neg (by decide), if_neg (by simp; omega), ins_val (by omega) hlen] at hput
    refine .inr (hins (by omega) (fun z hz => ?_) hput)
    rw [List.drop_eq_nil_of_le (by omega)] at hz
    cases hz

/-- such a line may be -/
theorem takes_may {l : GLine} {x : GTx} {P S old : List GTx} (hm : May l) (hlen : l.Txs.length ≤ 250) (ho : own x l.From = true) (h : Takes l x P S old) : May ⟨l.From, P ++ x :: S⟩ := by
  obtain ⟨_, h1, h2, h3, h4⟩ := h
  have hmem : ∀ z, z ∈ P ∨ z ∈ S → z ∈ l.Txs := fun z hz => by rw [h1]; simp; rcases hz with h | h <;> simp [h]
  have hl : l.Txs.length = P.length + old.length + S.length := by rw [h1]; simp [Nat.add_assoc]
  refine ⟨by simp; omega, fun z hz => ?_, ?_⟩
  · rcases List.mem_append.1 hz with hz | hz
    · exact hm.2.1 z (hmem z (.inl hz))
    · rcases List.mem_cons.1 hz with rfl | hz
      · exact ho
      · exact hm.2.1 z (hmem z (.inr hz))
  · have hinc := hm.2.2
    unfold Inc at hinc ⊢
    rw [h1, List.append_assoc] at hinc
    obtain ⟨a1, a2, a3⟩ := List.pairwise_append.1 hinc
    obtain ⟨b1, b2, b3⟩ := List.pairwise_append.1 a2
    refine List.pairwise_append.2 ⟨a1, List.pairwise_cons.2 ⟨h4, b2⟩, fun p hp q hq => ?_⟩
    rcases List.mem_cons.1 hq with rfl | hq
    · exact h3 p hp
    · exact a3 p hp q (by simp [hq])
theorem takes_line {l : GLine} {x : GTx} {P S old : List GTx} (hl : LineOk l) (hx : TxOk x) (h : Takes l x P S old) : LineOk ⟨l.From, P ++ x :: S⟩ := by
  obtain ⟨_, h1, h2, h3, h4⟩ := h
  refine ⟨hl.from_, fun z hz => ?_⟩
  rcases List.mem_append.1 hz with hz | hz
  · exact hl.txs z (by rw [h1]; simp [hz])
  · rcases List.mem_cons.1 hz with rfl | hz
    · exact hx
    · exact hl.txs z (by rw [h1]; simp [hz])
theorem tx_check {x : GTx} (hx : TxOk x) : F38_tx_Check 300 x = some (if x.Sign = sg x then 0 else 110) := by
  unfold F38_tx_Check
  rw [(sg_val hx.pub hx.to).1]
  simp only [Option.bind_some]
  by_cases h : x.Sign = sg x <;> simp [h]
theorem tx_from {x : GTx} (hx : TxOk x) : F39_tx_From 300 x = some (ky x.Pub) := by
  unfold F39_tx_From
  rw [(ky_val hx.pub).1]
  rfl

end Go.Proofs.YtonfljoibcnlgaaDoor
