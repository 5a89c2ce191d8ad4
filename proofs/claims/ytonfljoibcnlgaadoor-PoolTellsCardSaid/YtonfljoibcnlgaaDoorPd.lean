/-
  The plain law of a sender's line: whether it may be, where a nonce stands, its ready run, what is past. No machine is in sight.
-/
import Derived.Test.YtonfljoibcnlgaaDoorPc
namespace Go.Proofs.YtonfljoibcnlgaaDoor
open Bd Go

/-- is a transaction signed, by a sender? -/
def own (x : GTx) (from_ : List Int) : Bool := decide (x.Sign = sg x) && decide (ky x.Pub = from_)
theorem own_val {x : GTx} (hx : TxOk x) (f : List Int) : F77_queue_own 300 x f = some (own x f) := by
  unfold F77_queue_own F38_tx_Check F39_tx_From own
  rw [(sg_val hx.pub hx.to).1]
  simp only [Option.bind_some]
  by_cases h : x.Sign = sg x
  · simp [h, (ky_val hx.pub).1]
  · simp [h]

structure LineOk (l : GLine) : Prop where
  from_ : l.From.length = 32
  txs : ∀ x ∈ l.Txs, TxOk x
def Inc (l : List GTx) : Prop := l.Pairwise fun a b => a.Nonce < b.Nonce
/-- may a line be? -/
def May (l : GLine) : Prop := l.Txs.length ≤ 256 ∧ (∀ x ∈ l.Txs, own x l.From = true) ∧ Inc l.Txs

theorem take_succ {α : Type} {l : List α} {k : Nat} {x : α} (h : l[k]? = some x) : l.take (k + 1) = l.take k ++ [x] := by rw [List.take_add_one, h]; rfl
theorem inc_snoc {l : List GTx} {k : Nat} {x : GTx} (h : Inc (l.take k)) (hx : l[k]? = some x) (hl : k = 0 ∨ ∃ y, l[k - 1]? = some y ∧ y.Nonce < x.Nonce) : Inc (l.take (k + 1)) := by
  rw [take_succ hx]
  refine List.pairwise_append.2 ⟨h, List.pairwise_singleton _ _, fun a ha b hb => ?_⟩
  simp only [List.mem_singleton] at hb; subst hb
  rcases hl with rfl | ⟨y, hy, hyx⟩
  · simp at ha
  · cases k with
    | zero => simp at ha
    | succ k =>
      simp only [Nat.add_sub_cancel] at hy
      rw [take_succ hy] at h ha
      rcases List.mem_append.1 ha with ha | ha
      · exact Int.lt_trans ((List.pairwise_append.1 h).2.2 a ha y (by simp)) hyx
      · simp only [List.mem_singleton] at ha; subst ha; exact hyx
theorem inc_at {l : List GTx} (h : Inc l) {i j : Nat} {x y : GTx} (hi : l[i]? = some x) (hj : l[j]? = some y) (hij : i < j) : x.Nonce < y.Nonce := by
  obtain ⟨hi', rfl⟩ := List.getElem?_eq_some_iff.1 hi
  obtain ⟨hj', rfl⟩ := List.getElem?_eq_some_iff.1 hj
  exact List.pairwise_iff_getElem.1 h i j hi' hj' hij
theorem inc_drop {l : List GTx} (h : Inc l) (k : Nat) : Inc (l.drop k) := List.Pairwise.sublist (List.drop_sublist k l) h
theorem inc_take {l : List GTx} (h : Inc l) (k : Nat) : Inc (l.take k) := List.Pairwise.sublist (List.take_sublist k l) h

theorem check_val {l : GLine} (hl : LineOk l) : (May l → F18_queue_Check 300 l = some 0) ∧ (¬ May l → F18_queue_Check 300 l = some 8) := by
  unfold F18_queue_Check
  by_cases hlen : l.Txs.length ≤ 256
  · rw [if_neg (by simp; omega)]
    obtain ⟨b, hb, hP⟩ : ∃ b, loopF (fun z => F18_queue_Check_s0 300 l z) 300 (0 : Int) = some b ∧ ((b = .inl () → May l) ∧ (b = .inr () → ¬ May l)) := by
      refine loop_ok (fun z => ∃ k : Nat, z = (k : Int) ∧ k ≤ l.Txs.length ∧ (∀ x ∈ l.Txs.take k, own x l.From = true) ∧ Inc (l.Txs.take k)) (fun z => (l.Txs.length - z).toNat) (fun b : Unit ⊕ Unit => (b = .inl () → May l) ∧ (b = .inr () → ¬ May l)) ?_ 300 _
        ⟨0, rfl, by omega, by simp, by simp [Inc]⟩ (by simp; omega)
      rintro z ⟨k, rfl, hk, hown, hinc⟩
      unfold F18_queue_Check_s0
      by_cases hi : k < l.Txs.length
      · rw [if_pos (by simpa using hi)]
        obtain ⟨x, hx⟩ : ∃ x, l.Txs[k]? = some x := ⟨_, List.getElem?_eq_getElem hi⟩
        rw [rd_nat, hx]
        simp only [Option.bind_some]
        have hxm := List.mem_of_getElem? hx
        rw [own_val (hl.txs x hxm)]
        simp only [Option.bind_some]
        by_cases ho : own x l.From = true
        · rw [if_neg (by simp [ho])]
          by_cases h0 : k = 0
          · subst h0
            simp only [Int.natCast_zero, gt_iff_lt, Int.lt_irrefl, decide_false, Bool.false_eq_true, if_false, Option.bind_some, StepOk]
            rw [wi64 (by omega) (by omega)]
            refine ⟨⟨1, rfl, by omega, ?_, ?_⟩, by omega⟩
            · rw [take_succ hx]; intro y hy; simp at hy; subst hy; exact ho
            · exact inc_snoc hinc hx (.inl rfl)
          · rw [if_pos (by simp; omega), wi64 (by omega) (by omega), show (k : Int) - 1 = ((k - 1 : Nat) : Int) from by omega, rd_nat]
            obtain ⟨y, hy⟩ : ∃ y, l.Txs[k - 1]? = some y := ⟨_, List.getElem?_eq_getElem (by omega)⟩
            rw [hy]
            simp only [Option.bind_some]
            by_cases hn : y.Nonce ≥ x.Nonce
            · rw [if_pos (by simpa using hn)]
              simp only [StepOk]
              refine ⟨by simp, fun _ hm => ?_⟩
              have := inc_at hm.2.2 hy hx (by omega)
              omega
            · rw [if_neg (by simpa using hn)]
              simp only [StepOk]
              rw [wi64 (by omega) (by omega)]
              refine ⟨⟨k + 1, by omega, by omega, ?_, inc_snoc hinc hx (.inr ⟨y, hy, by omega⟩)⟩, by omega⟩
              rw [take_succ hx]
              intro z hz
              rcases List.mem_append.1 hz with hz | hz
              · exact hown z hz
              · simp only [List.mem_singleton] at hz; subst hz; exact ho
        · rw [if_pos (by simp [ho])]
          simp only [Option.bind_some, if_true, StepOk]
          exact ⟨by simp, fun _ hm => ho (hm.2.1 x hxm)⟩
      · rw [if_neg (by simpa using hi)]
        have hk' : k = l.Txs.length := by omega
        subst hk'
        rw [List.take_length] at hown hinc
        exact ⟨fun _ => ⟨hlen, hown, hinc⟩, by simp⟩
    rw [hb]
    simp only [Option.bind_some]
    rcases b with ⟨⟩ | ⟨⟩
    · exact ⟨fun _ => rfl, fun h => absurd (hP.1 rfl) h⟩
    · exact ⟨fun h => absurd h (hP.2 rfl), fun _ => rfl⟩
  · rw [if_pos (by simp; omega)]
    exact ⟨fun h => absurd h.1 hlen, fun _ => rfl⟩

end Go.Proofs.YtonfljoibcnlgaaDoor
