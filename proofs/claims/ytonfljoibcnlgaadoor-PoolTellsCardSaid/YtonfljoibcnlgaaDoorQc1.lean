/-
  A shard as plain data: whether it may be, how many transactions there are, its copy. No machine is in sight.
-/
import Derived.Test.YtonfljoibcnlgaaDoorQb
namespace Go.Proofs.YtonfljoibcnlgaaDoor
open Bd Go

/-! ### shards -/
structure ShOk (ls : List GLine) : Prop where
  line : ∀ l ∈ ls, LineOk l
  dig : ∀ l ∈ ls, Dig l.From

structure LineD (l : GLine) : Prop where
  dig : Dig l.From
  txs : ∀ x ∈ l.Txs, TxD x
theorem LineD.ok {l : GLine} (h : LineD l) : LineOk l := ⟨h.dig.1, fun x hx => (h.txs x hx).ok⟩
def ShD (ls : List GLine) : Prop := ∀ l ∈ ls, LineD l
theorem shok_of {ls : List GLine} (h : ShD ls) : ShOk ls := ⟨fun l hl => (h l hl).ok, fun l hl => (h l hl).dig⟩
def Srt (ls : List GLine) : Prop := ls.Pairwise fun a b => lt a.From b.From = true
def MayS (ls : List GLine) : Prop := (∀ l ∈ ls, l.Txs ≠ [] ∧ May l) ∧ Srt ls
def cnt (ls : List GLine) : Nat := (ls.map fun l => l.Txs.length).sum
def lineOf (ls : List GLine) (f : List Int) : GLine := (ls.find? fun l => decide (l.From = f)).getD ⟨f, []⟩

theorem srt_snoc {ls : List GLine} {k : Nat} {x : GLine} (hd : ∀ l ∈ ls, Dig l.From) (h : Srt (ls.take k)) (hx : ls[k]? = some x) (hl : k = 0 ∨ ∃ y, ls[k - 1]? = some y ∧ lt y.From x.From = true) : Srt (ls.take (k + 1)) := by
  rw [take_succ hx]
  refine List.pairwise_append.2 ⟨h, List.pairwise_singleton _ _, fun a ha b hb => ?_⟩
  simp only [List.mem_singleton] at hb; subst hb
  rcases hl with rfl | ⟨y, hy, hyx⟩
  · simp at ha
  · cases k with
    | zero => simp at ha
    | succ k =>
      simp only [Nat.add_sub_cancel] at hy
      have hal : a ∈ ls := List.mem_of_mem_take ha
      rw [take_succ hy] at h ha
      rcases List.mem_append.1 ha with ha | ha
      · exact lt_trans (hd a hal) (hd y (List.mem_of_getElem? hy)) (hd b (List.mem_of_getElem? hx)) ((List.pairwise_append.1 h).2.2 a ha y (by simp)) hyx
      · simp only [List.mem_singleton] at ha; subst ha; exact hyx
theorem srt_at {l : List GLine} (h : Srt l) {i j : Nat} {x y : GLine} (hi : l[i]? = some x) (hj : l[j]? = some y) (hij : i < j) : lt x.From y.From = true := by
  obtain ⟨hi', rfl⟩ := List.getElem?_eq_some_iff.1 hi
  obtain ⟨hj', rfl⟩ := List.getElem?_eq_some_iff.1 hj
  exact List.pairwise_iff_getElem.1 h i j hi' hj' hij

theorem shcheck_val {ls : List GLine} (hs : ShOk ls) (hlen : ls.length ≤ 290) : (MayS ls → F52_shard_Check 300 ⟨ls⟩ = some 0) ∧ (¬ MayS ls → F52_shard_Check 300 ⟨ls⟩ = some 8) := by
  unfold F52_shard_Check
  obtain ⟨b, hb, hP⟩ : ∃ b, loopF (fun z => F52_shard_Check_s0 300 ⟨ls⟩ z) 300 (0 : Int) = some b ∧ ((b = .inl () → MayS ls) ∧ (b = .inr () → ¬ MayS ls)) := by
    refine loop_ok (fun z => ∃ k : Nat, z = (k : Int) ∧ k ≤ ls.length ∧ (∀ l ∈ ls.take k, l.Txs ≠ [] ∧ May l) ∧ Srt (ls.take k)) (fun z => (ls.length - z).toNat) (fun b : Unit ⊕ Unit => (b = .inl () → MayS ls) ∧ (b = .inr () → ¬ MayS ls)) ?_ 300 _ ⟨0, rfl, by omega, by simp, by simp [Srt]⟩ (by simp; omega)
    rintro z ⟨k, rfl, hk, hall, hsrt⟩
    unfold F52_shard_Check_s0
    simp only
    by_cases hi : k < ls.length
    · rw [if_pos (by simpa using hi)]
      obtain ⟨x, hx⟩ : ∃ x, ls[k]? = some x := ⟨_, List.getElem?_eq_getElem hi⟩
      rw [rd_nat, hx]
      simp only [Option.bind_some]
      have hxm := List.mem_of_getElem? hx
      by_cases h0 : x.Txs = []
      · rw [if_pos (by simp [h0])]
        simp only [Option.bind_some, if_true, StepOk]
        exact ⟨by simp, fun _ hm => (hm.1 x hxm).1 h0⟩
      · rw [if_neg (by simpa using h0)]
        by_cases hm : May x
        · rw [(check_val (hs.line x hxm)).1 hm]
          simp only [Option.bind_some]
          rw [if_neg (by simp)]
          by_cases hk0 : k = 0
          · subst hk0
            simp only [Int.natCast_zero, gt_iff_lt, Int.lt_irrefl, decide_false, Bool.false_eq_true, if_false, Option.bind_some, StepOk]
            rw [wi64 (by omega) (by omega)]
            refine ⟨⟨1, rfl, by omega, ?_, srt_snoc hs.dig hsrt hx (.inl rfl)⟩, by omega⟩
            rw [take_succ hx]; intro y hy; simp at hy; subst hy; exact ⟨h0, hm⟩
          · rw [if_pos (by simp; omega), wi64 (by omega) (by omega), show (k : Int) - 1 = ((k - 1 : Nat) : Int) from by omega, rd_nat]
            obtain ⟨y, hy⟩ : ∃ y, ls[k - 1]? = some y := ⟨_, List.getElem?_eq_getElem (by omega)⟩
            rw [hy]
            simp only [Option.bind_some]
            rw [lt_val (hs.dig y (List.mem_of_getElem? hy)) (hs.dig x hxm)]
            simp only [Option.bind_some]
            cases hl : lt y.From x.From with
            | false =>
              simp only [Bool.not_false, if_true, StepOk]
              refine ⟨by simp, fun _ hM => ?_⟩
              have := srt_at hM.2 hy hx (by omega)
              rw [hl] at this; cases this
            | true =>
              simp only [Bool.not_true, Bool.false_eq_true, if_false, StepOk]
              rw [wi64 (by omega) (by omega)]
              refine ⟨⟨k + 1, by omega, by omega, ?_, srt_snoc hs.dig hsrt hx (.inr ⟨y, hy, hl⟩)⟩, by omega⟩
              rw [take_succ hx]
              intro z hz
              rcases List.mem_append.1 hz with hz | hz
              · exact hall z hz
              · simp only [List.mem_singleton] at hz; subst hz; exact ⟨h0, hm⟩
        · rw [(check_val (hs.line x hxm)).2 hm]
          simp only [Option.bind_some]
          rw [if_pos (by simp)]
          simp only [Option.bind_some, if_true, StepOk]
          exact ⟨by simp, fun _ hM => hm (hM.1 x hxm).2⟩
    · rw [if_neg (by simpa using hi)]
      have hk' : k = ls.length := by omega
      subst hk'
      rw [List.take_length] at hall hsrt
      exact ⟨fun _ => ⟨hall, hsrt⟩, by simp⟩
  rw [hb]
  simp only [Option.bind_some]
  rcases b with ⟨⟩ | ⟨⟩
  · exact ⟨fun _ => rfl, fun h => absurd (hP.1 rfl) h⟩
  · exact ⟨fun h => absurd h (hP.2 rfl), fun _ => rfl⟩

/-! ### how many -/
theorem cnt_append (a b : List GLine) : cnt (a ++ b) = cnt a + cnt b := by simp [cnt]
theorem cnt_one (l : GLine) : cnt [l] = l.Txs.length := by simp [cnt]
theorem cnt_take_le (ls : List GLine) (k : Nat) : cnt (ls.take k) ≤ cnt ls := by
  conv => rhs; rw [← List.take_append_drop k ls, cnt_append]
  omega
theorem count_val {ls : List GLine} (hlen : ls.length ≤ 290) (hc : cnt ls ≤ 100000) : F53_shard_Count 300 ⟨ls⟩ = some (cnt ls : Int) := by
  unfold F53_shard_Count
  obtain ⟨b, hb, rfl⟩ : ∃ b, loopF (fun z : Int × Int => F53_shard_Count_s0 ⟨ls⟩ z.1 z.2) 300 ((0 : Int), (0 : Int)) = some b ∧ b = (cnt ls : Int) := by
    refine loop_ok (fun z => ∃ k : Nat, z = ((cnt (ls.take k) : Int), (k : Int)) ∧ k ≤ ls.length) (fun z => (ls.length - z.2).toNat) (fun b : Int => b = (cnt ls : Int)) ?_ 300 _ ⟨0, rfl, by omega⟩ (by simp; omega)
    rintro z ⟨k, rfl, hk⟩
    unfold F53_shard_Count_s0
    simp only
    by_cases hi : k < ls.length
    · rw [if_pos (by simpa using hi)]
      obtain ⟨x, hx⟩ : ∃ x, ls[k]? = some x := ⟨_, List.getElem?_eq_getElem hi⟩
      rw [rd_nat, hx]
      simp only [Option.bind_some, StepOk]
      have h1 := cnt_take_le ls (k + 1)
      have h2 : cnt (ls.take (k + 1)) = cnt (ls.take k) + x.Txs.length := by rw [take_succ hx, cnt_append, cnt_one]
      rw [wi64 (by omega) (by omega), wi64 (by omega) (by omega)]
      exact ⟨⟨k + 1, by rw [h2]; simp, by omega⟩, by omega⟩
    · rw [if_neg (by simpa using hi)]
      have hk' : k = ls.length := by omega
      subst hk'
      rw [List.take_length]; exact rfl
  rw [hb]; rfl
def cm (ls : List GLine) : Nat := (ls.map fun l => min 100 l.Txs.length).sum
theorem cm_cnt : ∀ {ls : List GLine}, cm ls < 100 → cnt ls = cm ls
  | [], _ => rfl
  | l :: ls, h => by
    have h1 : cm (l :: ls) = min 100 l.Txs.length + cm ls := by simp [cm]
    have h2 : cnt (l :: ls) = l.Txs.length + cnt ls := by simp [cnt]
    have := cm_cnt (ls := ls) (by omega)
    omega
theorem cm_le (ls : List GLine) : cm ls ≤ 100 * ls.length := by
  induction ls with
  | nil => simp [cm]
  | cons l ls ih =>
    have h1 : cm (l :: ls) = min 100 l.Txs.length + cm ls := by simp [cm]
    simp only [List.length_cons]; omega
theorem great_val (ls : List GLine) : ∃ b, F49_beadrollref20_Great 300 ⟨ls⟩ = some b ∧ (b = false → ls.length ≤ 6 ∧ cnt ls ≤ 20) := by
  unfold F49_beadrollref20_Great
  refine bP (S := fun o => ∃ b, o = some b ∧ (b = false → ls.length ≤ 6 ∧ cnt ls ≤ 20)) (Q := fun b : Int => ls.length ≤ 6 → b = (cm ls : Int)) ?_ fun b hb => ?_
  · refine loop_ok (fun z => ∃ k : Nat, z = ((cm (ls.take k) : Int), (k : Int)) ∧ k ≤ ls.length ∧ k ≤ 20) (fun z => (20 - z.2).toNat) _ ?_ 300 _ ⟨0, rfl, by omega, by omega⟩ (by simp)
    rintro z ⟨k, rfl, hk, hk2⟩
    unfold F49_beadrollref20_Great_s0
    simp only
    by_cases hi : k < ls.length ∧ k < 20
    · rw [if_pos (by simpa using hi.1)]
      simp only [Option.bind_some]
      rw [if_pos (by have := hi.2; simp; omega)]
      obtain ⟨x, hx⟩ : ∃ x, ls[k]? = some x := ⟨_, List.getElem?_eq_getElem hi.1⟩
      rw [rd_nat, hx]
      simp only [Option.bind_some, StepOk]
      have h2 : cm (ls.take (k + 1)) = cm (ls.take k) + min 100 x.Txs.length := by rw [take_succ hx]; simp [cm]
      have h3 := cm_le (ls.take k)
      have h4 : (ls.take k).length ≤ 20 := by simp; omega
      have h5 : (if (100 : Int) < (x.Txs.length : Int) then (100 : Int) else (x.Txs.length : Int)) = ((min 100 x.Txs.length : Nat) : Int) := by split <;> omega
      rw [h5, wi64 (by omega) (by omega), wi64 (by omega) (by omega)]
      exact ⟨⟨k + 1, by rw [h2]; simp, by omega, by omega⟩, by omega⟩
    · have he : ((if decide ((k : Int) < (ls.length : Int)) = true then some (decide ((k : Int) < (20 : Int))) else some false) : Option Bool) = some false := by
        by_cases h1 : k < ls.length
        · rw [if_pos (by simpa using h1)]
          have : ¬ k < 20 := fun h => hi ⟨h1, h⟩
          simp; omega
        · rw [if_neg (by simpa using h1)]
      rw [he]
      simp only [Option.bind_some, Bool.false_eq_true, if_false, StepOk]
      intro h6
      have : k = ls.length := by omega
      subst this; rw [List.take_length]
  · by_cases h6 : ls.length ≤ 6
    · rw [if_neg (by simp; omega)]
      refine ⟨_, rfl, fun hf => ⟨h6, ?_⟩⟩
      have := hb h6
      subst this
      have h20 : cm ls ≤ 20 := by
        have hf' : ((cm ls : Int) ≤ 20) := by simpa using hf
        omega
      rw [cm_cnt (by omega)]; exact h20
    · rw [if_pos (by simp; omega)]
      exact ⟨true, rfl, by simp⟩


theorem mem_cnt {ls : List GLine} {l : GLine} (h : l ∈ ls) : l.Txs.length ≤ cnt ls := by
  obtain ⟨a, b, rfl⟩ := List.append_of_mem h
  rw [cnt_append]
  have : cnt (l :: b) = l.Txs.length + cnt b := by simp [cnt]
  omega
theorem clone_val' {l : List GTx} (h : l.length ≤ 1073741824) : F76_Clone 300 l = some l := by unfold F76_Clone; rw [if_pos h]
/-! ### a shard's copy -/
theorem shtwin_val {ls : List GLine} (hlen : ls.length ≤ 290) (hc : cnt ls ≤ 100000) : F61_shard_Twin 300 ⟨ls⟩ = some ls := by
  unfold F61_shard_Twin F100_Clone
  rw [if_pos (by simp only; omega)]
  simp only [Option.bind_some]
  obtain ⟨b, hb, rfl⟩ : ∃ b, loopF (fun z : Int × List GLine => F61_shard_Twin_s0 300 ls z.1 z.2) 300 ((0 : Int), ls) = some b ∧ b = ls := by
    refine loop_ok (fun z => ∃ k : Nat, z = ((k : Int), ls) ∧ k ≤ ls.length) (fun z => (ls.length - z.1).toNat) (fun b : List GLine => b = ls) ?_ 300 _ ⟨0, rfl, by omega⟩ (by simp; omega)
    rintro z ⟨k, rfl, hk⟩
    unfold F61_shard_Twin_s0
    simp only
    by_cases hi : k < ls.length
    · rw [if_pos (by simpa using hi), rd_nat]
      obtain ⟨x, hx⟩ : ∃ x, ls[k]? = some x := ⟨_, List.getElem?_eq_getElem hi⟩
      rw [hx]
      simp only [Option.bind_some]
      have hxc := mem_cnt (List.mem_of_getElem? hx)
      unfold F47_queue_Twin
      rw [clone_val' (by omega)]
      simp only [Option.bind_some, StepOk]
      rw [wi64 (by omega) (by omega)]
      refine ⟨⟨k + 1, ?_, by omega⟩, by omega⟩
      have hset : ls.set k x = ls := by
        obtain ⟨h1, h2⟩ := List.getElem?_eq_some_iff.1 hx
        rw [← h2]; simp
      simp [hset]
    · rw [if_neg (by simpa using hi)]
      exact rfl
  rw [hb]; rfl

end Go.Proofs.YtonfljoibcnlgaaDoor
