/-
  A shard as plain data: a sender's line, a line that is set. No machine is in sight.
-/
import Derived.Test.YtonfljoibcnlgaaDoorPq
import Derived.Test.YtonfljoibcnlgaaDoorQc1
namespace Go.Proofs.YtonfljoibcnlgaaDoor
open Bd Go

/-! ### a sender's line -/
theorem drop_cons' {α : Type} {a : List α} {m : Nat} {x : α} (h : a[m]? = some x) : a.drop m = x :: a.drop (m + 1) := by
  obtain ⟨h1, h2⟩ := List.getElem?_eq_some_iff.1 h
  rw [List.drop_eq_getElem_cons h1, h2]
theorem idx_val {ls : List GLine} (hd : ∀ l ∈ ls, Dig l.From) {f : List Int} (hf : Dig f) (hlen : ls.length ≤ 290) :
    ∃ k : Nat, k ≤ ls.length ∧ (∀ i x, ls[i]? = some x → i < k → lt x.From f = true) ∧ ((k = ls.length ∧ F112_api_Line_65c 300 ls f = some (-1)) ∨ (F112_api_Line_65c 300 ls f = some (k : Int) ∧ ∃ x, ls[k]? = some x ∧ lt x.From f = false)) := by
  unfold F112_api_Line_65c
  obtain ⟨b, hb, hP⟩ : ∃ b, loopF (fun z => F112_api_Line_65c_s0 300 ls f z) 300 (0 : Int) = some b ∧ ∃ k : Nat, k ≤ ls.length ∧ (∀ i x, ls[i]? = some x → i < k → lt x.From f = true) ∧ ((k = ls.length ∧ b = .inl ()) ∨ (b = .inr (k : Int) ∧ ∃ x, ls[k]? = some x ∧ lt x.From f = false)) := by
    refine loop_ok (fun z => ∃ k : Nat, z = (k : Int) ∧ k ≤ ls.length ∧ (∀ i x, ls[i]? = some x → i < k → lt x.From f = true)) (fun z => (ls.length - z).toNat) _ ?_ 300 _ ⟨0, rfl, by omega, fun i x _ h => by omega⟩ (by simp; omega)
    rintro z ⟨k, rfl, hk, hall⟩
    unfold F112_api_Line_65c_s0 F147_shard_part_find_1_acc
    by_cases hi : k < ls.length
    · rw [if_pos (by simpa using hi)]
      obtain ⟨x, hx⟩ : ∃ x, ls[k]? = some x := ⟨_, List.getElem?_eq_getElem hi⟩
      rw [rd_nat, hx]
      simp only [Option.bind_some]
      rw [lt_val (hd x (List.mem_of_getElem? hx)) hf]
      simp only [Option.bind_some]
      cases hl : lt x.From f with
      | false =>
        simp only [Bool.not_false, if_true, StepOk]
        exact ⟨k, hk, hall, .inr ⟨rfl, x, hx, hl⟩⟩
      | true =>
        simp only [Bool.not_true, Bool.false_eq_true, if_false, StepOk]
        rw [wi64 (by omega) (by omega)]
        refine ⟨⟨k + 1, by omega, by omega, fun i y hy hik => ?_⟩, by omega⟩
        by_cases e : i = k
        · subst e; rw [hx] at hy; cases hy; exact hl
        · exact hall i y hy (by omega)
    · rw [if_neg (by simpa using hi)]
      exact ⟨k, hk, hall, .inl ⟨by omega, rfl⟩⟩
  rw [hb]
  simp only [Option.bind_some]
  obtain ⟨k, h1, h2, h3⟩ := hP
  refine ⟨k, h1, h2, ?_⟩
  rcases h3 with ⟨e, rfl⟩ | ⟨rfl, h⟩
  · exact .inl ⟨e, rfl⟩
  · exact .inr ⟨rfl, h⟩

/-- a shard's lines about a sender: those ahead, its own, those behind -/
structure About (ls : List GLine) (f : List Int) (P M S : List GLine) : Prop where
  eq : ls = P ++ M ++ S
  ahead : ∀ l ∈ P, lt l.From f = true
  behind : ∀ l ∈ S, lt f l.From = true
  own : M = [] ∨ ∃ y, M = [y] ∧ y.From = f

theorem about {ls : List GLine} (hd : ∀ l ∈ ls, Dig l.From) (hs : Srt ls) {f : List Int} (hf : Dig f) (hlen : ls.length ≤ 290) :
    ∃ P M S, About ls f P M S ∧ F119_shard_part_find_363 300 f ls = some ((P.length : Int), !M.isEmpty) := by
  obtain ⟨k, h1, h2, h3⟩ := idx_val hd hf hlen
  have hP : ∀ l ∈ ls.take k, lt l.From f = true := fun l hl => by
    obtain ⟨i, hi⟩ := List.getElem?_of_mem hl
    rw [List.getElem?_take] at hi
    split at hi
    · exact h2 i l hi (by omega)
    · cases hi
  unfold F119_shard_part_find_363
  rcases h3 with ⟨rfl, h⟩ | ⟨h, x, hx, hlt⟩
  · rw [List.take_length] at hP
    refine ⟨ls, [], [], ⟨by simp, hP, by simp, .inl rfl⟩, ?_⟩
    rw [h]
    simp only [Option.bind_some]
    rw [if_pos (by decide)]; rfl
  · have hxm := List.mem_of_getElem? hx
    have hk : k < ls.length := (List.getElem?_eq_some_iff.1 hx).1
    have hdrop : ls.drop k = x :: ls.drop (k + 1) := drop_cons' hx
    have hS : ∀ l ∈ ls.drop (k + 1), lt x.From l.From = true := fun l hl => by
      obtain ⟨i, hi⟩ := List.getElem?_of_mem hl
      rw [List.getElem?_drop] at hi
      exact srt_at hs hx hi (by omega)
    rw [h]
    simp only [Option.bind_some]
    rw [if_neg (by simp), rd_nat, hx]
    simp only [Option.bind_some]
    have hlen' : ((ls.take k).length : Int) = (k : Int) := by rw [List.length_take]; omega
    by_cases he : x.From = f
    · refine ⟨ls.take k, [x], ls.drop (k + 1), ⟨?_, hP, fun l hl => he ▸ hS l hl, .inr ⟨x, rfl, he⟩⟩, by rw [hlen']; simp [he]⟩
      rw [List.append_assoc, List.singleton_append, ← hdrop, List.take_append_drop]
    · have hfx : lt f x.From = true := by
        cases hc : lt f x.From with
        | true => rfl
        | false => exact absurd (lt_eq (hd x hxm) hf hlt hc) he
      refine ⟨ls.take k, [], ls.drop k, ⟨by simp, hP, fun l hl => ?_, .inl rfl⟩, by rw [hlen']; simp [he]⟩
      rw [hdrop] at hl
      rcases List.mem_cons.1 hl with rfl | hl
      · exact hfx
      · exact lt_trans hf (hd x hxm) (hd l (List.mem_of_mem_drop hl)) hfx (hS l hl)
theorem find_none {P : List GLine} {f : List Int} (h : ∀ l ∈ P, l.From ≠ f) : (P.find? fun l => decide (l.From = f)) = none := List.find?_eq_none.2 fun l hl => by simpa using h l hl
theorem About.line {ls : List GLine} {f : List Int} {P M S : List GLine} (h : About ls f P M S) : lineOf ls f = (M.head?).getD ⟨f, []⟩ := by
  have hP := find_none (P := P) (f := f) fun l hl => lt_ne (h.ahead l hl)
  have hS := find_none (P := S) (f := f) fun l hl => (lt_ne (h.behind l hl)).symm
  unfold lineOf
  rw [h.eq, List.append_assoc, List.find?_append, hP, List.find?_append, hS]
  rcases h.own with rfl | ⟨y, rfl, hy⟩
  · rfl
  · simp [List.find?, hy]
/-- a line that is set -/
def setL (P : List GLine) (l : GLine) (S : List GLine) : List GLine := P ++ (if l.Txs = [] then [] else [l]) ++ S
theorem del_val {α : Type} {k : Nat} {P S : List GLine} {y : GLine} (_ : k = P.length) (hl : (P ++ [y] ++ S).length ≤ 1000) : F121_Delete 300 (k : Int) (IntKind.i64.wrap ((k : Int) + 1)) (P ++ [y] ++ S) = some (P ++ S) := by
  subst k
  have hl' : P.length + 1 + S.length ≤ 1000 := by simp at hl; omega
  unfold F121_Delete
  rw [wi64 (by omega) (by omega), if_pos ⟨by omega, by omega, by simp; omega, by simp; omega⟩]
  congr 1
  have e : ((P.length : Int) + 1).toNat = P.length + 1 := by omega
  rw [e, Int.toNat_natCast]
  simp [List.take_append, List.drop_append]
theorem ins122_val {k : Nat} {l : List GLine} {x : GLine} (hk : k ≤ l.length) (hl : l.length ≤ 1000) : F122_Insert 300 (k : Int) l [x] = some (l.take k ++ [x] ++ l.drop k) := by
  unfold F122_Insert
  rw [if_pos ⟨by omega, by omega, rfl, by simp; omega⟩, Int.toNat_natCast]
theorem set_val {ls : List GLine} (hd : ∀ l ∈ ls, Dig l.From) (hs : Srt ls) {l : GLine} (hf : Dig l.From) (hlen : ls.length ≤ 290) :
    ∃ P M S, About ls l.From P M S ∧ F95_shard_part_set_ddb 300 l ls = some (setL P l S) := by
  obtain ⟨P, M, S, hA, h⟩ := about hd hs hf hlen
  refine ⟨P, M, S, hA, ?_⟩
  have hle : P.length + M.length + S.length = ls.length := by rw [hA.eq]; simp [Nat.add_assoc]
  unfold F95_shard_part_set_ddb
  rw [h]
  simp only [Option.bind_some]
  rcases hA.own with rfl | ⟨y, rfl, hy⟩
  · simp only [List.isEmpty_nil, Bool.not_true, Bool.false_eq_true, if_false, Option.bind_some]
    by_cases h0 : l.Txs = []
    · rw [if_neg (by simp [h0])]
      simp only [setL, h0, if_true]
      rw [hA.eq]
    · have hpos : 0 < l.Txs.length := List.length_pos_iff.2 h0
      rw [if_pos (by simpa using hpos), ins122_val (by omega) (by omega)]
      simp only [Option.bind_some, setL, h0, if_false]
      rw [hA.eq]; simp
  · simp only [List.isEmpty_cons, Bool.not_false, if_true, Option.bind_some]
    by_cases h0 : l.Txs = []
    · rw [if_pos (by simp [h0])]
      have := del_val (α := Unit) (k := P.length) (P := P) (S := S) (y := y) rfl (by rw [← hA.eq]; omega)
      rw [hA.eq, this]
      simp [setL, h0]
    · rw [if_neg (by simpa using h0)]
      simp only [List.length_cons, List.length_nil] at hle
      rw [rd_nat, hA.eq]
      have : (P ++ [y] ++ S)[P.length]? = some y := by simp
      rw [this]
      simp only [Option.bind_some, setL, h0, if_false, Nat.zero_add, Int.toNat_natCast]
      simp [List.set_append]
theorem line_val {ls : List GLine} (hd : ∀ l ∈ ls, Dig l.From) (hs : Srt ls) {f : List Int} (hf : Dig f) (hlen : ls.length ≤ 290) : F93_shard_part_line_ec6 300 f ls = some (lineOf ls f) := by
  obtain ⟨P, M, S, hA, h⟩ := about hd hs hf hlen
  unfold F93_shard_part_line_ec6
  rw [h, hA.line]
  simp only [Option.bind_some]
  rcases hA.own with rfl | ⟨y, rfl, hy⟩
  · rfl
  · simp only [List.isEmpty_cons, Bool.not_false, Bool.not_true, Bool.false_eq_true, if_false]
    rw [rd_nat, hA.eq]
    have : (P ++ [y] ++ S)[P.length]? = some y := by simp
    rw [this]; rfl

/-- what is set comes to -/
theorem setL_spec {ls : List GLine} (hd : ∀ l ∈ ls, Dig l.From) (hm : MayS ls) {l : GLine} (hf : Dig l.From) (hl : May l) {P M S : List GLine} (hA : About ls l.From P M S) :
    MayS (setL P l S) ∧ lineOf (setL P l S) l.From = l ∧ (∀ g, g ≠ l.From → lineOf (setL P l S) g = lineOf ls g) ∧ cnt (setL P l S) + (lineOf ls l.From).Txs.length = cnt ls + l.Txs.length ∧ (setL P l S).length ≤ ls.length + 1 ∧
      (∀ x ∈ setL P l S, x = l ∨ x ∈ ls) := by
  have hmem : ∀ x ∈ setL P l S, (x = l ∧ l.Txs ≠ []) ∨ x ∈ P ∨ x ∈ S := fun x hx => by
    unfold setL at hx
    split at hx <;> simp at hx <;> rcases hx with h | h <;> simp_all
    rcases h with h | h <;> simp_all
  have hPls : ∀ x ∈ P, x ∈ ls := fun x hx => by rw [hA.eq]; simp [hx]
  have hSls : ∀ x ∈ S, x ∈ ls := fun x hx => by rw [hA.eq]; simp [hx]
  have hsrt := hm.2
  unfold Srt at hsrt
  rw [hA.eq, List.append_assoc] at hsrt
  obtain ⟨sP, sMS, sPM⟩ := List.pairwise_append.1 hsrt
  obtain ⟨sM, sS, sMS2⟩ := List.pairwise_append.1 sMS
  have hPS : ∀ a ∈ P, ∀ b ∈ S, lt a.From b.From = true := fun a ha b hb => sPM a ha b (by simp [hb])
  have hA2 : About (setL P l S) l.From P (if l.Txs = [] then [] else [l]) S := ⟨rfl, hA.ahead, hA.behind, by split; exact .inl rfl; exact .inr ⟨l, rfl, rfl⟩⟩
  refine ⟨⟨fun x hx => ?_, ?_⟩, ?_, fun g hg => ?_, ?_, ?_, fun x hx => ?_⟩
  · rcases hmem x hx with ⟨rfl, h⟩ | h | h
    · exact ⟨h, hl⟩
    · exact hm.1 x (hPls x h)
    · exact hm.1 x (hSls x h)
  · unfold Srt setL
    rw [List.append_assoc]
    refine List.pairwise_append.2 ⟨sP, List.pairwise_append.2 ⟨by split <;> simp, sS, fun a ha b hb => ?_⟩, fun a ha b hb => ?_⟩
    · split at ha
      · cases ha
      · simp only [List.mem_singleton] at ha; subst ha; exact hA.behind b hb
    · rcases List.mem_append.1 hb with hb | hb
      · split at hb
        · cases hb
        · simp only [List.mem_singleton] at hb; subst hb; exact hA.ahead a ha
      · exact hPS a ha b hb
  · rw [hA2.line]
    split
    · next h => simp only [List.head?_nil, Option.getD_none]; cases l; simp_all
    · rfl
  · unfold lineOf setL
    rw [hA.eq]
    simp only [List.find?_append]
    have e1 : ((if l.Txs = [] then [] else [l]).find? fun l => decide (l.From = g)) = none := find_none fun x hx => by
      split at hx
      · cases hx
      · simp only [List.mem_singleton] at hx; subst hx; exact hg.symm
    have e2 : (M.find? fun l => decide (l.From = g)) = none := find_none fun x hx => by
      rcases hA.own with rfl | ⟨y, rfl, hy⟩
      · cases hx
      · simp only [List.mem_singleton] at hx; subst hx; rw [hy]; exact hg.symm
    rw [e1, e2]
  · rw [hA.line]
    have e1 : cnt (setL P l S) = cnt P + l.Txs.length + cnt S := by
      unfold setL
      rw [cnt_append, cnt_append]
      split
      · next h => simp [cnt, h]
      · rw [cnt_one]
    have e2 : cnt ls = cnt P + cnt M + cnt S := by rw [hA.eq, cnt_append, cnt_append]
    rw [e1, e2]
    rcases hA.own with rfl | ⟨y, rfl, hy⟩
    · simp [cnt]; omega
    · rw [cnt_one]; simp; omega
  · unfold setL
    rw [hA.eq]
    split <;> simp <;> omega
  · rcases hmem x hx with ⟨rfl, _⟩ | h | h
    · exact .inl rfl
    · exact .inr (hPls x h)
    · exact .inr (hSls x h)
end Go.Proofs.YtonfljoibcnlgaaDoor
