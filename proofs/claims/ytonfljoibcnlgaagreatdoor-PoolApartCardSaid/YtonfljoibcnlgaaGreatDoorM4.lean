import Derived.Test.YtonfljoibcnlgaaGreatDoorM2
import Derived.Test.YtonfljoibcnlgaaGreatDoorM3
namespace Go.Proofs.YtonfljoibcnlgaaGreatDoor
open Bd Go
theorem all_loop {β : Type} (N : Nat) (hN : N < 1000) (good : Nat → Prop) (f : Int → Option (Int ⊕ (Unit ⊕ β))) (h1 : ∀ k : Nat, k < N → good k → f k = some (.inl ((k + 1 : Nat) : Int))) (h2 : ∀ k : Nat, k < N → ¬ good k → ∃ b, f k = some (.inr (.inr b)))
    (hend : f N = some (.inr (.inl ()))) : ((∀ k, k < N → good k) → loopF f 1000 0 = some (.inl ())) ∧ (¬ (∀ k, k < N → good k) → ∃ b, loopF f 1000 0 = some (.inr b)) := by
  have key : ∀ (M k n : Nat), k + M = N → M < n → (∀ j, j < k → good j) → ((∀ j, j < N → good j) → loopF f n (k : Int) = some (.inl ())) ∧ (¬ (∀ j, j < N → good j) → ∃ b, loopF f n (k : Int) = some (.inr b)) := by
    intro M
    induction M with
    | zero =>
      intro k n hk hn hg
      obtain ⟨n, rfl⟩ : ∃ m, n = m + 1 := ⟨n - 1, by omega⟩
      simp only [loopF]
      rw [show k = N from by omega, hend]
      exact ⟨fun _ => rfl, fun h => absurd (fun j hj => hg j (by omega)) h⟩
    | succ M ih =>
      intro k n hk hn hg
      obtain ⟨n, rfl⟩ : ∃ m, n = m + 1 := ⟨n - 1, by omega⟩
      simp only [loopF]
      by_cases hgk : good k
      · rw [h1 k (by omega) hgk]
        exact ih (k + 1) n (by omega) (by omega) fun j hj => by
          by_cases e : j = k
          · subst e; exact hgk
          · exact hg j (by omega)
      · obtain ⟨b, hb⟩ := h2 k (by omega) hgk
        rw [hb]
        exact ⟨fun h => absurd (h k (by omega)) hgk, fun _ => ⟨b, rfl⟩⟩
  exact key N 0 1000 (by omega) hN fun j hj => by omega
theorem same_gen {α : Type} [DecidableEq α] {a b : List α} (hl : a.length ≤ 290) {f : Int → Option (Int ⊕ (Unit ⊕ Unit))} (hf : ∀ (k : Nat) x y, a[k]? = some x → b[k]? = some y → f k = if x = y then some (.inl ((k + 1 : Nat) : Int)) else some (.inr (.inr ())))
    (hend : f a.length = some (.inr (.inl ()))) : (if ((a.length : Int) != (b.length : Int)) = true then some false else (loopF f 1000 0).bind (Sum.elim (fun _ => some true) (fun _ => some false))) = some (decide (a = b)) := by
  by_cases hab : a.length = b.length
  · rw [if_neg (by simp [hab])]
    obtain ⟨h1, h2⟩ := all_loop a.length (by omega) (fun k => a[k]? = b[k]?) f
      (fun k hk hg => by
        have hx : a[k]? = some a[k] := List.getElem?_eq_getElem hk
        have hy : b[k]? = some (b[k]'(by omega)) := List.getElem?_eq_getElem (by omega)
        rw [hf k _ _ hx hy, if_pos]
        rw [hx, hy] at hg; exact Option.some.inj hg)
      (fun k hk hg => by
        have hx : a[k]? = some a[k] := List.getElem?_eq_getElem hk
        have hy : b[k]? = some (b[k]'(by omega)) := List.getElem?_eq_getElem (by omega)
        refine ⟨(), ?_⟩
        rw [hf k _ _ hx hy, if_neg]
        intro e; exact hg (by rw [hx, hy, e]))
      hend
    by_cases h : ∀ k, k < a.length → a[k]? = b[k]?
    · rw [h1 h]
      have : a = b := List.ext_getElem? fun k => by
        by_cases hk : k < a.length
        · exact h k hk
        · rw [List.getElem?_eq_none (by omega), List.getElem?_eq_none (by omega)]
      simp [this]
    · obtain ⟨u, hu⟩ := h2 h
      rw [hu]
      have : a ≠ b := fun e => h fun k _ => by rw [e]
      simp [this]
  · rw [if_pos (by simp; omega)]
    have : a ≠ b := fun e => hab (by rw [e])
    simp [this]
theorem rd_two {α : Type} {a : List α} {k : Nat} {x : α} (h : a[k]? = some x) : rd a (k : Int) = some x := by rw [rd_nat, h]
theorem sametxs_val {a b : List GTx} (hl : a.length ≤ 290) : F14_beadrollref19_SameTxs 1000 a b = some (decide (a = b)) := by
  unfold F14_beadrollref19_SameTxs
  refine same_gen hl (fun k x y hx hy => ?_) ?_
  · have hk := (List.getElem?_eq_some_iff.1 hx).1
    unfold F14_beadrollref19_SameTxs_s0
    rw [if_pos (by simpa using hk), rd_two hx, rd_two hy]
    simp only [Option.bind_some]
    rw [wi64 (by omega) (by omega)]
    by_cases e : x = y <;> simp [e]
  · unfold F14_beadrollref19_SameTxs_s0
    rw [if_neg (by simp)]
theorem line_eq_iff (x y : GLine) : x = y ↔ x.From = y.From ∧ x.Txs = y.Txs := by cases x; cases y; simp
theorem same19_val {x y : GLine} (hl : x.Txs.length ≤ 290) : F48_beadrollref19_Same 1000 x y = some (decide (x = y)) := by
  unfold F48_beadrollref19_Same
  by_cases h : x.From = y.From
  · rw [if_pos (by simpa using h), sametxs_val hl]
    simp [line_eq_iff, h]
  · rw [if_neg (by simpa using h)]
    simp [line_eq_iff, h]
theorem same20_val {a b : List GLine} (hl : a.length ≤ 290) (hc : cnt a ≤ 290) : F13_beadrollref20_Same 1000 ⟨a⟩ ⟨b⟩ = some (decide (a = b)) := by
  unfold F13_beadrollref20_Same
  refine same_gen hl (fun k x y hx hy => ?_) ?_
  · have hk := (List.getElem?_eq_some_iff.1 hx).1
    have hxc := mem_cnt (List.mem_of_getElem? hx)
    unfold F13_beadrollref20_Same_s0
    rw [if_pos (by simpa using hk)]
    simp only
    rw [rd_two hx, rd_two hy]
    simp only [Option.bind_some]
    rw [same19_val (by omega)]
    simp only [Option.bind_some]
    rw [wi64 (by omega) (by omega)]
    by_cases e : x = y <;> simp [e]
  · unfold F13_beadrollref20_Same_s0
    rw [if_neg (by simp)]
def Few (p : List GShard) : Prop := p.length ≤ 10 ∧ ∀ s ∈ p, s.Lines.length ≤ 6 ∧ cnt s.Lines ≤ 20
theorem great21_val (p : List GShard) : ∃ b, F16_beadrollref21_Great 1000 p = some b ∧ (b = false → Few p) := by
  unfold F16_beadrollref21_Great
  obtain ⟨b, hb, hP⟩ : ∃ b, loopF (fun z => F16_beadrollref21_Great_s0 1000 p z) 1000 (0 : Int) = some b ∧ (b = .inl () → p.length ≤ 10 → ∀ s ∈ p, s.Lines.length ≤ 6 ∧ cnt s.Lines ≤ 20) := by
    refine loop_ok (fun z => ∃ k : Nat, z = (k : Int) ∧ k ≤ p.length ∧ k ≤ 10 ∧ ∀ s ∈ p.take k, s.Lines.length ≤ 6 ∧ cnt s.Lines ≤ 20) (fun z => (10 - z).toNat) (fun b : Unit ⊕ Unit => b = .inl () → p.length ≤ 10 → ∀ s ∈ p, s.Lines.length ≤ 6 ∧ cnt s.Lines ≤ 20) ?_ 1000 _ ⟨0, rfl, by omega, by omega, by simp⟩ (by simp)
    rintro z ⟨k, rfl, hk, hk2, hall⟩
    unfold F16_beadrollref21_Great_s0
    by_cases hi : k < p.length ∧ k < 10
    · rw [if_pos (by simpa using hi.1)]
      simp only [Option.bind_some]
      rw [if_pos (by have := hi.2; simp; omega)]
      obtain ⟨x, hx⟩ : ∃ x, p[k]? = some x := ⟨_, List.getElem?_eq_getElem hi.1⟩
      rw [rd_two hx]
      simp only [Option.bind_some]
      obtain ⟨b, hb, hg⟩ := great_val x.Lines
      rw [show F6_beadrollref20_Great 1000 x = some b from hb]
      simp only [Option.bind_some]
      cases b with
      | true =>
        simp only [if_true, StepOk]
        intro h; cases h
      | false =>
        simp only [Bool.false_eq_true, if_false, StepOk]
        rw [wi64 (by omega) (by omega)]
        refine ⟨⟨k + 1, by simp, by omega, by omega, fun s hs => ?_⟩, by omega⟩
        rw [take_succ hx] at hs
        rcases List.mem_append.1 hs with hs | hs
        · exact hall s hs
        · simp only [List.mem_singleton] at hs; subst hs; exact hg rfl
    · have he : ((if decide ((k : Int) < (p.length : Int)) = true then some (decide ((k : Int) < (10 : Int))) else some false) : Option Bool) = some false := by
        by_cases h1 : k < p.length
        · rw [if_pos (by simpa using h1)]
          have : ¬ k < 10 := fun h => hi ⟨h1, h⟩
          simp; omega
        · rw [if_neg (by simpa using h1)]
      rw [he]
      simp only [Option.bind_some, Bool.false_eq_true, if_false, StepOk]
      intro _ h10 s hs
      have : k = p.length := by omega
      subst this
      rw [List.take_length] at hall
      exact hall s hs
  rw [hb]
  simp only [Option.bind_some]
  rcases b with ⟨⟩ | ⟨⟩
  · refine ⟨_, rfl, fun h => ?_⟩
    have h10 : p.length ≤ 10 := by
      have : ¬ (p.length : Int) > 10 := by simpa using h
      omega
    exact ⟨h10, hP rfl h10⟩
  · exact ⟨true, rfl, by simp⟩
end Go.Proofs.YtonfljoibcnlgaaGreatDoor
namespace Go.Proofs.YtonfljoibcnlgaaGreatDoor
open Bd Go
theorem len_cnt : ∀ {ls : List GLine}, (∀ l ∈ ls, l.Txs ≠ []) → ls.length ≤ cnt ls
  | [], _ => Nat.le_refl _
  | l :: r, h => by
    have h1 := List.length_pos_iff.2 (h l (by simp))
    have h2 := len_cnt (ls := r) fun x hx => h x (by simp [hx])
    have : cnt (l :: r) = l.Txs.length + cnt r := by simp [cnt]
    simp only [List.length_cons]
    omega
def pl (f : List Int) (n : Nat) : Nat := ((f[31]?).getD 0).toNat % n
theorem at_val {f : List Int} (hf : Dig f) {n : Nat} (h1 : 1 ≤ n) (h8 : n ≤ 8) : F26_pool_At 1000 f (n : Int) = some ((pl f n : Int), 0) := by
  obtain ⟨v, hv⟩ : ∃ v, f[31]? = some v := ⟨_, List.getElem?_eq_getElem (by rw [hf.1]; decide)⟩
  have hb := hf.2 v (List.mem_of_getElem? hv)
  unfold F26_pool_At pl
  rw [if_neg (by simp; omega)]
  simp only [Option.bind_some]
  rw [if_neg (by simp; omega), show (31 : Int) = ((31 : Nat) : Int) from rfl, rd_nat, hv]
  simp only [Option.bind_some, Option.getD_some]
  rw [if_neg (by omega), wi64 (by omega) (by omega), Int.tmod_eq_emod_of_nonneg (by omega)]
  congr 2
  rw [Int.natCast_emod, Int.toNat_of_nonneg (by omega)]
theorem pl_lt (f : List Int) {n : Nat} (h : 1 ≤ n) : pl f n < n := Nat.mod_lt _ h
def pcnt (A : List GShard) : Nat := (A.map fun s => cnt s.Lines).sum
structure PoolG (A : List GShard) : Prop where
  len : 1 ≤ A.length
  len8 : A.length ≤ 8
  ok : ∀ s ∈ A, ShOk s.Lines
  may : ∀ s ∈ A, MayS s.Lines
  at_ : ∀ (i : Nat) s, A[i]? = some s → ∀ l ∈ s.Lines, pl l.From A.length = i
def shAt (A : List GShard) (i : Nat) : List GLine := ((A[i]?).map (·.Lines)).getD []
def lineAt (A : List GShard) (f : List Int) : GLine := lineOf (shAt A (pl f A.length)) f
theorem mem_pcnt {s : GShard} : ∀ {A : List GShard}, s ∈ A → cnt s.Lines ≤ pcnt A
  | [], h => by cases h
  | a :: A, h => by
    have e : pcnt (a :: A) = cnt a.Lines + pcnt A := by simp [pcnt]
    rcases List.mem_cons.1 h with rfl | h
    · omega
    · have := mem_pcnt h; omega
theorem pcnt_set : ∀ {A : List GShard} {i : Nat} {s s' : GShard}, A[i]? = some s → pcnt (A.set i s') + cnt s.Lines = pcnt A + cnt s'.Lines
  | [], i, s, s', h => by simp at h
  | a :: A, 0, s, s', h => by
    simp only [List.getElem?_cons_zero, Option.some.injEq] at h
    subst h
    simp [pcnt]; omega
  | a :: A, i + 1, s, s', h => by
    have := pcnt_set (A := A) (i := i) (s := s) (s' := s') (by simpa using h)
    simp only [pcnt, List.set_cons_succ, List.map_cons, List.sum_cons] at this ⊢
    omega
theorem ptwin_val {A : List GShard} (h : PoolG A) (hc : pcnt A ≤ 290) : F97_pool_Twin 1000 A = some A := by
  have h8 := h.len8
  unfold F97_pool_Twin
  obtain ⟨b, hb, rfl⟩ : ∃ b, loopF (fun z : Int × List GShard => F97_pool_Twin_s0 1000 A z.1 z.2) 1000 ((0 : Int), ([] : List GShard)) = some b ∧ b = A := by
    refine loop_ok (fun z => ∃ k : Nat, z = ((k : Int), A.take k) ∧ k ≤ A.length) (fun z => (A.length - z.1).toNat) (fun b : List GShard => b = A) ?_ 1000 _ ⟨0, by simp, by omega⟩ (by simp; omega)
    rintro z ⟨k, rfl, hk⟩
    unfold F97_pool_Twin_s0
    simp only
    by_cases hi : k < A.length
    · rw [if_pos (by simpa using hi), rd_nat]
      obtain ⟨s, hs⟩ : ∃ s, A[k]? = some s := ⟨_, List.getElem?_eq_getElem hi⟩
      have hsm := List.mem_of_getElem? hs
      have hcs := mem_pcnt hsm
      have hln := len_cnt fun l hl => ((h.may s hsm).1 l hl).1
      rw [hs]
      simp only [Option.bind_some]
      rw [show s = ⟨s.Lines⟩ from rfl, shtwin_val (by omega) (by omega)]
      simp only [Option.bind_some]
      rw [if_pos (by simp; omega)]
      simp only [StepOk]
      rw [wi64 (by omega) (by omega)]
      exact ⟨⟨k + 1, by rw [take_succ hs]; simp, by omega⟩, by omega⟩
    · rw [if_neg (by simpa using hi)]
      have hk' : k = A.length := by omega
      subst hk'
      simp only [StepOk, List.take_length]
  rw [hb]; rfl
theorem misplaced_val {A : List GShard} (h : PoolG A) {i : Nat} {s : GShard} (hs : A[i]? = some s) (hc : s.Lines.length ≤ 290) : F105_api_Line_85c 1000 s.Lines A (i : Int) = some false := by
  have h8 := h.len8
  have h1 := h.len
  have hsm := List.mem_of_getElem? hs
  unfold F105_api_Line_85c F117_api_Line_d1a
  obtain ⟨b, hb, rfl⟩ : ∃ b, loopF (fun z => F117_api_Line_d1a_s0 1000 s.Lines A (i : Int) z) 1000 (0 : Int) = some b ∧ b = .inl () := by
    refine loop_ok (fun z => ∃ k : Nat, z = (k : Int) ∧ k ≤ s.Lines.length) (fun z => (s.Lines.length - z).toNat) (fun b : Unit ⊕ Int => b = .inl ()) ?_ 1000 _ ⟨0, rfl, by omega⟩ (by simp; omega)
    rintro z ⟨k, rfl, hk⟩
    unfold F117_api_Line_d1a_s0 F106_pool_Check_1_dd9
    by_cases hi : k < s.Lines.length
    · rw [if_pos (by simpa using hi), rd_nat]
      obtain ⟨l, hl⟩ : ∃ l, s.Lines[k]? = some l := ⟨_, List.getElem?_eq_getElem hi⟩
      have hlm := List.mem_of_getElem? hl
      rw [hl]
      simp only [Option.bind_some]
      rw [at_val ((h.ok s hsm).dig l hlm) h1 h8, h.at_ i s hs l hlm]
      simp only [Option.bind_some, bne_self_eq_false, Bool.false_eq_true, if_false, StepOk]
      rw [wi64 (by omega) (by omega)]
      exact ⟨⟨k + 1, by simp, by omega⟩, by omega⟩
    · rw [if_neg (by simpa using hi)]
      simp only [StepOk]
  rw [hb]; rfl
theorem pcheck_val {A : List GShard} (h : PoolG A) (hc : pcnt A ≤ 290) : F64_pool_Check 1000 A = some 0 := by
  have h8 := h.len8
  have h1 := h.len
  unfold F64_pool_Check
  rw [if_neg (by simp; omega)]
  simp only [Option.bind_some]
  rw [if_neg (by simp; omega)]
  obtain ⟨b, hb, rfl⟩ : ∃ b, loopF (fun z => F64_pool_Check_s0 1000 A z) 1000 (0 : Int) = some b ∧ b = .inl () := by
    refine loop_ok (fun z => ∃ k : Nat, z = (k : Int) ∧ k ≤ A.length) (fun z => (A.length - z).toNat) (fun b : Unit ⊕ Unit => b = .inl ()) ?_ 1000 _ ⟨0, rfl, by omega⟩ (by simp; omega)
    rintro z ⟨k, rfl, hk⟩
    unfold F64_pool_Check_s0
    by_cases hi : k < A.length
    · rw [if_pos (by simpa using hi), rd_nat]
      obtain ⟨s, hs⟩ : ∃ s, A[k]? = some s := ⟨_, List.getElem?_eq_getElem hi⟩
      have hsm := List.mem_of_getElem? hs
      have hcs := mem_pcnt hsm
      have hln := len_cnt fun l hl => ((h.may s hsm).1 l hl).1
      have hck := (shcheck_val (h.ok s hsm) (by omega)).1 (h.may s hsm)
      rw [hs]
      simp only [Option.bind_some]
      rw [show (⟨s.Lines⟩ : GShard) = s from rfl] at hck
      rw [hck]
      simp only [Option.bind_some]
      rw [if_neg (by simp), misplaced_val h hs (by omega)]
      simp only [Option.bind_some, Bool.false_eq_true, if_false, StepOk]
      rw [wi64 (by omega) (by omega)]
      exact ⟨⟨k + 1, by simp, by omega⟩, by omega⟩
    · rw [if_neg (by simpa using hi)]
      simp only [StepOk]
  rw [hb]; rfl
end Go.Proofs.YtonfljoibcnlgaaGreatDoor
namespace Go.Proofs.YtonfljoibcnlgaaGreatDoor
open Bd Go
theorem pcnt_few : ∀ {A : List GShard}, (∀ s ∈ A, s.Lines.length ≤ 6 ∧ cnt s.Lines ≤ 20) → pcnt A ≤ 20 * A.length
  | [], _ => Nat.le_refl _
  | s :: A, h => by
    have h1 := (h s (by simp)).2
    have h2 := pcnt_few (A := A) fun x hx => h x (by simp [hx])
    have e : pcnt (s :: A) = cnt s.Lines + pcnt A := by simp [pcnt]
    simp only [List.length_cons]
    omega
theorem few_pcnt {A : List GShard} (h : Few A) : pcnt A ≤ 200 := by
  have h1 := pcnt_few h.2
  have h2 := h.1
  omega
theorem placed_or {A : List GShard} (h1 : 1 ≤ A.length) (h8 : A.length ≤ 8) {ls : List GLine} (hd : ∀ l ∈ ls, Dig l.From) (i : Nat) (hc : ls.length ≤ 290) : ∃ b, F105_api_Line_85c 1000 ls A (i : Int) = some b ∧ (b = false → ∀ l ∈ ls, pl l.From A.length = i) := by
  unfold F105_api_Line_85c F117_api_Line_d1a
  obtain ⟨b, hb, hP⟩ : ∃ b, loopF (fun z => F117_api_Line_d1a_s0 1000 ls A (i : Int) z) 1000 (0 : Int) = some b ∧ ((b = .inl () → ∀ l ∈ ls, pl l.From A.length = i) ∧ ∀ j, b = .inr j → 0 ≤ j) := by
    refine loop_ok (fun z => ∃ k : Nat, z = (k : Int) ∧ k ≤ ls.length ∧ ∀ l ∈ ls.take k, pl l.From A.length = i) (fun z => (ls.length - z).toNat) (fun b : Unit ⊕ Int => (b = .inl () → ∀ l ∈ ls, pl l.From A.length = i) ∧ ∀ j, b = .inr j → 0 ≤ j) ?_ 1000 _ ⟨0, rfl, by omega, by simp⟩ (by simp; omega)
    rintro z ⟨k, rfl, hk, hall⟩
    unfold F117_api_Line_d1a_s0 F106_pool_Check_1_dd9
    by_cases hi : k < ls.length
    · rw [if_pos (by simpa using hi), rd_nat]
      obtain ⟨l, hl⟩ : ∃ l, ls[k]? = some l := ⟨_, List.getElem?_eq_getElem hi⟩
      have hlm := List.mem_of_getElem? hl
      rw [hl]
      simp only [Option.bind_some]
      rw [at_val (hd l hlm) h1 h8]
      simp only [Option.bind_some]
      by_cases he : pl l.From A.length = i
      · rw [if_neg (by simp [he])]
        simp only [StepOk]
        rw [wi64 (by omega) (by omega)]
        refine ⟨⟨k + 1, by simp, by omega, fun y hy => ?_⟩, by omega⟩
        rw [take_succ hl] at hy
        rcases List.mem_append.1 hy with hy | hy
        · exact hall y hy
        · simp only [List.mem_singleton] at hy; subst hy; exact he
      · rw [if_pos (by simp; omega)]
        simp only [StepOk]
        exact ⟨by simp, fun j e => by cases e; omega⟩
    · rw [if_neg (by simpa using hi)]
      have : k = ls.length := by omega
      subst this
      rw [List.take_length] at hall
      simp only [StepOk]
      exact ⟨fun _ => hall, by simp⟩
  rw [hb]
  rcases b with ⟨⟩ | j
  · exact ⟨_, rfl, fun _ => hP.1 rfl⟩
  · refine ⟨_, rfl, fun h => ?_⟩
    have := hP.2 j rfl
    simp at h; omega
theorem pcheck_or {A : List GShard} (hok : ∀ s ∈ A, ShOk s.Lines) (hF : Few A) : ∃ e, F64_pool_Check 1000 A = some e ∧ (e = 0 ∨ e = 8) ∧ (e = 0 → PoolG A) := by
  unfold F64_pool_Check
  by_cases hl : 1 ≤ A.length ∧ A.length ≤ 8
  · obtain ⟨h1, h8⟩ := hl
    rw [if_neg (by simp; omega)]
    simp only [Option.bind_some]
    rw [if_neg (by simp; omega)]
    obtain ⟨b, hb, hP⟩ : ∃ b, loopF (fun z => F64_pool_Check_s0 1000 A z) 1000 (0 : Int) = some b ∧ (b = .inl () → (∀ s ∈ A, MayS s.Lines) ∧ ∀ (i : Nat) s, A[i]? = some s → ∀ l ∈ s.Lines, pl l.From A.length = i) := by
      refine loop_ok (fun z => ∃ k : Nat, z = (k : Int) ∧ k ≤ A.length ∧ (∀ s ∈ A.take k, MayS s.Lines) ∧ ∀ (i : Nat) s, i < k → A[i]? = some s → ∀ l ∈ s.Lines, pl l.From A.length = i) (fun z => (A.length - z).toNat) (fun b : Unit ⊕ Unit => b = .inl () → (∀ s ∈ A, MayS s.Lines) ∧ ∀ (i : Nat) s, A[i]? = some s → ∀ l ∈ s.Lines, pl l.From A.length = i) ?_ 1000 _ ⟨0, rfl, by omega, by simp, fun i s h => by omega⟩ (by simp; omega)
      rintro z ⟨k, rfl, hk, hm, hp⟩
      unfold F64_pool_Check_s0
      by_cases hi : k < A.length
      · rw [if_pos (by simpa using hi), rd_nat]
        obtain ⟨s, hs⟩ : ∃ s, A[k]? = some s := ⟨_, List.getElem?_eq_getElem hi⟩
        have hsm := List.mem_of_getElem? hs
        obtain ⟨f1, f2⟩ := hF.2 s hsm
        have hck := shcheck_val (hok s hsm) (by omega)
        rw [show (⟨s.Lines⟩ : GShard) = s from rfl] at hck
        rw [hs]
        simp only [Option.bind_some]
        by_cases hms : MayS s.Lines
        · rw [hck.1 hms]
          simp only [Option.bind_some]
          rw [if_neg (by simp)]
          obtain ⟨b, hb, hpl⟩ := placed_or h1 h8 (hok s hsm).dig k (by omega)
          rw [hb]
          simp only [Option.bind_some]
          cases b with
          | true => simp only [if_true, StepOk]; intro h; cases h
          | false =>
            simp only [Bool.false_eq_true, if_false, StepOk]
            rw [wi64 (by omega) (by omega)]
            refine ⟨⟨k + 1, by simp, by omega, fun y hy => ?_, fun i y hik hy => ?_⟩, by omega⟩
            · rw [take_succ hs] at hy
              rcases List.mem_append.1 hy with hy | hy
              · exact hm y hy
              · simp only [List.mem_singleton] at hy; subst hy; exact hms
            · by_cases e : i = k
              · subst e; rw [hs] at hy; cases hy; exact hpl rfl
              · exact hp i y (by omega) hy
        · rw [hck.2 hms]
          simp only [Option.bind_some]
          rw [if_pos (by simp)]
          simp only [Option.bind_some, if_true, StepOk]
          intro h; cases h
      · rw [if_neg (by simpa using hi)]
        have : k = A.length := by omega
        subst this
        rw [List.take_length] at hm
        simp only [StepOk]
        exact fun _ => ⟨hm, fun i s hs => hp i s (List.getElem?_eq_some_iff.1 hs).1 hs⟩
    rw [hb]
    rcases b with ⟨⟩ | ⟨⟩
    · refine ⟨0, rfl, .inl rfl, fun _ => ⟨h1, h8, hok, (hP rfl).1, (hP rfl).2⟩⟩
    · exact ⟨8, rfl, .inr rfl, fun h => absurd h (by decide)⟩
  · have e : ((if decide ((A.length : Int) < 1) = true then some true else some (decide ((A.length : Int) > 8))) : Option Bool) = some true := by
      by_cases h1 : (A.length : Int) < 1
      · rw [if_pos (by simpa using h1)]
      · rw [if_neg (by simpa using h1)]; simp; omega
    rw [e]
    exact ⟨8, rfl, .inr rfl, fun h => absurd h (by decide)⟩
theorem acheck_or {t : GTree} {e : Int} (h : F31_acct_Check 1000 t = some e) : e = 0 ∨ e = 8 := by
  unfold F31_acct_Check at h
  obtain ⟨a, _, h⟩ := Option.bind_eq_some_iff.1 h
  obtain ⟨b, _, h⟩ := Option.bind_eq_some_iff.1 h
  split at h
  · cases h; exact .inr rfl
  · obtain ⟨c, _, h⟩ := Option.bind_eq_some_iff.1 h
    rcases c with ⟨⟩ | ⟨⟩
    · cases h; exact .inl rfl
    · cases h; exact .inr rfl
theorem asked_val {A : List GShard} (hok : ∀ s ∈ A, ShOk s.Lines) (hF : Few A) {t : GTree} (ht : TreeV t) : ∃ e, F49_pool_asked 1000 A t = some e ∧ (e = 0 → PoolG A ∧ F31_acct_Check 1000 t = some 0) := by
  obtain ⟨e, he, ho, hg⟩ := pcheck_or hok hF
  obtain ⟨d, hd, _⟩ := acheck_val ht
  have hd8 := acheck_or hd
  unfold F49_pool_asked
  rw [he, hd]
  refine ⟨_, rfl, fun h => ?_⟩
  split at h
  · omega
  · have : e = 0 := h
    have : d = 0 := by omega
    subst this
    exact ⟨hg h, rfl⟩
theorem at_any (f : List Int) (hf : Dig f) (n : Nat) : ∃ q, F26_pool_At 1000 f (n : Int) = some q := by
  by_cases h : 1 ≤ n ∧ n ≤ 8
  · exact ⟨_, at_val hf h.1 h.2⟩
  · have e : ((if decide ((n : Int) < 1) = true then some true else some (decide ((n : Int) > 8))) : Option Bool) = some true := by
      by_cases h1 : (n : Int) < 1
      · rw [if_pos (by simpa using h1)]
      · rw [if_neg (by simpa using h1)]; simp; omega
    unfold F26_pool_At
    rw [e]
    exact ⟨_, rfl⟩
theorem set_pool {A : List GShard} (hA : PoolG A) {i : Nat} {s : GShard} {b : List GLine} (hs : A[i]? = some s) (q1 : MayS b) (q2 : ShOk b) (q3 : ∀ l ∈ b, pl l.From A.length = i) : PoolG (A.set i ⟨b⟩) := by
  have hi : i < A.length := (List.getElem?_eq_some_iff.1 hs).1
  have hlen' : (A.set i (⟨b⟩ : GShard)).length = A.length := by simp
  have hmem : ∀ z ∈ A.set i (⟨b⟩ : GShard), z = ⟨b⟩ ∨ z ∈ A := fun z hz => by
    rcases List.mem_or_eq_of_mem_set hz with h | h
    · exact .inr h
    · exact .inl h
  refine ⟨by rw [hlen']; exact hA.len, by rw [hlen']; exact hA.len8, fun z hz => ?_, fun z hz => ?_, fun j z hz l hl => ?_⟩
  · rcases hmem z hz with rfl | h
    · exact q2
    · exact hA.ok z h
  · rcases hmem z hz with rfl | h
    · exact q1
    · exact hA.may z h
  · rw [List.getElem?_set] at hz
    rw [hlen']
    by_cases hj : i = j
    · subst hj
      rw [if_pos rfl, if_pos hi] at hz
      cases hz
      exact q3 l hl
    · rw [if_neg hj] at hz
      exact hA.at_ j z hz l hl
structure One (A : List GShard) (j : Nat) (B : List GShard) : Prop where
  was : PoolG A
  at_ : j < A.length
  set : ∃ b, B = A.set j ⟨b⟩
  good : PoolG B
  few : pcnt B ≤ 290
theorem one_mk {A : List GShard} (hA : PoolG A) (hF : Few A) {i : Nat} {s : GShard} {b : List GLine} (hs : A[i]? = some s) (q1 : MayS b) (q2 : ShOk b) (q3 : ∀ l ∈ b, pl l.From A.length = i) (hc : cnt b ≤ 60) : One A i (A.set i ⟨b⟩) := by
  refine ⟨hA, (List.getElem?_eq_some_iff.1 hs).1, ⟨b, rfl⟩, set_pool hA hs q1 q2 q3, ?_⟩
  have h1 := few_pcnt hF
  have h2 := pcnt_set (s' := (⟨b⟩ : GShard)) hs
  simp only at h2
  omega
theorem apart_val {A : List GShard} (hF : Few A) {j : Nat} {B : List GShard} (h : One A j B) : F28_beadrolllaw21_apart 1000 B A (j : Int) = some true := by
  obtain ⟨b, rfl⟩ := h.set
  have h8 := h.was.len8
  unfold F28_beadrolllaw21_apart
  rw [if_neg (by simp), pcheck_val h.good h.few]
  simp only [Option.bind_some, bne_self_eq_false, Bool.false_eq_true, if_false]
  obtain ⟨r, hr, rfl⟩ : ∃ r, loopF (fun z => F28_beadrolllaw21_apart_s0 1000 (A.set j (⟨b⟩ : GShard)) A (j : Int) z) 1000 (0 : Int) = some r ∧ r = .inl () := by
    refine loop_ok (fun z => ∃ k : Nat, z = (k : Int) ∧ k ≤ A.length) (fun z => (A.length - z).toNat) (fun r : Unit ⊕ Unit => r = .inl ()) ?_ 1000 _ ⟨0, rfl, by omega⟩ (by simp; omega)
    rintro z ⟨k, rfl, hk⟩
    unfold F28_beadrolllaw21_apart_s0
    by_cases hi : k < A.length
    · rw [if_pos (by simpa using hi)]
      have e : ((if ((k : Int) != (j : Int)) = true then (rd (A.set j (⟨b⟩ : GShard)) (k : Int)).bind fun (x8 : GShard) => (rd A (k : Int)).bind fun (x11 : GShard) => (F13_beadrollref20_Same 1000 x8 x11).bind fun (y14 : Bool) => some (!y14) else some false) : Option Bool) = some false := by
        by_cases hkj : k = j
        · rw [if_neg (by simp [hkj])]
        · rw [if_pos (by simp; omega), rd_nat, rd_nat, List.getElem?_set, if_neg (Ne.symm hkj)]
          obtain ⟨s, hs⟩ : ∃ s, A[k]? = some s := ⟨_, List.getElem?_eq_getElem hi⟩
          obtain ⟨f1, f2⟩ := hF.2 s (List.mem_of_getElem? hs)
          rw [hs]
          simp only [Option.bind_some]
          rw [show s = ⟨s.Lines⟩ from rfl, same20_val (by omega) (by omega)]
          simp
      rw [e]
      simp only [Option.bind_some, Bool.false_eq_true, if_false, StepOk]
      rw [wi64 (by omega) (by omega)]
      exact ⟨⟨k + 1, by simp, by omega⟩, by omega⟩
    · rw [if_neg (by simpa using hi)]
      simp only [StepOk]
  rw [hr]; rfl
def Does (A : List GShard) (i : Int) (q : List GShard × List GTx × Int) : Prop := (q.2.2 ≠ 0 ∧ q.1 = []) ∨ (q.2.2 = 0 ∧ ∃ j : Nat, i = (j : Int) ∧ One A j q.1)
theorem psub_any {A : List GShard} (hok : ∀ s ∈ A, ShOk s.Lines) (hF : Few A) {t : GTree} (ht : TreeV t) {x : GTx} (hx : TxOk x) (cap : Int) : ∃ q p, F18_pool_Submit 1000 A cap t x = some q ∧ F26_pool_At 1000 (ky x.Pub) (A.length : Int) = some p ∧ Does A p.1 q := by
  have hfd : Dig (ky x.Pub) := ky_dig hx.pub
  obtain ⟨e, he, hg⟩ := asked_val hok hF ht
  obtain ⟨p, hp⟩ := at_any (ky x.Pub) hfd A.length
  unfold F18_pool_Submit
  rw [he]
  simp only [Option.bind_some]
  by_cases h0 : e = 0
  case neg =>
    rw [if_pos (by simpa using h0)]
    exact ⟨_, _, rfl, hp, .inl ⟨h0, rfl⟩⟩
  subst h0
  obtain ⟨hA, hchk⟩ := hg rfl
  rw [if_neg (by simp), tx_from hx]
  simp only [Option.bind_some]
  have hlen := hA.len
  have hlen8 := hA.len8
  have hpl := pl_lt (ky x.Pub) hlen
  have hpc := few_pcnt hF
  rw [at_val hfd hlen hlen8] at hp ⊢
  cases hp
  simp only [Option.bind_some]
  obtain ⟨a, ea, hga, _, _⟩ := get_val ht hfd
  rw [hga]
  simp only [Option.bind_some]
  obtain ⟨i, hi⟩ : ∃ i, i = pl (ky x.Pub) A.length := ⟨_, rfl⟩
  rw [← hi] at hpl ⊢
  obtain ⟨s, hs⟩ : ∃ s, A[i]? = some s := ⟨_, List.getElem?_eq_getElem hpl⟩
  have hsm := List.mem_of_getElem? hs
  obtain ⟨f1, f2⟩ := hF.2 s hsm
  obtain ⟨b, gone, e, hb, hq⟩ := submit_val (hA.ok s hsm) f1 f2 hx cap a.Nonce
  unfold F50_api_Tx_5c5 F51_pool_Submit_1_699
  rw [if_neg (by simp)]
  simp only [Option.bind_some]
  rw [if_neg (by simp; omega), rd_nat, hs]
  simp only [Option.bind_some]
  rw [show s = ⟨s.Lines⟩ from rfl, hb]
  simp only [Option.bind_some]
  rcases hq with ⟨h0, _, _⟩ | ⟨rfl, hS⟩
  · rw [if_pos (by simpa using h0)]
    exact ⟨_, _, rfl, rfl, .inl ⟨h0, rfl⟩⟩
  · rw [if_neg (by simp), ptwin_val hA (by omega)]
    simp only [Option.bind_some]
    rw [rd_nat, hs]
    simp only [Option.bind_some]
    have e1 : (0 + ((i : Nat) : Int).toNat) = i := by omega
    rw [e1]
    have hcn := hS.count
    refine ⟨_, _, rfl, rfl, .inr ⟨rfl, i, rfl, one_mk hA hF hs hS.may hS.ok (fun l hl => ?_) (by omega)⟩⟩
    rcases hS.froms l hl with h | ⟨y, hy, h⟩
    · rw [h, hi]
    · rw [← h]; exact hA.at_ i s hs y hy
theorem pdraw_any {A : List GShard} (hok : ∀ s ∈ A, ShOk s.Lines) (hF : Few A) {t : GTree} (ht : TreeV t) (i : Int) {room : Int} (hroom : -9223372036854775808 ≤ room ∧ room ≤ 9223372036854775807) : ∃ q, F20_pool_Draw 1000 A i t room = some q ∧ Does A i q := by
  obtain ⟨e, he, hg⟩ := asked_val hok hF ht
  unfold F20_pool_Draw
  rw [he]
  simp only [Option.bind_some]
  by_cases h0 : e = 0
  case neg =>
    rw [if_pos (by simpa using h0)]
    exact ⟨_, rfl, .inl ⟨h0, rfl⟩⟩
  subst h0
  obtain ⟨hA, hchk⟩ := hg rfl
  have hpc := few_pcnt hF
  rw [if_neg (by simp)]
  unfold F50_api_Tx_2f9 F55_pool_Draw_1_998
  by_cases hin : 0 ≤ i ∧ i < A.length
  case neg =>
    have e : ((if decide (i < 0) = true then some true else some (decide (i ≥ (A.length : Int)))) : Option Bool) = some true := by
      by_cases h1 : i < 0
      · rw [if_pos (by simpa using h1)]
      · rw [if_neg (by simpa using h1)]; simp; omega
    rw [e]
    exact ⟨_, rfl, .inl ⟨by decide, rfl⟩⟩
  obtain ⟨h1, h2⟩ := hin
  obtain ⟨i, rfl⟩ := Int.eq_ofNat_of_zero_le h1
  rw [if_neg (by simp)]
  simp only [Option.bind_some]
  rw [if_neg (by simp; omega), rd_nat]
  obtain ⟨s, hs⟩ : ∃ s, A[i]? = some s := ⟨_, List.getElem?_eq_getElem (by omega)⟩
  have hsm := List.mem_of_getElem? hs
  obtain ⟨f1, f2⟩ := hF.2 s hsm
  obtain ⟨b, dr, e, hb, hq⟩ := draw_val (hA.ok s hsm) f1 f2 ht hroom
  rw [hs]
  simp only [Option.bind_some]
  rw [show s = ⟨s.Lines⟩ from rfl, hb]
  simp only [Option.bind_some]
  rcases hq with ⟨h0, _, _⟩ | ⟨rfl, _, _, hD⟩
  · rw [if_pos (by simpa using h0)]
    exact ⟨_, rfl, .inl ⟨h0, rfl⟩⟩
  · rw [if_neg (by simp), ptwin_val hA (by omega)]
    simp only [Option.bind_some]
    rw [rd_nat, hs]
    simp only [Option.bind_some]
    have e1 : (0 + ((i : Nat) : Int).toNat) = i := by omega
    rw [e1]
    have hcn := hD.cnt
    refine ⟨_, rfl, .inr ⟨rfl, i, rfl, one_mk hA hF hs hD.may hD.ok (fun l hl => ?_) (by omega)⟩⟩
    obtain ⟨z, hz⟩ := List.exists_mem_of_ne_nil _ (hD.may.1 l hl).1
    have hz' : z ∈ (lineOf b l.From).Txs := by rw [lineOf_mem hD.may.2 hl]; exact hz
    have hz2 := hD.left l.From z hz'
    rcases lineOf_or s.Lines l.From with ⟨h, _⟩ | ⟨g1, g2⟩
    · rw [h] at hz2; cases hz2
    · rw [← g2]; exact hA.at_ i s hs _ g1
theorem split_val {A : List GShard} (h1 : 1 ≤ A.length) (h8 : A.length ≤ 8) {l : List GTx} (hl : ∀ x ∈ l, TxOk x) (h10 : l.length ≤ 10) (i : Nat) : ∃ mine rest, loopF (fun z : Int × List GTx × List GTx => F58_pool_Back_1_60e_s0 1000 l (i : Int) A z.1 z.2.1 z.2.2) 1000 ((0 : Int), ([] : List GTx), ([] : List GTx)) = some (mine, rest) ∧ mine.length ≤ 10 ∧ ∀ x ∈ mine, x ∈ l ∧ pl (ky x.Pub) A.length = i := by
  obtain ⟨r, hr, hP⟩ : ∃ r, loopF (fun z : Int × List GTx × List GTx => F58_pool_Back_1_60e_s0 1000 l (i : Int) A z.1 z.2.1 z.2.2) 1000 ((0 : Int), ([] : List GTx), ([] : List GTx)) = some r ∧ (r.1.length ≤ 10 ∧ ∀ x ∈ r.1, x ∈ l ∧ pl (ky x.Pub) A.length = i) := by
    refine loop_ok (fun z : Int × List GTx × List GTx => ∃ k : Nat, z.1 = (k : Int) ∧ k ≤ l.length ∧ z.2.1.length ≤ k ∧ z.2.2.length ≤ k ∧ ∀ x ∈ z.2.1, x ∈ l ∧ pl (ky x.Pub) A.length = i) (fun z => (l.length - z.1).toNat) (fun r : List GTx × List GTx => r.1.length ≤ 10 ∧ ∀ x ∈ r.1, x ∈ l ∧ pl (ky x.Pub) A.length = i) ?_ 1000 _ ⟨0, rfl, by omega, by simp, by simp, by simp⟩ (by simp; omega)
    rintro ⟨z, M, R⟩ ⟨k, e, hk, hM, hR, hall⟩
    simp only at e hM hR hall
    subst e
    unfold F58_pool_Back_1_60e_s0 F57_pool_sent_of
    simp only
    by_cases hi : k < l.length
    · rw [if_pos (by simpa using hi), rd_nat]
      obtain ⟨x, hx⟩ : ∃ x, l[k]? = some x := ⟨_, List.getElem?_eq_getElem hi⟩
      have hxm := List.mem_of_getElem? hx
      have hxo := hl x hxm
      rw [hx]
      simp only [Option.bind_some]
      rw [tx_from hxo]
      simp only [Option.bind_some]
      rw [at_val (ky_dig hxo.pub) h1 h8]
      simp only [Option.bind_some]
      by_cases he : pl (ky x.Pub) A.length = i
      · rw [if_pos (by simp [he]), if_pos (by simp; omega)]
        simp only [Option.bind_some, StepOk]
        rw [wi64 (by omega) (by omega)]
        refine ⟨⟨k + 1, by simp, by omega, by simp; omega, by omega, fun y hy => ?_⟩, by omega⟩
        rcases List.mem_append.1 hy with hy | hy
        · exact hall y hy
        · simp only [List.mem_singleton] at hy; subst hy; exact ⟨hxm, he⟩
      · rw [if_neg (by simp; omega), if_pos (by simp; omega)]
        simp only [Option.bind_some, StepOk]
        rw [wi64 (by omega) (by omega)]
        exact ⟨⟨k + 1, by simp, by omega, by omega, by simp; omega, hall⟩, by omega⟩
    · rw [if_neg (by simpa using hi)]
      simp only [StepOk]
      exact ⟨by omega, hall⟩
  exact ⟨r.1, r.2, hr, hP.1, hP.2⟩
theorem pback_any {A : List GShard} (hok : ∀ s ∈ A, ShOk s.Lines) (hF : Few A) {t : GTree} (ht : TreeV t) (i : Int) {l : List GTx} (hl : ∀ x ∈ l, TxOk x) (h10 : l.length ≤ 10) : ∃ q, F22_pool_Back 1000 A i t l = some q ∧ Does A i q := by
  obtain ⟨e, he, hg⟩ := asked_val hok hF ht
  unfold F22_pool_Back
  rw [he]
  simp only [Option.bind_some]
  by_cases h0 : e = 0
  case neg =>
    rw [if_pos (by simpa using h0)]
    exact ⟨_, rfl, .inl ⟨h0, rfl⟩⟩
  subst h0
  obtain ⟨hA, hchk⟩ := hg rfl
  have hpc := few_pcnt hF
  rw [if_neg (by simp)]
  unfold F50_api_Tx_0c3 F58_pool_Back_1_60e
  by_cases hin : 0 ≤ i ∧ i < A.length
  case neg =>
    have e : ((if decide (i < 0) = true then some true else some (decide (i ≥ (A.length : Int)))) : Option Bool) = some true := by
      by_cases h1 : i < 0
      · rw [if_pos (by simpa using h1)]
      · rw [if_neg (by simpa using h1)]; simp; omega
    rw [e]
    exact ⟨_, rfl, .inl ⟨by decide, rfl⟩⟩
  obtain ⟨h1, h2⟩ := hin
  obtain ⟨i, rfl⟩ := Int.eq_ofNat_of_zero_le h1
  rw [if_neg (by simp)]
  simp only [Option.bind_some]
  rw [if_neg (by simp; omega), rd_nat]
  obtain ⟨s, hs⟩ : ∃ s, A[i]? = some s := ⟨_, List.getElem?_eq_getElem (by omega)⟩
  have hsm := List.mem_of_getElem? hs
  obtain ⟨f1, f2⟩ := hF.2 s hsm
  obtain ⟨mine, rest, hsp, hm10, hmine⟩ := split_val hA.len hA.len8 hl h10 i
  rw [hs]
  simp only [Option.bind_some]
  simp only [Int.ofNat_eq_natCast] at *
  rw [hsp]
  simp only [Option.bind_some]
  obtain ⟨b, e, hb, hq⟩ := back_val (hA.ok s hsm) f1 f2 ht (fun x hx => hl x (hmine x hx).1) hm10
  rw [show s = ⟨s.Lines⟩ from rfl, hb]
  simp only [Option.bind_some]
  rcases hq with ⟨h0, _⟩ | ⟨rfl, _, _, hR⟩
  · rw [if_pos (by simpa using h0)]
    exact ⟨_, rfl, .inl ⟨h0, rfl⟩⟩
  · rw [if_neg (by simp), ptwin_val hA (by omega)]
    simp only [Option.bind_some]
    rw [rd_nat, hs]
    simp only [Option.bind_some]
    have e1 : (0 + ((i : Nat) : Int).toNat) = i := by omega
    rw [e1]
    have hcn := hR.cnt
    refine ⟨_, rfl, .inr ⟨rfl, i, rfl, one_mk hA hF hs hR.may hR.ok (fun l hl => ?_) (by omega)⟩⟩
    rcases hR.froms l hl with ⟨x, hx, h⟩ | ⟨y, hy, h⟩
    · rw [h]; exact (hmine x hx).2
    · rw [← h]; exact hA.at_ i s hs y hy
end Go.Proofs.YtonfljoibcnlgaaGreatDoor
