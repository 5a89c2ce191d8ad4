/-
  Lines, shards and pools: what the reference tells of them is what the program tells. No machine is in sight.
-/
import Derived.Test.YtonfljoibcnlgaaDoorQc1
import Derived.Test.YtonfljoibcnlgaaDoorRc
import Derived.Test.YtonfljoibcnlgaaDoorRd
namespace Go.Proofs.YtonfljoibcnlgaaDoor
open Bd Go

def PoD (p : List GShard) : Prop := ∀ s ∈ p, ShD s.Lines

/-! ### whether they may be -/
theorem refown_val {x : GTx} (hx : TxD x) (f : List Int) : F87_beadrollref19_Own 300 x f = some (own x f) := by
  unfold F87_beadrollref19_Own own
  rw [refcheck_val hx]
  simp only [Option.bind_some]
  by_cases h : x.Sign = sg x
  · simp [h, reffrom_val hx]
  · simp [h]
theorem may19_eq {l : GLine} (hl : LineD l) : F86_beadrollref19_May 300 l = (F18_queue_Check 300 l).map fun e => e == 0 := by
  unfold F86_beadrollref19_May F18_queue_Check
  by_cases h256 : l.Txs.length ≤ 256
  · rw [if_neg (by simp; omega), if_neg (by simp; omega)]
    have h : loopF (fun z => F86_beadrollref19_May_s0 300 l z) 300 (0 : Int) = loopF (fun z => F18_queue_Check_s0 300 l z) 300 (0 : Int) := by
      refine loop_cong (fun z => ∃ k : Nat, z = (k : Int) ∧ k ≤ l.Txs.length) ?_ 300 _ ⟨0, rfl, by omega⟩
      rintro z ⟨k, rfl, hk⟩
      unfold F86_beadrollref19_May_s0 F18_queue_Check_s0
      by_cases hi : k < l.Txs.length
      · have hd : decide ((k : Int) < (l.Txs.length : Int)) = true := by simpa using hi
        simp only [hd, if_true]
        obtain ⟨x, hx⟩ : ∃ x, l.Txs[k]? = some x := ⟨_, List.getElem?_eq_getElem hi⟩
        have hxm := List.mem_of_getElem? hx
        rw [rd_nat, hx]
        simp only [Option.bind_some]
        rw [refown_val (hl.txs x hxm), own_val (hl.txs x hxm).ok]
        simp only [Option.bind_some]
        refine ⟨by first | trivial | rfl, fun z' hz => ?_⟩
        obtain ⟨o, _, hz⟩ := bind_some hz
        split at hz
        · cases Option.some.inj hz
        · have hz := Sum.inl.inj (Option.some.inj hz)
          subst hz
          rw [wi64 (by omega) (by omega)]
          exact ⟨k + 1, by simp, by omega⟩
      · have hd : decide ((k : Int) < (l.Txs.length : Int)) = false := by simpa using hi
        simp only [hd, Bool.false_eq_true, if_false]
        exact ⟨by first | trivial | rfl, fun z' hz => by cases Option.some.inj hz⟩
    rw [h]
    cases loopF (fun z => F18_queue_Check_s0 300 l z) 300 (0 : Int) with
    | none => rfl
    | some o => cases o <;> rfl
  · rw [if_pos (by simp; omega), if_pos (by simp; omega)]; rfl
theorem may20_eq {ls : List GLine} (hs : ShD ls) (hlen : ls.length ≤ 290) : F97_beadrollref20_May 300 ⟨ls⟩ = (F52_shard_Check 300 ⟨ls⟩).map fun e => e == 0 := by
  unfold F97_beadrollref20_May F52_shard_Check
  have h : loopF (fun z => F97_beadrollref20_May_s0 300 ⟨ls⟩ z) 300 (0 : Int) = loopF (fun z => F52_shard_Check_s0 300 ⟨ls⟩ z) 300 (0 : Int) := by
    refine loop_cong (fun z => ∃ k : Nat, z = (k : Int) ∧ k ≤ ls.length) ?_ 300 _ ⟨0, rfl, by omega⟩
    rintro z ⟨k, rfl, hk⟩
    unfold F97_beadrollref20_May_s0 F52_shard_Check_s0
    simp only
    by_cases hi : k < ls.length
    · rw [if_pos (by simpa using hi), if_pos (by simpa using hi)]
      obtain ⟨x, hx⟩ : ∃ x, ls[k]? = some x := ⟨_, List.getElem?_eq_getElem hi⟩
      have hxm := List.mem_of_getElem? hx
      rw [rd_nat, hx]
      simp only [Option.bind_some]
      rw [may19_eq (hs x hxm)]
      refine ⟨?_, fun z' hz => ?_⟩
      · congr 1
        by_cases h0 : (((x.Txs.length : Int)) == (0 : Int)) = true
        · rw [if_pos h0, if_pos h0]
        · rw [if_neg h0, if_neg h0]
          cases hq : F18_queue_Check 300 x with
          | none => rfl
          | some e =>
            simp only [Option.map_some, Option.bind_some]
            by_cases he : e = 0
            · subst he
              have e1 : ((0 : Int) != 0) = false := rfl
              have e2 : (!((0 : Int) == 0)) = false := rfl
              simp only [e1, e2, Bool.false_eq_true, if_false]
              by_cases hk0 : k = 0
              · subst hk0
                rfl
              · have e3 : decide ((k : Int) > 0) = true := by simp; omega
                simp only [e3, if_true]
                rw [wi64 (by omega) (by omega), show (k : Int) - 1 = ((k - 1 : Nat) : Int) from by omega, rd_nat]
                obtain ⟨y, hy⟩ : ∃ y, ls[k - 1]? = some y := ⟨_, List.getElem?_eq_getElem (by omega)⟩
                rw [hy]
                simp only [Option.bind_some]
                rw [reflt_val (hs y (List.mem_of_getElem? hy)).dig (hs x hxm).dig, lt_val (hs y (List.mem_of_getElem? hy)).dig (hs x hxm).dig]
            · rw [if_pos (by simpa using he), if_pos (by simpa using he)]
      · obtain ⟨o, _, hz⟩ := bind_some hz
        split at hz
        · cases Option.some.inj hz
        · have hz := Sum.inl.inj (Option.some.inj hz)
          subst hz
          rw [wi64 (by omega) (by omega)]
          exact ⟨k + 1, by simp, by omega⟩
    · rw [if_neg (by simpa using hi), if_neg (by simpa using hi)]
      exact ⟨rfl, fun z' hz => by cases Option.some.inj hz⟩
  rw [h]
  cases loopF (fun z => F52_shard_Check_s0 300 ⟨ls⟩ z) 300 (0 : Int) with
  | none => rfl
  | some o => cases o <;> rfl
theorem shcheck_ex {ls : List GLine} (hs : ShD ls) (hlen : ls.length ≤ 290) : ∃ e, F52_shard_Check 300 ⟨ls⟩ = some e := by
  by_cases hm : MayS ls
  · exact ⟨0, (shcheck_val (shok_of hs) hlen).1 hm⟩
  · exact ⟨8, (shcheck_val (shok_of hs) hlen).2 hm⟩

/-! ### loops that go through a list and look whether all is well -/
theorem all_loop {β : Type} (N : Nat) (hN : N < 300) (good : Nat → Prop) (f : Int → Option (Int ⊕ (Unit ⊕ β))) (h1 : ∀ k : Nat, k < N → good k → f k = some (.inl ((k + 1 : Nat) : Int))) (h2 : ∀ k : Nat, k < N → ¬ good k → ∃ b, f k = some (.inr (.inr b)))
    (hend : f N = some (.inr (.inl ()))) : ((∀ k, k < N → good k) → loopF f 300 0 = some (.inl ())) ∧ (¬ (∀ k, k < N → good k) → ∃ b, loopF f 300 0 = some (.inr b)) := by
  have key : ∀ (M k n : Nat), k + M = N → M < n → (∀ j, j < k → good j) → ((∀ j, j < N → good j) → loopF f n (k : Int) = some (.inl ())) ∧ (¬ (∀ j, j < N → good j) → ∃ b, loopF f n (k : Int) = some (.inr b)) := by
    intro M
    induction M with
    | zero =>
      intro k n hk hn hg
      obtain ⟨n, rfl⟩ : ∃ m, n = m + 1 := ⟨n - 1, by omega⟩
      simp only [loopF]
      rw [show k = N from by omega, hend]
      exact ⟨fun _ => rfl, fun h => absurd (fun j hj => hg j (by omega)) h⟩
    | succ M ih =>
      intro k n hk hn hg
      obtain ⟨n, rfl⟩ : ∃ m, n = m + 1 := ⟨n - 1, by omega⟩
      simp only [loopF]
      by_cases hgk : good k
      · rw [h1 k (by omega) hgk]
        exact ih (k + 1) n (by omega) (by omega) fun j hj => by
          by_cases e : j = k
          · subst e; exact hgk
          · exact hg j (by omega)
      · obtain ⟨b, hb⟩ := h2 k (by omega) hgk
        rw [hb]
        exact ⟨fun h => absurd (h k (by omega)) hgk, fun _ => ⟨b, rfl⟩⟩
  exact key N 0 300 (by omega) hN fun j hj => by omega

/-! ### where a key's shard is -/
def ofK (f : List Int) (n : Int) : Int := Int.tmod (IntKind.i64.wrap (f.getD 31 0)) n
theorem at_own {f : List Int} (hf : f.length = 32) {n : Int} (h1 : 1 ≤ n) (h8 : n ≤ 8) : F23_pool_At 300 f n = some (ofK f n, 0) := by
  unfold F23_pool_At
  have := rd_getD (l := f) (i := 31) (by omega)
  rw [if_neg (by simp; omega)]
  simp only [Option.bind_some]
  rw [if_neg (by simp; omega), show (31 : Int) = ((31 : Nat) : Int) from rfl, this]
  simp only [Option.bind_some]
  rw [if_neg (by omega)]; rfl
theorem at_ref {f : List Int} (hf : f.length = 32) {n : Int} (h1 : 1 ≤ n) : F78_beadrollref21_Of 300 f n = some (ofK f n) := by
  unfold F78_beadrollref21_Of
  have := rd_getD (l := f) (i := 31) (by omega)
  rw [show (31 : Int) = ((31 : Nat) : Int) from rfl, this]
  simp only [Option.bind_some]
  rw [if_neg (by omega)]; rfl
theorem at_eq {f : List Int} (hf : f.length = 32) (n : Int) : ∃ q, F23_pool_At 300 f n = some q ∧ F24_beadrollref21_At 300 f n = some q := by
  by_cases h : 1 ≤ n ∧ n ≤ 8
  · refine ⟨_, at_own hf h.1 h.2, ?_⟩
    unfold F24_beadrollref21_At
    rw [if_neg (by simp; omega)]
    simp only [Option.bind_some]
    rw [if_neg (by simp; omega), at_ref hf h.1]; rfl
  · have e : ((if decide (n < 1) = true then some true else some (decide (n > 8))) : Option Bool) = some true := by
      by_cases h1 : n < 1
      · rw [if_pos (by simpa using h1)]
      · rw [if_neg (by simpa using h1)]; simp; omega
    unfold F23_pool_At F24_beadrollref21_At
    rw [e]
    exact ⟨_, rfl, rfl⟩
theorem new_eq (n : Int) : F26_beadrollref21_New 300 n = F25_pool_New 300 n := rfl

/-- one line's shard after the other: in the program, in the reference -/
def InSh (ls : List GLine) (n i : Int) : Prop := ∀ k, k < ls.length → ∀ x, ls[k]? = some x → ofK x.From n = i
theorem has_own {ls : List GLine} (hs : ShD ls) (hlen : ls.length ≤ 290) {p : List GShard} (h1 : 1 ≤ p.length) (h8 : p.length ≤ 8) (i : Int) : (InSh ls p.length i → F79_api_Line_c11 300 ls p i = some false) ∧ (¬ InSh ls p.length i → F79_api_Line_c11 300 ls p i = some true) := by
  have hk : ∀ k : Nat, ∀ x, ls[k]? = some x → F80_pool_Check_1_264 300 x p i = some (ofK x.From p.length != i) := fun k x hx => by
    unfold F80_pool_Check_1_264
    rw [at_own (hs x (List.mem_of_getElem? hx)).dig.1 (by omega) (by omega)]; rfl
  unfold F79_api_Line_c11 F112_api_Line_dd1
  obtain ⟨b, hb, hP⟩ : ∃ b, loopF (fun z => F112_api_Line_dd1_s0 300 ls p i z) 300 (0 : Int) = some b ∧ ((b = .inl () ∧ InSh ls p.length i) ∨ (∃ j : Nat, b = .inr (j : Int) ∧ ¬ InSh ls p.length i)) := by
    refine loop_ok (fun z => ∃ k : Nat, z = (k : Int) ∧ k ≤ ls.length ∧ ∀ j, j < k → ∀ x, ls[j]? = some x → ofK x.From p.length = i) (fun z => (ls.length - z).toNat) (fun b : Unit ⊕ Int => (b = .inl () ∧ InSh ls p.length i) ∨ (∃ j : Nat, b = .inr (j : Int) ∧ ¬ InSh ls p.length i)) ?_ 300 _ ⟨0, rfl, by omega, fun j hj => by omega⟩ (by simp; omega)
    rintro z ⟨k, rfl, hkl, hall⟩
    unfold F112_api_Line_dd1_s0
    by_cases hi : k < ls.length
    · rw [if_pos (by simpa using hi), rd_nat]
      obtain ⟨x, hx⟩ : ∃ x, ls[k]? = some x := ⟨_, List.getElem?_eq_getElem hi⟩
      rw [hx]
      simp only [Option.bind_some]
      rw [hk k x hx]
      simp only [Option.bind_some]
      by_cases he : ofK x.From p.length = i
      · rw [if_neg (by simp [he])]
        simp only [StepOk]
        rw [wi64 (by omega) (by omega)]
        refine ⟨⟨k + 1, by simp, by omega, fun j hj y hy => ?_⟩, by omega⟩
        by_cases e : j = k
        · subst e; rw [hx] at hy; cases hy; exact he
        · exact hall j (by omega) y hy
      · rw [if_pos (by simpa using he)]
        exact .inr ⟨k, rfl, fun h => he (h k hi x hx)⟩
    · rw [if_neg (by simpa using hi)]
      exact .inl ⟨rfl, fun j hj => hall j (by omega)⟩
  rw [hb]
  simp only [Option.bind_some]
  rcases hP with ⟨rfl, h⟩ | ⟨j, rfl, h⟩
  · exact ⟨fun _ => rfl, fun h' => absurd h h'⟩
  · refine ⟨fun h' => absurd h' h, fun _ => ?_⟩
    simp only [Sum.elim_inr, Option.bind_some, Option.some.injEq, decide_eq_true_eq]
    omega
theorem has_ref {p : List GShard} {i : Nat} {s : GShard} (hi : p[i]? = some s) (hs : ShD s.Lines) (hlen : s.Lines.length ≤ 290) (h1 : 1 ≤ p.length) : (InSh s.Lines p.length i → loopF (fun z => F81_beadrollref21_May_s1 300 p (i : Int) z) 300 (0 : Int) = some (.inl ())) ∧
    (¬ InSh s.Lines p.length i → loopF (fun z => F81_beadrollref21_May_s1 300 p (i : Int) z) 300 (0 : Int) = some (.inr ())) := by
  have hstep : ∀ k : Nat, k < s.Lines.length → ∃ x, s.Lines[k]? = some x ∧ F81_beadrollref21_May_s1 300 p (i : Int) (k : Int) = if (ofK x.From p.length != (i : Int)) = true then some (.inr (.inr ())) else some (.inl ((k + 1 : Nat) : Int)) := fun k hk => by
    obtain ⟨x, hx⟩ : ∃ x, s.Lines[k]? = some x := ⟨_, List.getElem?_eq_getElem hk⟩
    refine ⟨x, hx, ?_⟩
    unfold F81_beadrollref21_May_s1
    rw [rd_nat, hi]
    simp only [Option.bind_some]
    rw [if_pos (by simpa using hk), rd_nat, hx]
    simp only [Option.bind_some]
    rw [at_ref (hs x (List.mem_of_getElem? hx)).dig.1 (by omega)]
    simp only [Option.bind_some]
    rw [wi64 (by omega) (by omega)]; rfl
  have h := all_loop (β := Unit) s.Lines.length (by omega) (fun k => ∀ x, s.Lines[k]? = some x → ofK x.From p.length = (i : Int)) (fun z => F81_beadrollref21_May_s1 300 p (i : Int) z)
    (fun k hk hg => by
      obtain ⟨x, hx, e⟩ := hstep k hk
      rw [e, if_neg (by simp [hg x hx])])
    (fun k hk hg => by
      obtain ⟨x, hx, e⟩ := hstep k hk
      refine ⟨(), ?_⟩
      rw [e, if_pos]
      rw [bne_iff_ne]
      intro he
      exact hg fun y hy => by rw [hx] at hy; cases hy; exact he)
    (by
      unfold F81_beadrollref21_May_s1
      rw [rd_nat, hi]
      simp only [Option.bind_some]
      rw [if_neg (by simp)])
  exact ⟨h.1, fun hn => by obtain ⟨b, hb⟩ := h.2 hn; exact hb⟩
theorem may21_eq {p : List GShard} (hp : PoD p) (hs : ∀ s ∈ p, s.Lines.length ≤ 290) : ∃ e, F28_pool_Check 300 p = some e ∧ F81_beadrollref21_May 300 p = some (e == 0) := by
  unfold F28_pool_Check F81_beadrollref21_May
  by_cases hl : 1 ≤ p.length ∧ p.length ≤ 8
  · rw [if_neg (by simp; omega)]
    simp only [Option.bind_some]
    rw [if_neg (by simp; omega), if_neg (by simp; omega)]
    have h : loopF (fun z => F81_beadrollref21_May_s0 300 p z) 300 (0 : Int) = loopF (fun z => F28_pool_Check_s0 300 p z) 300 (0 : Int) ∧ ∃ b, loopF (fun z => F28_pool_Check_s0 300 p z) 300 (0 : Int) = some b := by
      have hstep : ∀ k : Nat, k ≤ p.length → F81_beadrollref21_May_s0 300 p (k : Int) = F28_pool_Check_s0 300 p (k : Int) ∧ ∃ o, F28_pool_Check_s0 300 p (k : Int) = some o ∧ (o = .inl ((k + 1 : Nat) : Int) ∧ k < p.length ∨ ∃ b, o = .inr b) := fun k hk => by
        unfold F81_beadrollref21_May_s0 F28_pool_Check_s0
        by_cases hi : k < p.length
        · rw [if_pos (by simpa using hi), if_pos (by simpa using hi)]
          obtain ⟨s, hsx⟩ : ∃ s, p[k]? = some s := ⟨_, List.getElem?_eq_getElem hi⟩
          have hsm := List.mem_of_getElem? hsx
          rw [rd_nat, hsx]
          simp only [Option.bind_some]
          have e1 := may20_eq (hp s hsm) (hs s hsm)
          obtain ⟨e, e2⟩ := shcheck_ex (hp s hsm) (hs s hsm)
          have hS : (⟨s.Lines⟩ : GShard) = s := rfl
          rw [hS] at e1 e2
          rw [e1, e2]
          simp only [Option.map_some, Option.bind_some]
          by_cases he : e = 0
          · subst he
            rw [if_neg (by simp), if_neg (by simp)]
            obtain ⟨o1, o2⟩ := has_own (hp s hsm) (hs s hsm) hl.1 hl.2 (k : Int)
            obtain ⟨r1, r2⟩ := has_ref hsx (hp s hsm) (hs s hsm) hl.1
            by_cases hin : InSh s.Lines p.length k
            · rw [o1 hin, r1 hin]
              simp only [Option.bind_some, Sum.elim_inl, Bool.false_eq_true, if_false]
              rw [wi64 (by omega) (by omega)]
              exact ⟨by first | trivial | rfl, _, rfl, .inl ⟨by simp, hi⟩⟩
            · rw [o2 hin, r2 hin]
              simp only [Option.bind_some, Sum.elim_inr, if_true]
              exact ⟨by first | trivial | rfl, _, rfl, .inr ⟨_, rfl⟩⟩
          · rw [if_pos (by simpa using he), if_pos (by simpa using he)]
            simp only [Option.bind_some, if_true]
            exact ⟨by first | trivial | rfl, _, rfl, .inr ⟨_, rfl⟩⟩
        · rw [if_neg (by simpa using hi), if_neg (by simpa using hi)]
          exact ⟨rfl, _, rfl, .inr ⟨_, rfl⟩⟩
      refine ⟨loop_cong (fun z => ∃ k : Nat, z = (k : Int) ∧ k ≤ p.length) ?_ 300 _ ⟨0, rfl, by omega⟩, ?_⟩
      · rintro z ⟨k, rfl, hk⟩
        obtain ⟨e1, o, e2, e3⟩ := hstep k hk
        refine ⟨e1, fun z' hz => ?_⟩
        rw [e2] at hz
        rcases e3 with ⟨rfl, hk'⟩ | ⟨b, rfl⟩
        · cases hz; exact ⟨k + 1, rfl, by omega⟩
        · cases hz
      · obtain ⟨b, hb, _⟩ := loop_ok (f := fun z => F28_pool_Check_s0 300 p z) (fun z => ∃ k : Nat, z = (k : Int) ∧ k ≤ p.length) (fun z => (p.length - z).toNat) (fun _ => True) (by
          rintro z ⟨k, rfl, hk⟩
          obtain ⟨e1, o, e2, e3⟩ := hstep k hk
          simp only [e2]
          rcases e3 with ⟨rfl, hk'⟩ | ⟨b, rfl⟩
          · exact ⟨⟨k + 1, rfl, by omega⟩, by show ((p.length : Int) - ((k + 1 : Nat) : Int)).toNat < ((p.length : Int) - (k : Int)).toNat; omega⟩
          · trivial) 300 0 ⟨0, rfl, by omega⟩ (by simp; omega)
        exact ⟨b, hb⟩
    obtain ⟨h, b, hb⟩ := h
    rw [h, hb]
    cases b
    · exact ⟨0, rfl, rfl⟩
    · exact ⟨8, rfl, rfl⟩
  · have e : ((if decide ((p.length : Int) < 1) = true then some true else some (decide ((p.length : Int) > 8))) : Option Bool) = some true := by
      by_cases h1 : (p.length : Int) < 1
      · rw [if_pos (by simpa using h1)]
      · rw [if_neg (by simpa using h1)]; simp; omega
    rw [e]
    exact ⟨8, rfl, rfl⟩

/-! ### whether two are the same -/
theorem same_gen {α : Type} [DecidableEq α] {a b : List α} (hl : a.length ≤ 290) {f : Int → Option (Int ⊕ (Unit ⊕ Unit))} (hf : ∀ (k : Nat) x y, a[k]? = some x → b[k]? = some y → f k = if x = y then some (.inl ((k + 1 : Nat) : Int)) else some (.inr (.inr ())))
    (hend : f a.length = some (.inr (.inl ()))) : (if ((a.length : Int) != (b.length : Int)) = true then some false else (loopF f 300 0).bind (Sum.elim (fun _ => some true) (fun _ => some false))) = some (decide (a = b)) := by
  by_cases hab : a.length = b.length
  · rw [if_neg (by simp [hab])]
    obtain ⟨h1, h2⟩ := all_loop a.length (by omega) (fun k => a[k]? = b[k]?) f
      (fun k hk hg => by
        have hx : a[k]? = some a[k] := List.getElem?_eq_getElem hk
        have hy : b[k]? = some (b[k]'(by omega)) := List.getElem?_eq_getElem (by omega)
        rw [hf k _ _ hx hy, if_pos]
        rw [hx, hy] at hg; exact Option.some.inj hg)
      (fun k hk hg => by
        have hx : a[k]? = some a[k] := List.getElem?_eq_getElem hk
        have hy : b[k]? = some (b[k]'(by omega)) := List.getElem?_eq_getElem (by omega)
        refine ⟨(), ?_⟩
        rw [hf k _ _ hx hy, if_neg]
        intro e; exact hg (by rw [hx, hy, e]))
      hend
    by_cases h : ∀ k, k < a.length → a[k]? = b[k]?
    · rw [h1 h]
      have : a = b := List.ext_getElem? fun k => by
        by_cases hk : k < a.length
        · exact h k hk
        · rw [List.getElem?_eq_none (by omega), List.getElem?_eq_none (by omega)]
      simp [this]
    · obtain ⟨u, hu⟩ := h2 h
      rw [hu]
      have : a ≠ b := fun e => h fun k _ => by rw [e]
      simp [this]
  · rw [if_pos (by simp; omega)]
    have : a ≠ b := fun e => hab (by rw [e])
    simp [this]
theorem rd_two {α : Type} {a : List α} {k : Nat} {x : α} (h : a[k]? = some x) : rd a (k : Int) = some x := by rw [rd_nat, h]
theorem sametxs_val {a b : List GTx} (hl : a.length ≤ 290) : F20_beadrollref19_SameTxs 300 a b = some (decide (a = b)) := by
  unfold F20_beadrollref19_SameTxs
  refine same_gen hl (fun k x y hx hy => ?_) ?_
  · have hk := (List.getElem?_eq_some_iff.1 hx).1
    unfold F20_beadrollref19_SameTxs_s0
    rw [if_pos (by simpa using hk), rd_two hx, rd_two hy]
    simp only [Option.bind_some]
    rw [wi64 (by omega) (by omega)]
    by_cases e : x = y <;> simp [e]
  · unfold F20_beadrollref19_SameTxs_s0
    rw [if_neg (by simp)]
theorem eqtxs_val {a b : List GTx} (hl : a.length ≤ 290) : F92_api_Tx 300 a b = some (decide (a = b)) := sametxs_val hl
theorem line_eq_iff (x y : GLine) : x = y ↔ x.From = y.From ∧ x.Txs = y.Txs := by cases x; cases y; simp
theorem same19_val {x y : GLine} (hl : x.Txs.length ≤ 290) : F44_beadrollref19_Same 300 x y = some (decide (x = y)) := by
  unfold F44_beadrollref19_Same
  by_cases h : x.From = y.From
  · rw [if_pos (by simpa using h), sametxs_val hl]
    simp [line_eq_iff, h]
  · rw [if_neg (by simpa using h)]
    simp [line_eq_iff, h]
theorem sameq_val {x y : GLine} (hl : x.Txs.length ≤ 290) : F46_queue_Same 300 x y = some (decide (x = y)) := by
  unfold F46_queue_Same
  by_cases h : x.From = y.From
  · rw [if_pos (by simpa using h), eqtxs_val hl]
    simp [line_eq_iff, h]
  · rw [if_neg (by simpa using h)]
    simp [line_eq_iff, h]
theorem same20_val {a b : List GLine} (hl : a.length ≤ 290) (hc : cnt a ≤ 290) : F56_beadrollref20_Same 300 ⟨a⟩ ⟨b⟩ = some (decide (a = b)) := by
  unfold F56_beadrollref20_Same
  refine same_gen hl (fun k x y hx hy => ?_) ?_
  · have hk := (List.getElem?_eq_some_iff.1 hx).1
    have hxc := mem_cnt (List.mem_of_getElem? hx)
    unfold F56_beadrollref20_Same_s0
    rw [if_pos (by simpa using hk)]
    simp only
    rw [rd_two hx, rd_two hy]
    simp only [Option.bind_some]
    rw [same19_val (by omega)]
    simp only [Option.bind_some]
    rw [wi64 (by omega) (by omega)]
    by_cases e : x = y <;> simp [e]
  · unfold F56_beadrollref20_Same_s0
    rw [if_neg (by simp)]
theorem eqlines_val {a b : List GLine} (hl : a.length ≤ 290) (hc : cnt a ≤ 290) : F99_api_Line_385 300 a b = some (decide (a = b)) := by
  unfold F99_api_Line_385
  refine same_gen hl (fun k x y hx hy => ?_) ?_
  · have hk := (List.getElem?_eq_some_iff.1 hx).1
    have hxc := mem_cnt (List.mem_of_getElem? hx)
    unfold F99_api_Line_385_s0
    rw [if_pos (by simpa using hk), rd_two hx, rd_two hy]
    simp only [Option.bind_some]
    rw [sameq_val (by omega)]
    simp only [Option.bind_some]
    rw [wi64 (by omega) (by omega)]
    by_cases e : x = y <;> simp [e]
  · unfold F99_api_Line_385_s0
    rw [if_neg (by simp)]
theorem shard_eq_iff (x y : GShard) : x = y ↔ x.Lines = y.Lines := by cases x; cases y; simp
theorem samesh_val {a b : GShard} (hl : a.Lines.length ≤ 290) (hc : cnt a.Lines ≤ 290) : F59_shard_Same 300 a b = some (decide (a = b)) := by
  unfold F59_shard_Same
  rw [eqlines_val hl hc]
  simp [shard_eq_iff]
/-- pools of which statements speak -/
def Few (p : List GShard) : Prop := p.length ≤ 10 ∧ ∀ s ∈ p, s.Lines.length ≤ 6 ∧ cnt s.Lines ≤ 20
theorem same21_val {a b : List GShard} (ha : Few a) : F27_beadrollref21_Same 300 a b = some (decide (a = b)) := by
  unfold F27_beadrollref21_Same
  have hl := ha.1
  refine same_gen (by omega) (fun k x y hx hy => ?_) ?_
  · have hk := (List.getElem?_eq_some_iff.1 hx).1
    obtain ⟨h1, h2⟩ := ha.2 x (List.mem_of_getElem? hx)
    unfold F27_beadrollref21_Same_s0
    rw [if_pos (by simpa using hk), rd_two hx, rd_two hy]
    simp only [Option.bind_some]
    have := same20_val (a := x.Lines) (b := y.Lines) (by omega) (by omega)
    rw [show F56_beadrollref20_Same 300 x y = some (decide (x.Lines = y.Lines)) from this]
    simp only [Option.bind_some]
    rw [wi64 (by omega) (by omega)]
    by_cases e : x = y
    · simp [e]
    · have : x.Lines ≠ y.Lines := fun h => e ((shard_eq_iff _ _).2 h)
      simp [e, this]
  · unfold F27_beadrollref21_Same_s0
    rw [if_neg (by simp)]
theorem samepool_val {a b : List GShard} (ha : Few a) : F32_pool_Same 300 a b = some (decide (a = b)) := by
  unfold F32_pool_Same F82_api_Shard_eed
  have hl := ha.1
  rw [same_gen (a := a) (b := b) (by omega) (fun k x y hx hy => ?_) ?_]
  · rfl
  · unfold F82_api_Shard_eed_s0
    rw [if_neg (by simp)]

  · have hk := (List.getElem?_eq_some_iff.1 hx).1
    obtain ⟨h1, h2⟩ := ha.2 x (List.mem_of_getElem? hx)
    unfold F82_api_Shard_eed_s0
    rw [if_pos (by simpa using hk), rd_two hx, rd_two hy]
    simp only [Option.bind_some]
    rw [samesh_val (by omega) (by omega)]
    simp only [Option.bind_some]
    rw [wi64 (by omega) (by omega)]
    by_cases e : x = y <;> simp [e]
/-! ### copies -/
theorem twin_gen {α : Type} {l : List α} {f : Int × List α → Option ((Int × List α) ⊕ List α)} (hl : l.length ≤ 290) (hf : ∀ (k : Nat) x, l[k]? = some x → f ((k : Int), l.take k) = some (.inl (((k + 1 : Nat) : Int), l.take k ++ [x]))) (hend : f ((l.length : Int), l) = some (.inr l)) :
    loopF f 300 ((0 : Int), ([] : List α)) = some l := by
  have h := loop_to (f := f) (fun t => ((t : Int), l.take t)) l l.length (fun t ht => ?_) ?_ (by omega)
  · simpa using h
  · have hx : l[t]? = some l[t] := List.getElem?_eq_getElem ht
    rw [hf t _ hx, take_succ hx]
  · simp only [List.take_length]; exact hend
theorem twin20_val {ls : List GLine} (hl : ls.length ≤ 290) (hc : cnt ls ≤ 1000) : F54_beadrollref20_Twin 300 ⟨ls⟩ = some ⟨ls⟩ := by
  unfold F54_beadrollref20_Twin
  rw [twin_gen (l := ls) hl (fun k x hx => ?_) ?_]
  · rfl
  · simp only
    unfold F54_beadrollref20_Twin_s0
    rw [if_neg (by simp)]
  · have hk := (List.getElem?_eq_some_iff.1 hx).1
    have hxc := mem_cnt (List.mem_of_getElem? hx)
    simp only
    unfold F54_beadrollref20_Twin_s0 F40_beadrollref19_Twin
    rw [if_pos (by simpa using hk)]
    simp only
    rw [rd_two hx]
    simp only [Option.bind_some]
    rw [if_pos (by omega)]
    simp only [Option.bind_some]
    rw [if_pos (by simp; omega), wi64 (by omega) (by omega)]
    rfl
theorem twin21_val {p : List GShard} (hp : Few p) : F22_beadrollref21_Twin 300 p = some p := by
  unfold F22_beadrollref21_Twin
  have hl := hp.1
  rw [twin_gen (l := p) (by omega) (fun k x hx => ?_) ?_]
  · rfl
  · simp only
    unfold F22_beadrollref21_Twin_s0
    rw [if_neg (by simp)]
  · have hk := (List.getElem?_eq_some_iff.1 hx).1
    obtain ⟨h1, h2⟩ := hp.2 x (List.mem_of_getElem? hx)
    simp only
    unfold F22_beadrollref21_Twin_s0
    rw [if_pos (by simpa using hk), rd_two hx]
    simp only [Option.bind_some]
    rw [show F54_beadrollref20_Twin 300 x = some x from twin20_val (ls := x.Lines) (by omega) (by omega)]
    simp only [Option.bind_some]
    rw [if_pos (by simp; omega), wi64 (by omega) (by omega)]
    rfl
theorem twinpool_val {p : List GShard} (hp : Few p) : F33_pool_Twin 300 p = some p := by
  unfold F33_pool_Twin
  have hl := hp.1
  rw [twin_gen (l := p) (by omega) (fun k x hx => ?_) ?_]
  · rfl
  · simp only
    unfold F33_pool_Twin_s0
    rw [if_neg (by simp)]

  · have hk := (List.getElem?_eq_some_iff.1 hx).1
    obtain ⟨h1, h2⟩ := hp.2 x (List.mem_of_getElem? hx)
    simp only
    unfold F33_pool_Twin_s0
    rw [if_pos (by simpa using hk), rd_two hx]
    simp only [Option.bind_some]
    rw [show F61_shard_Twin 300 x = some x.Lines from shtwin_val (ls := x.Lines) (by omega) (by omega)]
    simp only [Option.bind_some]
    rw [if_pos (by simp; omega), wi64 (by omega) (by omega)]
    rfl
/-! ### how many -/
theorem count21_eq {p : List GShard} (hp : Few p) : ∃ v, F30_pool_Count 300 p = some v ∧ F31_beadrollref21_Count 300 p = some v := by
  have e : F31_beadrollref21_Count 300 p = F30_pool_Count 300 p := rfl
  rw [e]
  have hl := hp.1
  unfold F30_pool_Count
  obtain ⟨b, hb, _⟩ := loop_ok (f := fun z : Int × Int => F30_pool_Count_s0 300 p z.1 z.2) (fun z => ∃ k : Nat, z.2 = (k : Int) ∧ k ≤ p.length) (fun z => (p.length - z.2).toNat) (fun _ => True) (by
    rintro ⟨v, z⟩ ⟨k, e, hk⟩
    simp only at e
    subst e
    unfold F30_pool_Count_s0
    simp only
    by_cases hi : k < p.length
    · rw [if_pos (by simpa using hi)]
      obtain ⟨s, hsx⟩ : ∃ s, p[k]? = some s := ⟨_, List.getElem?_eq_getElem hi⟩
      obtain ⟨h1, h2⟩ := hp.2 s (List.mem_of_getElem? hsx)
      rw [rd_two hsx]
      simp only [Option.bind_some]
      rw [show F53_shard_Count 300 s = some (cnt s.Lines : Int) from count_val (ls := s.Lines) (by omega) (by omega)]
      simp only [Option.bind_some, StepOk]
      rw [wi64 (x := (k : Int) + 1) (by omega) (by omega)]
      exact ⟨⟨k + 1, by simp, by omega⟩, by omega⟩
    · rw [if_neg (by simpa using hi)]
      trivial) 300 ((0 : Int), (0 : Int)) ⟨0, rfl, by omega⟩ (by simp; omega)
  rw [hb]
  exact ⟨b, rfl, rfl⟩

/-! ### how large -/
theorem great21_val (p : List GShard) : ∃ b, F21_beadrollref21_Great 300 p = some b ∧ (b = false → Few p) := by
  unfold F21_beadrollref21_Great
  obtain ⟨b, hb, hP⟩ : ∃ b, loopF (fun z => F21_beadrollref21_Great_s0 300 p z) 300 (0 : Int) = some b ∧ (b = .inl () → p.length ≤ 10 → ∀ s ∈ p, s.Lines.length ≤ 6 ∧ cnt s.Lines ≤ 20) := by
    refine loop_ok (fun z => ∃ k : Nat, z = (k : Int) ∧ k ≤ p.length ∧ k ≤ 10 ∧ ∀ s ∈ p.take k, s.Lines.length ≤ 6 ∧ cnt s.Lines ≤ 20) (fun z => (10 - z).toNat) (fun b : Unit ⊕ Unit => b = .inl () → p.length ≤ 10 → ∀ s ∈ p, s.Lines.length ≤ 6 ∧ cnt s.Lines ≤ 20) ?_ 300 _ ⟨0, rfl, by omega, by omega, by simp⟩ (by simp)
    rintro z ⟨k, rfl, hk, hk2, hall⟩
    unfold F21_beadrollref21_Great_s0
    by_cases hi : k < p.length ∧ k < 10
    · rw [if_pos (by simpa using hi.1)]
      simp only [Option.bind_some]
      rw [if_pos (by have := hi.2; simp; omega)]
      obtain ⟨x, hx⟩ : ∃ x, p[k]? = some x := ⟨_, List.getElem?_eq_getElem hi.1⟩
      rw [rd_two hx]
      simp only [Option.bind_some]
      obtain ⟨b, hb, hg⟩ := great_val x.Lines
      rw [show F49_beadrollref20_Great 300 x = some b from hb]
      simp only [Option.bind_some]
      cases b with
      | true =>
        simp only [if_true, StepOk]
        intro h; cases h
      | false =>
        simp only [Bool.false_eq_true, if_false, StepOk]
        rw [wi64 (by omega) (by omega)]
        refine ⟨⟨k + 1, by simp, by omega, by omega, fun s hs => ?_⟩, by omega⟩
        rw [take_succ hx] at hs
        rcases List.mem_append.1 hs with hs | hs
        · exact hall s hs
        · simp only [List.mem_singleton] at hs; subst hs; exact hg rfl
    · have he : ((if decide ((k : Int) < (p.length : Int)) = true then some (decide ((k : Int) < (10 : Int))) else some false) : Option Bool) = some false := by
        by_cases h1 : k < p.length
        · rw [if_pos (by simpa using h1)]
          have : ¬ k < 10 := fun h => hi ⟨h1, h⟩
          simp; omega
        · rw [if_neg (by simpa using h1)]
      rw [he]
      simp only [Option.bind_some, Bool.false_eq_true, if_false, StepOk]
      intro _ h10 s hs
      have : k = p.length := by omega
      subst this
      rw [List.take_length] at hall
      exact hall s hs
  rw [hb]
  simp only [Option.bind_some]
  rcases b with ⟨⟩ | ⟨⟩
  · refine ⟨_, rfl, fun h => ?_⟩
    have h10 : p.length ≤ 10 := by
      have : ¬ (p.length : Int) > 10 := by simpa using h
      omega
    exact ⟨h10, hP rfl h10⟩
  · exact ⟨true, rfl, by simp⟩

theorem few_new {n : Int} {q : List GShard × Int} (h : F25_pool_New 300 n = some q) : Few q.1 := by
  unfold F25_pool_New at h
  obtain ⟨o, ho, h⟩ := bind_some h
  split at h
  · cases Option.some.inj h; exact ⟨by simp, by simp⟩
  · next hno =>
    obtain ⟨_, h⟩ := ifp h
    have h := Option.some.inj h
    subst h
    have hn : n ≤ 8 := by
      split at ho
      · have := Option.some.inj ho; subst this; simp at hno
      · have := Option.some.inj ho; subst this; simpa using hno
    refine ⟨by simp; omega, fun s hs => ?_⟩
    have := List.eq_of_mem_replicate hs
    subst this; simp [cnt]
theorem new_ex (n : Int) : ∃ q, F25_pool_New 300 n = some q := by
  unfold F25_pool_New
  by_cases h : 1 ≤ n ∧ n ≤ 8
  · rw [if_neg (by simp; omega)]
    simp only [Option.bind_some]
    rw [if_neg (by simp; omega), if_pos (by omega)]
    exact ⟨_, rfl⟩
  · have e : ((if decide (n < 1) = true then some true else some (decide (n > 8))) : Option Bool) = some true := by
      by_cases h1 : n < 1
      · rw [if_pos (by simpa using h1)]
      · rw [if_neg (by simpa using h1)]; simp; omega
    rw [e]
    exact ⟨_, rfl⟩

/-- the statement -/
theorem tells_val {a b : List GShard} (ha : PoD a) (k : List Int) (hk : k.length = 32) (many : Int) : F4_beadrolllaw21_PoolTells 300 a b k many = some true := by
  unfold F4_beadrolllaw21_PoolTells
  obtain ⟨g1, e1, f1⟩ := great21_val a
  obtain ⟨g2, e2, f2⟩ := great21_val b
  rw [e1]
  simp only [Option.bind_some]
  cases g1 with
  | true => simp
  | false =>
  simp only [Bool.false_eq_true, if_false]
  rw [e2]
  simp only [Option.bind_some]
  cases g2 with
  | true => simp
  | false =>
  have fa := f1 rfl
  have fb := f2 rfl
  simp only [Bool.false_eq_true, if_false]
  obtain ⟨q, q1, q2⟩ := at_eq hk many
  obtain ⟨w, w1⟩ := new_ex many
  have fw := few_new w1
  obtain ⟨e, c1, c2⟩ := may21_eq ha fun s hs => by have := (fa.2 s hs).1; omega
  obtain ⟨v, v1, v2⟩ := count21_eq fa
  have c3 : F29_beadrollref21_Check 300 a = some e := by
    unfold F29_beadrollref21_Check
    rw [c2]
    simp only [Option.bind_some]
    unfold F28_pool_Check at c1
    by_cases he : e = 0
    · subst he; rfl
    · rw [if_pos (by simpa using he)]
      obtain ⟨o, _, c1⟩ := bind_some c1
      split at c1
      · exact c1
      · obtain ⟨o2, _, c1⟩ := bind_some c1
        cases o2
        · exact absurd (Option.some.inj c1).symm he
        · exact c1
  rw [twin21_val fa]
  simp only [Option.bind_some]
  rw [q1, q2]
  simp only [Option.bind_some]
  rw [w1, new_eq, w1]
  simp only [Option.bind_some]
  rw [c1, c3, v1, v2, samepool_val fa, samepool_val fa, twinpool_val fa, same21_val fa, same21_val fw]
  simp [same21_val (b := a) fa]
end Go.Proofs.YtonfljoibcnlgaaDoor
