/-
  QueueRuns answers true, as a function on plain data. No machine is in sight.
-/
import Derived.Test.YtonfljoibcnlgaaDoorPe
import Derived.Test.YtonfljoibcnlgaaDoorPl
namespace Go.Proofs.YtonfljoibcnlgaaDoor
open Bd Go

theorem runs_val {l : GLine} (hl : LineOk l) {n : Int} (hn : 0 ≤ n ∧ n < 18446744073709551616) : F3_beadrolllaw19_QueueRuns 300 l n = some true := by
  unfold F3_beadrolllaw19_QueueRuns
  rw [alive_val]
  simp only [Option.bind_some]
  by_cases hlen : l.Txs.length ≤ 12
  · rw [if_neg (by simp; omega)]
    simp only [Bool.not_true, Option.bind_some, Bool.false_eq_true, if_false]
    by_cases hm : May l
    · obtain ⟨k, r, hr, hk, h3, h4, p1, p2, p3⟩ := ready_ok hl hm hn
      obtain ⟨k', hk', hp, h3', h4'⟩ := past_ok hl hm n
      have hkk : k = k' := by
        rcases Nat.lt_trichotomy k k' with h | h | h
        · have hx : l.Txs[k]? = some (l.Txs[k]'(by omega)) := List.getElem?_eq_getElem (by omega)
          have a := h4 k _ hx (Nat.le_refl _)
          have b := h3' k _ hx h
          omega
        · exact h
        · have hx : l.Txs[k']? = some (l.Txs[k']'(by omega)) := List.getElem?_eq_getElem (by omega)
          have a := h3 k' _ hx h
          have b := h4' k' _ hx (Nat.le_refl _)
          omega
      subst hkk
      rw [hr, hp]
      simp only [Option.bind_some]
      rw [if_neg (by simp)]
      simp only [Option.bind_some]
      rw [if_neg (by simp)]
      -- each of the run is found, by its nonce
      have hat : ∀ i, i < r.length → ∃ x, r[i]? = some x ∧ x ∈ l.Txs ∧ x.Nonce = n + i ∧ n + i < 18446744073709551616 := fun i hi => by
        obtain ⟨q1, x, q2, q3⟩ := p2 i hi
        rw [q2] at q1
        have hm := List.mem_of_getElem? q1.symm
        have := (hl.txs x hm).nonce
        exact ⟨x, q2, hm, q3, by omega⟩
      obtain ⟨b, hb, hP⟩ : ∃ b, loopF (fun z => F3_beadrolllaw19_QueueRuns_s0 300 l n (r, 0) z) 300 (0 : Int) = some b ∧ b = .inl () := by
        refine loop_ok (fun z => ∃ i : Nat, z = (i : Int) ∧ i ≤ r.length) (fun z => (r.length - z).toNat) (fun b : Unit ⊕ Unit => b = .inl ()) ?_ 300 _ ⟨0, rfl, by omega⟩ (by simp; omega)
        rintro z ⟨i, rfl, hi⟩
        unfold F3_beadrolllaw19_QueueRuns_s0
        by_cases hlt : i < r.length
        · obtain ⟨x, q1, q2, q3, q4⟩ := hat i hlt
          rw [if_pos (by simpa using hlt), wu64 (x := (i : Int)) (by omega) (by omega), wu64 (by omega) q4, rd_nat, q1]
          obtain ⟨q, f1, f2, f3⟩ := find_ok (l := l) (by omega) (n + i)
          rw [f1]
          simp only [Option.bind_some]
          have ht : q.2 = true := by
            cases hq : q.2 with
            | true => rfl
            | false => exact absurd q3 (f3 hq x q2)
          have hxe : q.1 = x := inc_uniq hm.2.2 (f2 ht).1 q2 (by rw [(f2 ht).2, q3])
          rw [if_neg (by simp [q3]), if_neg (by simp [ht])]
          simp only [hxe, decide_true, Bool.not_true, Option.bind_some, Bool.false_eq_true, if_false, StepOk]
          rw [wi64 (by omega) (by omega)]
          exact ⟨⟨i + 1, by omega, by omega⟩, by omega⟩
        · rw [if_neg (by simpa using hlt)]
          rfl
      subst hP
      rw [hb]
      simp only [Option.bind_some, Sum.elim_inl]
      rw [wu64 (x := (r.length : Int)) (by omega) (by omega)]
      obtain ⟨q, f1, f2, f3⟩ := find_ok (l := l) (by omega) (IntKind.u64.wrap (n + r.length))
      rw [f1]
      simp only [Option.bind_some]
      have hcat : ([] : List GTx) ++ l.Txs.take k ++ l.Txs.drop k = l.Txs := by simp
      have hsame : F20_beadrollref19_SameTxs 300 (([] : List GTx) ++ l.Txs.take k ++ l.Txs.drop k) l.Txs = some true := by rw [hcat, same_val (by omega)]; simp
      have hchk : F18_queue_Check 300 ⟨l.From, l.Txs.drop k⟩ = some 0 := (check_val (l := ⟨l.From, l.Txs.drop k⟩) ⟨hl.from_, fun x hx => hl.txs x (List.mem_of_mem_drop (i := k) hx)⟩).1 (may_drop hm k)
      rw [if_pos trivial]
      -- behind the run: none, or the number has turned over
      cases hq : q.2 with
      | false =>
        simp only [Bool.not_false, if_true]
        rw [if_pos (by simp; omega), if_pos (by rw [hcat]; omega), hsame]
        simp only [Option.bind_some, if_true, hchk, Int.reduceBEq, beq_self_eq_true]
      | true =>
        obtain ⟨g1, g2⟩ := f2 hq
        have hlt : IntKind.u64.wrap (n + r.length) < n := by
          apply Classical.byContradiction
          intro hge
          have hw : n + r.length < 18446744073709551616 := by
            apply Classical.byContradiction
            intro h
            have : IntKind.u64.wrap (n + r.length) = n + r.length - 18446744073709551616 := by simp [IntKind.wrap, IntKind.bits, IntKind.signed]; omega
            omega
          rw [wu64 (by omega) hw] at g2 hge
          obtain ⟨j, hj⟩ := List.getElem?_of_mem g1
          have hkj : k ≤ j := by
            apply Classical.byContradiction
            intro h
            have := h3 j _ hj (by omega); omega
          -- the one behind the run
          have hjr : k + r.length ≤ j := by
            apply Classical.byContradiction
            intro h
            obtain ⟨q1, x, q2, q3⟩ := p2 (j - k) (by omega)
            rw [q2, show k + (j - k) = j from by omega, hj] at q1
            simp only [Option.some.injEq] at q1
            rw [q1] at q3; omega
          have hjl := (List.getElem?_eq_some_iff.1 hj).1
          have hy : l.Txs[k + r.length]? = some (l.Txs[k + r.length]'(by omega)) := List.getElem?_eq_getElem (by omega)
          have hne := p3 _ hy
          generalize l.Txs[k + r.length]'(by omega) = y at hy hne
          have hyge : n + r.length ≤ y.Nonce := by
            by_cases h0 : r.length = 0
            · have := h4 _ y hy (by omega); omega
            · obtain ⟨q1, x, q2, q3⟩ := p2 (r.length - 1) (by omega)
              rw [q2] at q1
              have := inc_at hm.2.2 q1.symm hy (by omega)
              omega
          by_cases e : j = k + r.length
          · subst e; rw [hj] at hy; cases hy; omega
          · have := inc_at hm.2.2 hy hj (by omega); omega
        simp only [Bool.not_true, Bool.false_eq_true, if_false]
        rw [if_pos (decide_eq_true hlt), if_pos (by simp; omega), if_pos (by rw [hcat]; omega), hsame]
        simp only [Option.bind_some, if_true, hchk, Int.reduceBEq, beq_self_eq_true]
    · rw [ready_bad hl hm]
      obtain ⟨q, hq, hq8⟩ := past_bad hl hm n
      rw [hq]
      simp only [Option.bind_some]
      rw [if_pos (by simp)]
      simp only [Option.bind_some, if_true]
      rw [hq8, (check_val hl).2 hm]
      rfl
  · rw [if_pos (by simp; omega)]
    simp
end Go.Proofs.YtonfljoibcnlgaaDoor
