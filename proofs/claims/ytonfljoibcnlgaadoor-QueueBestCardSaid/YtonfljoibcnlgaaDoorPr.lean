/-
  QueueBest answers true, as a function on plain data. No machine is in sight.
-/
import Derived.Test.YtonfljoibcnlgaaDoorPq
namespace Go.Proofs.YtonfljoibcnlgaaDoor
open Bd Go

theorem tx_check {x : GTx} (hx : TxOk x) : F38_tx_Check 300 x = some (if x.Sign = sg x then 0 else 110) := by
  unfold F38_tx_Check
  rw [(sg_val hx.pub hx.to).1]
  simp only [Option.bind_some]
  by_cases h : x.Sign = sg x <;> simp [h]
theorem tx_from {x : GTx} (hx : TxOk x) : F39_tx_From 300 x = some (ky x.Pub) := by
  unfold F39_tx_From
  rw [(ky_val hx.pub).1]
  rfl

/-- what is found in a line is what it has -/
theorem find_in {l : GLine} (hm : May l) (hlen : l.Txs.length ≤ 290) {x : GTx} (hx : x ∈ l.Txs) : F19_beadrolllaw19_find 300 l x.Nonce = some (x, true) := by
  obtain ⟨⟨q, b⟩, h1, h2, h3⟩ := find_ok hlen x.Nonce
  rw [h1]
  cases b with
  | false => exact absurd rfl (h3 rfl x hx)
  | true =>
    have e : q = x := inc_uniq hm.2.2 (h2 rfl).1 hx (h2 rfl).2
    rw [e]

theorem best_val {l : GLine} (hl : LineOk l) {x y : GTx} (hx : TxOk x) (hy : TxOk y) : F6_beadrolllaw19_QueueBest 300 l x y = some true := by
  unfold F6_beadrolllaw19_QueueBest
  rw [alive_val]
  simp only [Option.bind_some]
  by_cases hlen : l.Txs.length ≤ 12
  · rw [if_neg (by simp; omega)]
    by_cases hn : x.Nonce = y.Nonce
    · rw [if_neg (by simp [hn])]
      simp only [Bool.not_true, Option.bind_some, Bool.false_eq_true, if_false, if_true]
      have zlok : LineOk zl := ⟨by simp [zl], by simp [zl]⟩
      have zlmay : May zl := ⟨by simp [zl], by simp [zl], List.Pairwise.nil⟩
      -- a line that took nothing in
      have none_ : ∀ e : Int, (e != 0) = true → F34_queue_Put 300 l x = some (zl, [], e) → ∃ q, F34_queue_Put 300 zl y = some q := fun e _ _ => by
        cases ho : own y zl.From with
        | false => exact ⟨_, put_alien zlok zlmay hy ho⟩
        | true =>
          rcases put_own zlok zlmay hy ho (by simp [zl]) with ⟨z, hz, _⟩ | ⟨P, S, old, hT⟩
          · simp [zl] at hz
          · exact ⟨_, hT.1⟩
      have fell : ∀ e : Int, (e != 0) = true → F34_queue_Put 300 l x = some (zl, [], e) → F6_beadrolllaw19_QueueBest 300 l x y = some true := fun e he hp => by
        obtain ⟨q, hq⟩ := none_ e he hp
        unfold F6_beadrolllaw19_QueueBest
        rw [alive_val]
        simp only [Option.bind_some]
        rw [if_neg (by simp; omega), if_neg (by simp [hn])]
        simp only [Bool.not_true, Option.bind_some, Bool.false_eq_true, if_false, if_true, hp, hq, he]
        rfl
      have fold : F6_beadrolllaw19_QueueBest 300 l x y = some true → _ := id
      unfold F6_beadrolllaw19_QueueBest at fell
      rw [alive_val] at fell
      simp only [Option.bind_some] at fell
      rw [if_neg (by simp; omega), if_neg (by simp [hn])] at fell
      simp only [Bool.not_true, Option.bind_some, Bool.false_eq_true, if_false, if_true] at fell
      by_cases hm : May l
      · cases ho : own x l.From with
        | false => exact fell 2 rfl (put_alien hl hm hx ho)
        | true =>
          rcases put_own hl hm hx ho (by omega) with ⟨z, _, _, _, hp⟩ | ⟨P, S, old, hT⟩
          · exact fell 190 rfl hp
          · have hma := takes_may hm (by omega) ho hT
            have hla := takes_line hl hx hT
            obtain ⟨hp, t1, t2, t3, t4⟩ := hT
            have hl1 : (P ++ x :: S).length ≤ 13 := by
              have : l.Txs.length = P.length + old.length + S.length := by rw [t1]; simp [Nat.add_assoc]
              simp; omega
            rw [hp]
            simp only [Option.bind_some]
            generalize hA : (⟨l.From, P ++ x :: S⟩ : GLine) = A at *
            have hAt : A.Txs = P ++ x :: S := by rw [← hA]
            have hAf : A.From = l.From := by rw [← hA]
            have hxA : x ∈ A.Txs := by rw [hAt]; simp
            have hA12 : A.Txs.length ≤ 13 := by rw [hAt]; exact hl1
            cases hoy : own y A.From with
            | false =>
              rw [put_alien hla hma hy hoy]
              simp only [Option.bind_some, tx_check hy, tx_from hy]
              rw [if_neg (by decide), if_pos (by decide)]
              rw [hAf] at hoy
              unfold own at hoy
              by_cases hs : y.Sign = sg y
              · have : ky y.Pub ≠ l.From := by simpa [hs] using hoy
                simp [hs, this]
              · simp [hs]
            | true =>
              rcases put_own hla hma hy hoy (by omega) with ⟨z, hz, z1, z2, hq⟩ | ⟨P', S', old', hT'⟩
              · have hzx : z = x := inc_uniq hma.2.2 hz hxA (by rw [z1, hn])
                subst hzx
                rw [hq]
                simp only [Option.bind_some]
                have hfz : ∃ q, F19_beadrolllaw19_find 300 zl z.Nonce = some q := by obtain ⟨q, h1, _⟩ := find_ok (l := zl) (by simp [zl]) z.Nonce; exact ⟨q, h1⟩
                obtain ⟨q, hfz⟩ := hfz
                rw [if_neg (by decide), if_neg (by decide), hfz]
                simp only [Option.bind_some]
                rw [if_pos (by simpa using z2), find_in hma (by omega) hxA]
                simp
              · have hmb := takes_may hma (by omega) hoy hT'
                have hlb := takes_line hla hy hT'
                obtain ⟨hq, s1, s2, s3, s4⟩ := hT'
                have hb13 : (P' ++ y :: S').length ≤ 14 := by
                  have : A.Txs.length = P'.length + old'.length + S'.length := by rw [s1]; simp [Nat.add_assoc]
                  simp; omega
                have hold : old' = [x] ∧ x.Fee < y.Fee := by
                  have hx1 := hxA
                  rw [s1] at hx1
                  rcases List.mem_append.1 hx1 with h | h
                  · rcases List.mem_append.1 h with h | h
                    · have := s3 x h; omega
                    · rcases s2 with rfl | ⟨u, rfl, u1, u2⟩
                      · cases h
                      · simp only [List.mem_singleton] at h
                        subst h
                        exact ⟨rfl, u2⟩
                  · have := s4 x h; omega
                obtain ⟨rfl, hfee⟩ := hold
                rw [hq]
                simp only [Option.bind_some]
                generalize hB : (⟨A.From, P' ++ y :: S'⟩ : GLine) = B at *
                have hBt : B.Txs = P' ++ y :: S' := by rw [← hB]
                have hyB : y ∈ B.Txs := by rw [hBt]; simp
                have hB14 : B.Txs.length ≤ 14 := by rw [hBt]; exact hb13
                rw [if_neg (by decide), if_neg (by decide), hn, find_in hmb (by omega) hyB]
                simp only [Option.bind_some]
                rw [if_neg (by simp; omega)]
                -- all others stay
                obtain ⟨b, hb, hP⟩ : ∃ b, loopF (fun z => F6_beadrolllaw19_QueueBest_s0 300 l x (B, [x], 0) z) 300 (0 : Int) = some b ∧ b = .inl () := by
                  refine loop_ok (fun z => ∃ i : Nat, z = (i : Int) ∧ i ≤ l.Txs.length) (fun z => (l.Txs.length - z).toNat) (fun b : Unit ⊕ Unit => b = .inl ()) ?_ 300 _ ⟨0, rfl, by omega⟩ (by simp; omega)
                  rintro z ⟨i, rfl, hi⟩
                  unfold F6_beadrolllaw19_QueueBest_s0
                  by_cases hlt : i < l.Txs.length
                  · obtain ⟨u, hu⟩ : ∃ u, l.Txs[i]? = some u := ⟨_, List.getElem?_eq_getElem hlt⟩
                    have hum := List.mem_of_getElem? hu
                    rw [if_pos (by simpa using hlt), rd_nat, hu]
                    simp only [Option.bind_some]
                    by_cases hun : u.Nonce = x.Nonce
                    · rw [hun, hn, find_in hmb (by omega) hyB]
                      simp only [Option.bind_some, Bool.not_true, Bool.false_eq_true, if_false, StepOk, bne_self_eq_false]
                      rw [wi64 (by omega) (by omega)]
                      exact ⟨⟨i + 1, by omega, by omega⟩, by omega⟩
                    · have huB : u ∈ B.Txs := by
                        have h1 : u ∈ A.Txs := by
                          rw [t1] at hum
                          rw [hAt]
                          rcases List.mem_append.1 hum with h | h
                          · rcases List.mem_append.1 h with h | h
                            · simp [h]
                            · rcases t2 with rfl | ⟨v, rfl, v1, _⟩
                              · cases h
                              · simp only [List.mem_singleton] at h
                                subst h
                                exact absurd v1 hun
                          · simp [h]
                        rw [s1] at h1
                        rw [hBt]
                        rcases List.mem_append.1 h1 with h | h
                        · rcases List.mem_append.1 h with h | h
                          · simp [h]
                          · simp only [List.mem_singleton] at h
                            subst h
                            exact absurd rfl hun
                        · simp [h]
                      rw [find_in hmb (by omega) huB]
                      simp only [Option.bind_some, Bool.not_true, Bool.false_eq_true, if_false, StepOk, decide_true]
                      rw [if_pos (by simpa using hun), wi64 (by omega) (by omega)]
                      exact ⟨⟨i + 1, by omega, by omega⟩, by omega⟩
                  · rw [if_neg (by simpa using hlt)]
                    rfl
                subst hP
                rw [hb]
                have hchk := (check_val hlb).1 hmb
                simp only [Option.bind_some, Sum.elim_inl, same_val (a := [x]) (b := [x]) (by simp), hchk, decide_true, if_true]
                rfl
      · exact fell 8 rfl (put_bad hl hm x)
    · rw [if_pos (by simpa using hn)]
      rfl
  · rw [if_pos (by simp; omega)]
    rfl
end Go.Proofs.YtonfljoibcnlgaaDoor
