/-
  ShardKeeps answers true, as a function on plain data. No machine is in sight.
-/
import Derived.Test.YtonfljoibcnlgaaDoorQd
import Derived.Test.YtonfljoibcnlgaaDoorQv
namespace Go.Proofs.YtonfljoibcnlgaaDoor
open Bd Go

theorem keeps_val {ls : List GLine} (hs : ShOk ls) {x : GTx} (hx : TxOk x) (cap nonce : Int) : F8_beadrolllaw20_ShardKeeps 300 ⟨ls⟩ cap nonce x = some true := by
  unfold F8_beadrolllaw20_ShardKeeps
  rw [shalive_val]
  simp only [Option.bind_some]
  obtain ⟨b, hb, hg⟩ := great_val ls
  rw [hb]
  simp only [Option.bind_some]
  cases b with
  | true => simp
  | false =>
  obtain ⟨hlen, hc⟩ := hg rfl
  simp only [Bool.false_eq_true, if_false, Bool.not_true, Option.bind_some]
  obtain ⟨a, gone, e, he, hcase⟩ := submit_val hs hlen hc hx cap nonce
  rw [he]
  simp only [Option.bind_some]
  rcases hcase with ⟨h0, rfl, rfl⟩ | ⟨rfl, hS⟩
  · rw [if_pos (by simpa using h0)]
    simp
  · have hm : MayS ls := by
      by_cases hm : MayS ls
      · exact hm
      · exfalso
        unfold F50_shard_Submit at he
        rw [(shcheck_val hs (by omega)).2 hm] at he
        simp at he
    rw [if_neg (by simp), tx_from hx]
    simp only [Option.bind_some]
    have hcnt := hS.count
    have hlen' := hS.len
    have hone := hS.one
    have hfind := shfind_in hS.may (by omega) (by omega) hS.has
    rw [hfind]
    simp only [Option.bind_some]
    rw [if_neg (by simp), if_neg (by simp), if_neg (by simp; omega), (shcheck_val hS.ok (by omega)).1 hS.may]
    simp only [Option.bind_some]
    rw [if_neg (by simp), count_val (by omega) (by omega), count_val (by omega) (by omega)]
    simp only [Option.bind_some]
    have hcw : IntKind.i64.wrap (IntKind.i64.wrap ((cnt ls : Int) + 1) - (gone.length : Int)) = (cnt a : Int) := by
      rw [wi64 (x := (cnt ls : Int) + 1) (by omega) (by omega), wi64 (by omega) (by omega)]; omega
    rw [hcw]
    simp only [bne_self_eq_false, Option.bind_some, Bool.false_eq_true, if_false]
    obtain ⟨r, hr, hrP⟩ : ∃ r, loopF (fun z => F8_beadrolllaw20_ShardKeeps_s0 300 ⟨ls⟩ (⟨a⟩, gone, 0) z) 300 (0 : Int) = some r ∧ r = .inl () := by
      refine loop_ok (fun z => ∃ k : Nat, z = (k : Int) ∧ k ≤ ls.length) (fun z => (ls.length - z).toNat) (fun r : Unit ⊕ Unit => r = .inl ()) ?_ 300 _ ⟨0, rfl, by omega⟩ (by simp; omega)
      rintro z ⟨k, rfl, hk⟩
      unfold F8_beadrolllaw20_ShardKeeps_s0
      by_cases hi : k < ls.length
      · rw [if_pos (by simpa using hi)]
        obtain ⟨l, hl⟩ : ∃ l, ls[k]? = some l := ⟨_, List.getElem?_eq_getElem hi⟩
        have hlm := List.mem_of_getElem? hl
        have hlc := mem_cnt hlm
        obtain ⟨r2, hr2, rfl⟩ : ∃ r, loopF (fun z => F8_beadrolllaw20_ShardKeeps_s1 300 ⟨ls⟩ (⟨a⟩, gone, 0) (k : Int) z) 300 (0 : Int) = some r ∧ r = .inl () := by
          refine loop_ok (fun z => ∃ j : Nat, z = (j : Int) ∧ j ≤ l.Txs.length) (fun z => (l.Txs.length - z).toNat) (fun r : Unit ⊕ Unit => r = .inl ()) ?_ 300 _ ⟨0, rfl, by omega⟩ (by simp; omega)
          rintro z ⟨j, rfl, hj⟩
          unfold F8_beadrolllaw20_ShardKeeps_s1
          rw [rd_nat, hl]
          simp only [Option.bind_some]
          by_cases hj2 : j < l.Txs.length
          · rw [if_pos (by simpa using hj2), rd_nat]
            obtain ⟨z, hz⟩ : ∃ z, l.Txs[j]? = some z := ⟨_, List.getElem?_eq_getElem hj2⟩
            have hzm := List.mem_of_getElem? hz
            rw [hz]
            simp only [Option.bind_some]
            have hgo : StepOk (fun z : Int => ∃ j : Nat, z = (j : Int) ∧ j ≤ l.Txs.length) (fun z => (l.Txs.length - z).toNat) (fun r : Unit ⊕ Unit => r = .inl ()) (j : Int) (some (.inl (IntKind.i64.wrap ((j : Int) + 1)))) := by
              simp only [StepOk]
              rw [wi64 (by omega) (by omega)]
              exact ⟨⟨j + 1, by simp, by omega⟩, by omega⟩
            rcases hS.kept l.From z (by rw [lineOf_mem hm.2 hlm]; exact hzm) with hk | hk
            · rw [shfind_in hS.may (by omega) (by omega) hk]
              simpa using hgo
            · subst hk
              obtain ⟨⟨q, b⟩, hq, _⟩ := shfind_val hS.may.2 (ls := a) (by omega) (by omega) l.From z.Nonce
              rw [hq]
              have h0 : rd [z] 0 = some z := rfl
              simp only [Option.bind_some, List.length_cons, List.length_nil, h0]
              cases b with
              | true =>
                by_cases hqz : q = z
                · simpa [hqz] using hgo
                · simpa [hqz] using hgo
              | false => simpa using hgo
          · rw [if_neg (by simpa using hj2)]
            exact rfl
        rw [hr2]
        simp only [Option.bind_some, Sum.elim_inl, StepOk]
        rw [wi64 (by omega) (by omega)]
        exact ⟨⟨k + 1, by simp, by omega⟩, by omega⟩
      · rw [if_neg (by simpa using hi)]
        exact rfl
    rw [hr, hrP]
    simp only [Option.bind_some, Sum.elim_inl, if_true]
    by_cases hcap : (cnt a : Int) ≤ cap
    · rw [if_pos (by simpa using hcap)]; rfl
    · rw [if_neg (by simpa using hcap)]
      have : gone ≠ [] := fun h => by
        have := hS.room h
        subst h
        simp at hcnt
        omega
      have : gone.length = 1 := by
        have := List.length_pos_iff.2 this
        omega
      simp
      omega
end Go.Proofs.YtonfljoibcnlgaaDoor
