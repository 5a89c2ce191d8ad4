import Derived.Test.YtonfljoibcnlgaaGreatDoorM4
import Derived.Test.YtonfljoibcnlgaaGreatDoorVa
namespace Go.Proofs.YtonfljoibcnlgaaGreatDoor
open Bd Go
theorem does_apart {A : List GShard} (hF : Few A) {i : Int} {q : List GShard × List GTx × Int} (h : Does A i q) : (q.2.2 = 0 ∧ F28_beadrolllaw21_apart 1000 q.1 A i = some true) ∨ (q.2.2 ≠ 0 ∧ q.1 = []) := by
  rcases h with h | ⟨h, j, rfl, hj⟩
  · exact .inr h
  · exact .inl ⟨h, apart_val hF hj⟩
theorem apart_law {A : List GShard} (hA : ∀ s ∈ A, ShOk s.Lines) {t : GTree} (ht : ∀ x ∈ t.Nodes, NodeD x) (i : Int) {cap : Int} (hcap : -9223372036854775808 ≤ cap ∧ cap ≤ 9223372036854775807) {x : GTx} (hx : TxOk x) {back : List GTx} (hback : ∀ x ∈ back, TxOk x) : F5_beadrolllaw21_PoolApart 1000 A t i cap x back = some true := by
  unfold F5_beadrolllaw21_PoolApart
  rw [poalive_val]
  simp only [Option.bind_some]
  obtain ⟨b, hb, hg⟩ := great21_val A
  rw [hb]
  simp only [Option.bind_some]
  cases b with
  | true => simp
  | false =>
  have hF := hg rfl
  simp only [Bool.false_eq_true, if_false]
  obtain ⟨b, hb, hg⟩ := great06_val t
  rw [hb]
  simp only [Option.bind_some]
  cases b with
  | true => simp
  | false =>
  obtain ⟨t1, t2⟩ := hg rfl
  have htv : TreeV t := ⟨⟨ht, t1⟩, t2⟩
  simp only [Bool.false_eq_true, if_false]
  by_cases h10 : (back.length : Int) > 10
  · rw [if_pos (by simpa using h10)]; simp
  rw [if_neg (by simpa using h10)]
  simp only [Bool.not_true, Option.bind_some, Bool.false_eq_true, if_false]
  obtain ⟨qa, p, ha, hp, da⟩ := psub_any hA hF htv hx cap
  obtain ⟨qb, hb, db⟩ := pdraw_any hA hF htv i hcap
  obtain ⟨qc, hc, dc⟩ := pback_any hA hF htv i hback (by omega)
  rw [ha, hb, hc, tx_from hx]
  simp only [Option.bind_some]
  rw [hp]
  simp only [Option.bind_some]
  rcases does_apart hF da with ⟨a1, a2⟩ | ⟨a1, a2⟩ <;> rcases does_apart hF db with ⟨b1, b2⟩ | ⟨b1, b2⟩ <;> rcases does_apart hF dc with ⟨c1, c2⟩ | ⟨c1, c2⟩ <;>
    simp [a1, a2, b1, b2, c1, c2]
end Go.Proofs.YtonfljoibcnlgaaGreatDoor
