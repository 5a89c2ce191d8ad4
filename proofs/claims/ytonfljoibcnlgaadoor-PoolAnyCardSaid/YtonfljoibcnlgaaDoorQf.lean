/-
  A statement's arguments that are shards and transactions, as data, with all that is known of their bytes.
-/
import Derived.Test.YtonfljoibcnlgaaDoorPg
import Derived.Test.YtonfljoibcnlgaaDoorM2
namespace Go.Proofs.YtonfljoibcnlgaaDoor
open Bd Go Go.ChangeShapes Go.WideShapes Go.ChangeAt Go.RowKit

section
variable {H : Type} {enc : TypeId × Value → H} {W : World}
theorem in_23d : Reads enc Tryd.prog W 23 eA22 Dig := fun fuel cs x h => by
  obtain ⟨l, h1, h2, h3⟩ := in_array (sz := 1) ud23' c5 c23 (in_int ud5') fuel cs x h
  refine ⟨l, h1, h2, fun n hn => ?_⟩
  have hi : IntKind.min .u8 = 0 := rfl
  have hj : IntKind.max .u8 = 255 := rfl
  have := h3 n hn
  omega
theorem in_36d : Reads enc Tryd.prog W 36 eGTx TxD := by
  intro fuel cs x h
  have hl := (st_field ud36 h).1
  rw [c36] at hl
  obtain ⟨a0, r0, k0⟩ := st_fld ud36 h 0 f36_0 c23 in_23d
  obtain ⟨a1, r1, k1⟩ := st_fld ud36 h 1 f36_1 c23 in_23d
  obtain ⟨a2, r2, k2⟩ := st_fld ud36 h 2 f36_2 c27 in_27
  obtain ⟨a3, r3, k3⟩ := st_fld ud36 h 3 f36_3 c27 in_27
  obtain ⟨a4, r4, k4⟩ := st_fld ud36 h 4 f36_4 c27 in_27
  obtain ⟨a5, r5, k5⟩ := st_fld ud36 h 5 f36_5 c23 in_23d
  refine ⟨⟨a0, a1, a2, a3, a4, a5⟩, ?_, ⟨⟨k0.1, k1.1, k5.1, k2, k4⟩, k0, k1, k3⟩⟩
  simp only [eGTx, Rep]
  refine repAll_mk _ _ (by rw [hl]; rfl) fun i d hd => ?_
  match i, hd with
  | 0, hd => cases hd; exact r0
  | 1, hd => cases hd; exact r1
  | 2, hd => cases hd; exact r2
  | 3, hd => cases hd; exact r3
  | 4, hd => cases hd; exact r4
  | 5, hd => cases hd; exact r5
  | n + 6, hd => simp at hd
theorem in_24d : Reads enc Tryd.prog W 24 eL24 (fun l => ∀ x ∈ l, TxD x) := in_slice ud24 c36 (by decide) in_36d
end
theorem read3 : Tryd.prog.readableRec 3 = true ∧ 3 < Tryd.prog.types.size := ⟨by kernel_rfl, of_decide_eq_true (by kernel_rfl)⟩
theorem agg_sl {P : Program} {W : World} {t e : TypeId} {r : Reach} {b0 : Nat} {v : Value} (ht : P.underlying t = some (.slice e)) (h : Value.okWide P W r b0 t v) : aggV v = false := by
  obtain ⟨a, l, c, rfl⟩ := okWide_slice ht h
  rfl
/-- the zero transaction -/
def zTx : Value := .agg (Array.replicate 64 (.int .u8 0) ++ #[.int .u64 0, .int .u64 0, .int .u64 0] ++ Array.replicate 32 (.int .u8 0))
end Go.Proofs.YtonfljoibcnlgaaDoor
