import Derived.Test.YtonfljoibcnlgaaGreatDoorPg
import Derived.Test.YtonfljoibcnlgaaGreatDoorM2
namespace Go.Proofs.YtonfljoibcnlgaaGreatDoor
open Bd Go Go.ChangeShapes Go.WideShapes Go.ChangeAt Go.RowKit
theorem c72 : Tryz.prog.cellsOf 22 = 1 := by kernel_rfl
theorem c74 : Tryz.prog.cellsOf 24 = 1 := by kernel_rfl
theorem ud72 : Tryz.prog.underlying 22 = some (.slice 69) := by kernel_rfl
theorem ud74 : Tryz.prog.underlying 24 = some (.struct (Tryz.prog.fieldsOf 24)) := by kernel_rfl
theorem f74_0 : fldAt 24 0 = some (22, 0) := by kernel_rfl
section
variable {H : Type} {enc : TypeId × Value → H} {W : World}
theorem in_23d : Reads enc Tryz.prog W 47 eA46 Dig := fun fuel cs x h => by
  obtain ⟨l, h1, h2, h3⟩ := in_array (sz := 1) ud23' c5 c23 (in_int ud5') fuel cs x h
  refine ⟨l, h1, h2, fun n hn => ?_⟩
  have hi : IntKind.min .u8 = 0 := rfl
  have hj : IntKind.max .u8 = 255 := rfl
  have := h3 n hn
  omega
theorem in_36d : Reads enc Tryz.prog W 50 eGTx TxD := by
  intro fuel cs x h
  have hl := (st_field ud36 h).1
  rw [c36] at hl
  obtain ⟨a0, r0, k0⟩ := st_fld ud36 h 0 f36_0 c23 in_23d
  obtain ⟨a1, r1, k1⟩ := st_fld ud36 h 1 f36_1 c23 in_23d
  obtain ⟨a2, r2, k2⟩ := st_fld ud36 h 2 f36_2 c27 in_27
  obtain ⟨a3, r3, k3⟩ := st_fld ud36 h 3 f36_3 c27 in_27
  obtain ⟨a4, r4, k4⟩ := st_fld ud36 h 4 f36_4 c27 in_27
  obtain ⟨a5, r5, k5⟩ := st_fld ud36 h 5 f36_5 c23 in_23d
  refine ⟨⟨a0, a1, a2, a3, a4, a5⟩, ?_, ⟨⟨k0.1, k1.1, k5.1, k2, k4⟩, k0, k1, k3⟩⟩
  simp only [eGTx, Rep]
  refine repAll_mk _ _ (by rw [hl]; rfl) fun i d hd => ?_
  match i, hd with
  | 0, hd => cases hd; exact r0
  | 1, hd => cases hd; exact r1
  | 2, hd => cases hd; exact r2
  | 3, hd => cases hd; exact r3
  | 4, hd => cases hd; exact r4
  | 5, hd => cases hd; exact r5
  | n + 6, hd => simp at hd
theorem in_24d : Reads enc Tryz.prog W 28 eL28 (fun l => ∀ x ∈ l, TxD x) := in_slice ud24 c36 (by decide) in_36d
end
theorem in_26d {H : Type} {enc : TypeId × Value → H} {W : World} : Reads enc Tryz.prog W 69 eGLine LineD := by
  intro fuel cs x h
  have hl := (st_field ud26 h).1
  rw [c26] at hl
  obtain ⟨a0, r0, k0⟩ := st_fld ud26 h 0 f26_0 c23 in_23d
  obtain ⟨a1, r1, k1⟩ := st_fld ud26 h 1 f26_1 c24 in_24d
  refine ⟨⟨a0, a1⟩, ?_, ⟨k0, k1⟩⟩
  simp only [eGLine, Rep]
  refine repAll_mk _ _ (by rw [hl]; rfl) fun i d hd => ?_
  match i, hd with
  | 0, hd => cases hd; exact r0
  | 1, hd => cases hd; exact r1
  | n + 2, hd => simp at hd
theorem in_72d {H : Type} {enc : TypeId × Value → H} {W : World} : Reads enc Tryz.prog W 22 eL22 (fun l => ∀ x ∈ l, LineD x) := in_slice ud72 c26 (by decide) in_26d
theorem in_74d {H : Type} {enc : TypeId × Value → H} {W : World} : Reads enc Tryz.prog W 24 eGShard (fun s => ∀ x ∈ s.Lines, LineD x) := by
  intro fuel cs x h
  have hl := (st_field ud74 h).1
  rw [c74] at hl
  obtain ⟨a0, r0, k0⟩ := st_fld ud74 h 0 f74_0 c72 in_72d
  refine ⟨⟨a0⟩, ?_, k0⟩
  simp only [eGShard, Rep]
  refine repAll_mk _ _ (by rw [hl]; rfl) fun i d hd => ?_
  match i, hd with
  | 0, hd => cases hd; exact r0
  | n + 1, hd => simp at hd
theorem read3 : Tryz.prog.readableRec 3 = true ∧ 3 < Tryz.prog.types.size := ⟨by kernel_rfl, of_decide_eq_true (by kernel_rfl)⟩
theorem agg_sl {P : Program} {W : World} {t e : TypeId} {r : Reach} {b0 : Nat} {v : Value} (ht : P.underlying t = some (.slice e)) (h : Value.okWide P W r b0 t v) : aggV v = false := by
  obtain ⟨a, l, c, rfl⟩ := okWide_slice ht h
  rfl
def zTx : Value := .agg (Array.replicate 64 (.int .u8 0) ++ #[.int .u64 0, .int .u64 0, .int .u64 0] ++ Array.replicate 32 (.int .u8 0))
end Go.Proofs.YtonfljoibcnlgaaGreatDoor
