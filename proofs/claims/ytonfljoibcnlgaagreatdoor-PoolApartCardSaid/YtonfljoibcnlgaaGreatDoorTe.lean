import Derived.Test.YtonfljoibcnlgaaGreatDoorQf
import Derived.Test.YtonfljoibcnlgaaGreatDoorM3
namespace Go.Proofs.YtonfljoibcnlgaaGreatDoor
open Bd Go Go.ChangeShapes Go.WideShapes Go.ChangeAt Go.RowKit
theorem ud139' : Tryz.prog.underlying 70 = some (.slice 5) := by kernel_rfl
theorem c139 : Tryz.prog.cellsOf 70 = 1 := by kernel_rfl
theorem c3 : Tryz.prog.cellsOf 3 = 1 := by kernel_rfl
theorem c4 : Tryz.prog.cellsOf 4 = 1 := by kernel_rfl
theorem c88 : Tryz.prog.cellsOf 25 = 1 := by kernel_rfl
theorem c90 : Tryz.prog.cellsOf 27 = 2 := by kernel_rfl
theorem c141 : Tryz.prog.cellsOf 72 = 36 := by kernel_rfl
theorem ud88' : Tryz.prog.underlying 25 = some (.slice 72) := by kernel_rfl
theorem ud90 : Tryz.prog.underlying 27 = some (.struct (Tryz.prog.fieldsOf 27)) := by kernel_rfl
theorem ud141 : Tryz.prog.underlying 72 = some (.struct (Tryz.prog.fieldsOf 72)) := by kernel_rfl
theorem f141_0 : fldAt 72 0 = some (4, 0) := by kernel_rfl
theorem f141_1 : fldAt 72 1 = some (47, 1) := by kernel_rfl
theorem f141_2 : fldAt 72 2 = some (70, 33) := by kernel_rfl
theorem f141_3 : fldAt 72 3 = some (3, 34) := by kernel_rfl
theorem f141_4 : fldAt 72 4 = some (3, 35) := by kernel_rfl
theorem f90_0 : fldAt 27 0 = some (25, 0) := by kernel_rfl
theorem f90_1 : fldAt 27 1 = some (3, 1) := by kernel_rfl
section
variable {H : Type} {enc : TypeId × Value → H} {W : World}
theorem in_139 : Reads enc Tryz.prog W 70 eL70 (fun _ => True) := fun fuel cs x h => by
  obtain ⟨l, h1, _⟩ := in_slice ud139' c5 (by decide) (in_int ud5') fuel cs x h
  exact ⟨l, h1, trivial⟩
theorem in_3 : Reads enc Tryz.prog W 3 eI_i64 (fun _ => True) := fun fuel cs x h => by
  obtain ⟨l, h1, _⟩ := in_int ud3' fuel cs x h
  exact ⟨l, h1, trivial⟩
theorem in_141 : Reads enc Tryz.prog W 72 eGNode NodeD := by
  intro fuel cs x h
  have hl := (st_field ud141 h).1
  rw [c141] at hl
  obtain ⟨a0, r0, _⟩ := st_fld ud141 h 0 f141_0 c4 (in_bool ud4)
  obtain ⟨a1, r1, k1⟩ := st_fld ud141 h 1 f141_1 c23 in_23d
  obtain ⟨a2, r2, _⟩ := st_fld ud141 h 2 f141_2 c139 in_139
  obtain ⟨a3, r3, _⟩ := st_fld ud141 h 3 f141_3 c3 in_3
  obtain ⟨a4, r4, _⟩ := st_fld ud141 h 4 f141_4 c3 in_3
  refine ⟨⟨a0, a1, a2, a3, a4⟩, ?_, ⟨k1⟩⟩
  simp only [eGNode, Rep]
  refine repAll_mk _ _ (by rw [hl]; rfl) fun i d hd => ?_
  match i, hd with
  | 0, hd => cases hd; exact r0
  | 1, hd => cases hd; exact r1
  | 2, hd => cases hd; exact r2
  | 3, hd => cases hd; exact r3
  | 4, hd => cases hd; exact r4
  | n + 5, hd => simp at hd
theorem in_88 : Reads enc Tryz.prog W 25 eL25 (fun l => ∀ x ∈ l, NodeD x) := in_slice ud88' c141 (by decide) in_141
end
theorem in_90 {H : Type} {enc : TypeId × Value → H} {W : World} : Reads enc Tryz.prog W 27 eGTree (fun t => ∀ x ∈ t.Nodes, NodeD x) := by
  intro fuel cs x h
  have hl := (st_field ud90 h).1
  rw [c90] at hl
  obtain ⟨a0, r0, k0⟩ := st_fld ud90 h 0 f90_0 c88 in_88
  obtain ⟨a1, r1, _⟩ := st_fld ud90 h 1 f90_1 c3 in_3
  refine ⟨⟨a0, a1⟩, ?_, k0⟩
  simp only [eGTree, Rep]
  refine repAll_mk _ _ (by rw [hl]; rfl) fun i d hd => ?_
  match i, hd with
  | 0, hd => cases hd; exact r0
  | 1, hd => cases hd; exact r1
  | n + 2, hd => simp at hd
theorem read90 : Tryz.prog.readableRec 27 = true ∧ 27 < Tryz.prog.types.size := ⟨by kernel_rfl, of_decide_eq_true (by kernel_rfl)⟩
theorem read24 : Tryz.prog.readableRec 28 = true ∧ 28 < Tryz.prog.types.size := ⟨by kernel_rfl, of_decide_eq_true (by kernel_rfl)⟩
def zTree : Value := .agg #[.slice none 0 0, .int .i64 0]
end Go.Proofs.YtonfljoibcnlgaaGreatDoor
