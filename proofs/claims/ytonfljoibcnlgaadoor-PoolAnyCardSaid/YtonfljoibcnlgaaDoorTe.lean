/-
  A statement's arguments that are trees, as data.
-/
import Derived.Test.YtonfljoibcnlgaaDoorQf
import Derived.Test.YtonfljoibcnlgaaDoorM3
namespace Go.Proofs.YtonfljoibcnlgaaDoor
open Bd Go Go.ChangeShapes Go.WideShapes Go.ChangeAt Go.RowKit

theorem ud139' : Tryd.prog.underlying 139 = some (.slice 5) := by kernel_rfl
theorem c139 : Tryd.prog.cellsOf 139 = 1 := by kernel_rfl
theorem c3 : Tryd.prog.cellsOf 3 = 1 := by kernel_rfl
theorem c4 : Tryd.prog.cellsOf 4 = 1 := by kernel_rfl
theorem c88 : Tryd.prog.cellsOf 88 = 1 := by kernel_rfl
theorem c90 : Tryd.prog.cellsOf 90 = 2 := by kernel_rfl
theorem c141 : Tryd.prog.cellsOf 141 = 36 := by kernel_rfl
theorem ud88' : Tryd.prog.underlying 88 = some (.slice 141) := by kernel_rfl
theorem ud90 : Tryd.prog.underlying 90 = some (.struct (Tryd.prog.fieldsOf 90)) := by kernel_rfl
theorem ud141 : Tryd.prog.underlying 141 = some (.struct (Tryd.prog.fieldsOf 141)) := by kernel_rfl
theorem f141_0 : fldAt 141 0 = some (4, 0) := by kernel_rfl
theorem f141_1 : fldAt 141 1 = some (23, 1) := by kernel_rfl
theorem f141_2 : fldAt 141 2 = some (139, 33) := by kernel_rfl
theorem f141_3 : fldAt 141 3 = some (3, 34) := by kernel_rfl
theorem f141_4 : fldAt 141 4 = some (3, 35) := by kernel_rfl
theorem f90_0 : fldAt 90 0 = some (88, 0) := by kernel_rfl
theorem f90_1 : fldAt 90 1 = some (3, 1) := by kernel_rfl
section
variable {H : Type} {enc : TypeId × Value → H} {W : World}
theorem in_139 : Reads enc Tryd.prog W 139 eL139 (fun _ => True) := fun fuel cs x h => by
  obtain ⟨l, h1, _⟩ := in_slice ud139' c5 (by decide) (in_int ud5') fuel cs x h
  exact ⟨l, h1, trivial⟩
theorem in_3 : Reads enc Tryd.prog W 3 eI_i64 (fun _ => True) := fun fuel cs x h => by
  obtain ⟨l, h1, _⟩ := in_int ud3' fuel cs x h
  exact ⟨l, h1, trivial⟩
theorem in_141 : Reads enc Tryd.prog W 141 eGNode NodeD := by
  intro fuel cs x h
  have hl := (st_field ud141 h).1
  rw [c141] at hl
  obtain ⟨a0, r0, _⟩ := st_fld ud141 h 0 f141_0 c4 (in_bool ud4)
  obtain ⟨a1, r1, k1⟩ := st_fld ud141 h 1 f141_1 c23 in_23d
  obtain ⟨a2, r2, _⟩ := st_fld ud141 h 2 f141_2 c139 in_139
  obtain ⟨a3, r3, _⟩ := st_fld ud141 h 3 f141_3 c3 in_3
  obtain ⟨a4, r4, _⟩ := st_fld ud141 h 4 f141_4 c3 in_3
  refine ⟨⟨a0, a1, a2, a3, a4⟩, ?_, ⟨k1⟩⟩
  simp only [eGNode, Rep]
  refine repAll_mk _ _ (by rw [hl]; rfl) fun i d hd => ?_
  match i, hd with
  | 0, hd => cases hd; exact r0
  | 1, hd => cases hd; exact r1
  | 2, hd => cases hd; exact r2
  | 3, hd => cases hd; exact r3
  | 4, hd => cases hd; exact r4
  | n + 5, hd => simp at hd
theorem in_88 : Reads enc Tryd.prog W 88 eL88 (fun l => ∀ x ∈ l, NodeD x) := in_slice ud88' c141 (by decide) in_141
end
theorem in_90 {H : Type} {enc : TypeId × Value → H} {W : World} : Reads enc Tryd.prog W 90 eGTree (fun t => ∀ x ∈ t.Nodes, NodeD x) := by
  intro fuel cs x h
  have hl := (st_field ud90 h).1
  rw [c90] at hl
  obtain ⟨a0, r0, k0⟩ := st_fld ud90 h 0 f90_0 c88 in_88
  obtain ⟨a1, r1, _⟩ := st_fld ud90 h 1 f90_1 c3 in_3
  refine ⟨⟨a0, a1⟩, ?_, k0⟩
  simp only [eGTree, Rep]
  refine repAll_mk _ _ (by rw [hl]; rfl) fun i d hd => ?_
  match i, hd with
  | 0, hd => cases hd; exact r0
  | 1, hd => cases hd; exact r1
  | n + 2, hd => simp at hd
theorem read90 : Tryd.prog.readableRec 90 = true ∧ 90 < Tryd.prog.types.size := ⟨by kernel_rfl, of_decide_eq_true (by kernel_rfl)⟩
theorem read24 : Tryd.prog.readableRec 24 = true ∧ 24 < Tryd.prog.types.size := ⟨by kernel_rfl, of_decide_eq_true (by kernel_rfl)⟩
/-- the zero tree -/
def zTree : Value := .agg #[.slice none 0 0, .int .i64 0]
end Go.Proofs.YtonfljoibcnlgaaDoor
