import Derived.Test.YtonfljoibcnlgaaGreatDoorPk
import Derived.Test.YtonfljoibcnlgaaGreatDoorM1
namespace Go.Proofs.YtonfljoibcnlgaaGreatDoor
open Bd Go Go.ChangeShapes Go.WideShapes Go.ChangeAt Go.RowKit
theorem ud5' : Tryz.prog.underlying 5 = some (.int .u8) := by kernel_rfl
theorem c5 : Tryz.prog.cellsOf 5 = 1 := by kernel_rfl
theorem ud3' : Tryz.prog.underlying 3 = some (.int .i64) := by kernel_rfl
theorem ud27 : Tryz.prog.underlying 48 = some (.int .u64) := by kernel_rfl
theorem ud23' : Tryz.prog.underlying 47 = some (.array 32 5) := by kernel_rfl
theorem c23 : Tryz.prog.cellsOf 47 = 32 := by kernel_rfl
theorem c27 : Tryz.prog.cellsOf 48 = 1 := by kernel_rfl
theorem c36 : Tryz.prog.cellsOf 50 = 99 := by kernel_rfl
theorem c24 : Tryz.prog.cellsOf 28 = 1 := by kernel_rfl
theorem c26 : Tryz.prog.cellsOf 69 = 33 := by kernel_rfl
theorem ud24 : Tryz.prog.underlying 28 = some (.slice 50) := by kernel_rfl
theorem ud26 : Tryz.prog.underlying 69 = some (.struct (Tryz.prog.fieldsOf 69)) := by kernel_rfl
theorem ud36 : Tryz.prog.underlying 50 = some (.struct (Tryz.prog.fieldsOf 50)) := by kernel_rfl
noncomputable abbrev fldAt (t i : Nat) : Option (TypeId × Nat) := ((Tryz.prog.fieldsOf t)[i]?).map fun f => (f.type, f.offset)
theorem f36_0 : fldAt 50 0 = some (47, 0) := by kernel_rfl
theorem f36_1 : fldAt 50 1 = some (47, 32) := by kernel_rfl
theorem f36_2 : fldAt 50 2 = some (48, 64) := by kernel_rfl
theorem f36_3 : fldAt 50 3 = some (48, 65) := by kernel_rfl
theorem f36_4 : fldAt 50 4 = some (48, 66) := by kernel_rfl
theorem f36_5 : fldAt 50 5 = some (47, 67) := by kernel_rfl
theorem f26_0 : fldAt 69 0 = some (47, 0) := by kernel_rfl
theorem f26_1 : fldAt 69 1 = some (28, 32) := by kernel_rfl
section
variable {H : Type} {enc : TypeId × Value → H} {W : World}
theorem in_27 : Reads enc Tryz.prog W 48 eI_u64 (fun n => 0 ≤ n ∧ n < 18446744073709551616) := fun fuel cs x h => by
  obtain ⟨n, h1, h2, h3⟩ := in_int ud27 fuel cs x h
  have hi : IntKind.min .u64 = 0 := rfl
  have hj : IntKind.max .u64 = 18446744073709551615 := rfl
  exact ⟨n, h1, by omega, by omega⟩
theorem st_fld {t : TypeId} {fuel : Nat} {cs : List Value} {x : DataW H × List MemPlace} (ht : Tryz.prog.underlying t = some (.struct (Tryz.prog.fieldsOf t))) (h : Trod0 enc Tryz.prog W fuel t cs x)
    {α : Type} {f : α → D} {ok : α → Prop} (i : Nat) {ty : TypeId} {off n : Nat} (hf : fldAt t i = some (ty, off)) (hn : Tryz.prog.cellsOf ty = n) (hr : Reads enc Tryz.prog W ty f ok) : ∃ a, Rep (AllBlk W) W (f a) ((cs.drop off).take n) ∧ ok a := by
  cases hg : (Tryz.prog.fieldsOf t)[i]? with
  | none => simp [fldAt, hg] at hf
  | some fl =>
    simp only [fldAt, hg, Option.map_some, Option.some.injEq, Prod.mk.injEq] at hf
    obtain ⟨h1, h2⟩ := hf
    obtain ⟨a, h3, h4⟩ := (st_field ht h).2 i fl hg (by rw [h1]; exact hr)
    rw [h1, h2, hn] at h3
    exact ⟨a, h3, h4⟩
end
theorem read36 : Tryz.prog.readableRec 50 = true ∧ 50 < Tryz.prog.types.size := ⟨by kernel_rfl, of_decide_eq_true (by kernel_rfl)⟩
end Go.Proofs.YtonfljoibcnlgaaGreatDoor
