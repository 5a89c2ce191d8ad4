/-
  A statement's arguments that are transactions, as data.
-/
import Derived.Test.YtonfljoibcnlgaaDoorPk
import Derived.Test.YtonfljoibcnlgaaDoorM1
namespace Go.Proofs.YtonfljoibcnlgaaDoor
open Bd Go Go.ChangeShapes Go.WideShapes Go.ChangeAt Go.RowKit

/-! ### arguments -/
theorem ud5' : Tryd.prog.underlying 5 = some (.int .u8) := by kernel_rfl
theorem c5 : Tryd.prog.cellsOf 5 = 1 := by kernel_rfl
theorem ud3' : Tryd.prog.underlying 3 = some (.int .i64) := by kernel_rfl
theorem ud27 : Tryd.prog.underlying 27 = some (.int .u64) := by kernel_rfl
theorem ud23' : Tryd.prog.underlying 23 = some (.array 32 5) := by kernel_rfl
theorem c23 : Tryd.prog.cellsOf 23 = 32 := by kernel_rfl
theorem c27 : Tryd.prog.cellsOf 27 = 1 := by kernel_rfl
theorem c36 : Tryd.prog.cellsOf 36 = 99 := by kernel_rfl
theorem ud24 : Tryd.prog.underlying 24 = some (.slice 36) := by kernel_rfl
theorem ud36 : Tryd.prog.underlying 36 = some (.struct (Tryd.prog.fieldsOf 36)) := by kernel_rfl
noncomputable abbrev fldAt (t i : Nat) : Option (TypeId × Nat) := ((Tryd.prog.fieldsOf t)[i]?).map fun f => (f.type, f.offset)
theorem f36_0 : fldAt 36 0 = some (23, 0) := by kernel_rfl
theorem f36_1 : fldAt 36 1 = some (23, 32) := by kernel_rfl
theorem f36_2 : fldAt 36 2 = some (27, 64) := by kernel_rfl
theorem f36_3 : fldAt 36 3 = some (27, 65) := by kernel_rfl
theorem f36_4 : fldAt 36 4 = some (27, 66) := by kernel_rfl
theorem f36_5 : fldAt 36 5 = some (23, 67) := by kernel_rfl
section
variable {H : Type} {enc : TypeId × Value → H} {W : World}

theorem in_27 : Reads enc Tryd.prog W 27 eI_u64 (fun n => 0 ≤ n ∧ n < 18446744073709551616) := fun fuel cs x h => by
  obtain ⟨n, h1, h2, h3⟩ := in_int ud27 fuel cs x h
  have hi : IntKind.min .u64 = 0 := rfl
  have hj : IntKind.max .u64 = 18446744073709551615 := rfl
  exact ⟨n, h1, by omega, by omega⟩
theorem st_fld {t : TypeId} {fuel : Nat} {cs : List Value} {x : DataW H × List MemPlace} (ht : Tryd.prog.underlying t = some (.struct (Tryd.prog.fieldsOf t))) (h : Trod0 enc Tryd.prog W fuel t cs x)
    {α : Type} {f : α → D} {ok : α → Prop} (i : Nat) {ty : TypeId} {off n : Nat} (hf : fldAt t i = some (ty, off)) (hn : Tryd.prog.cellsOf ty = n) (hr : Reads enc Tryd.prog W ty f ok) : ∃ a, Rep (AllBlk W) W (f a) ((cs.drop off).take n) ∧ ok a := by
  cases hg : (Tryd.prog.fieldsOf t)[i]? with
  | none => simp [fldAt, hg] at hf
  | some fl =>
    simp only [fldAt, hg, Option.map_some, Option.some.injEq, Prod.mk.injEq] at hf
    obtain ⟨h1, h2⟩ := hf
    obtain ⟨a, h3, h4⟩ := (st_field ht h).2 i fl hg (by rw [h1]; exact hr)
    rw [h1, h2, hn] at h3
    exact ⟨a, h3, h4⟩

end
end Go.Proofs.YtonfljoibcnlgaaDoor
