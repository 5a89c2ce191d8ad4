/-
  A statement's arguments that are transactions, as data.
-/
import Derived.Test.YtonfljoibcnlgaaDoorPk
import Derived.Test.YtonfljoibcnlgaaDoorM1
namespace Go.Proofs.YtonfljoibcnlgaaDoor
open Bd Go Go.ChangeShapes Go.WideShapes Go.ChangeAt Go.RowKit

/-! ### arguments -/
theorem ud5' : Tryd.prog.underlying 5 = some (.int .u8) := by kernel_rfl
theorem c5 : Tryd.prog.cellsOf 5 = 1 := by kernel_rfl
theorem ud3' : Tryd.prog.underlying 3 = some (.int .i64) := by kernel_rfl
theorem ud27 : Tryd.prog.underlying 27 = some (.int .u64) := by kernel_rfl
theorem ud23' : Tryd.prog.underlying 23 = some (.array 32 5) := by kernel_rfl
theorem c23 : Tryd.prog.cellsOf 23 = 32 := by kernel_rfl
theorem c27 : Tryd.prog.cellsOf 27 = 1 := by kernel_rfl
theorem c36 : Tryd.prog.cellsOf 36 = 99 := by kernel_rfl
theorem c24 : Tryd.prog.cellsOf 24 = 1 := by kernel_rfl
theorem c26 : Tryd.prog.cellsOf 26 = 33 := by kernel_rfl
theorem ud24 : Tryd.prog.underlying 24 = some (.slice 36) := by kernel_rfl
theorem ud26 : Tryd.prog.underlying 26 = some (.struct (Tryd.prog.fieldsOf 26)) := by kernel_rfl
theorem ud36 : Tryd.prog.underlying 36 = some (.struct (Tryd.prog.fieldsOf 36)) := by kernel_rfl
noncomputable abbrev fldAt (t i : Nat) : Option (TypeId × Nat) := ((Tryd.prog.fieldsOf t)[i]?).map fun f => (f.type, f.offset)
theorem f36_0 : fldAt 36 0 = some (23, 0) := by kernel_rfl
theorem f36_1 : fldAt 36 1 = some (23, 32) := by kernel_rfl
theorem f36_2 : fldAt 36 2 = some (27, 64) := by kernel_rfl
theorem f36_3 : fldAt 36 3 = some (27, 65) := by kernel_rfl
theorem f36_4 : fldAt 36 4 = some (27, 66) := by kernel_rfl
theorem f36_5 : fldAt 36 5 = some (23, 67) := by kernel_rfl
theorem f26_0 : fldAt 26 0 = some (23, 0) := by kernel_rfl
theorem f26_1 : fldAt 26 1 = some (24, 32) := by kernel_rfl
section
variable {H : Type} {enc : TypeId × Value → H} {W : World}

theorem in_23 : Reads enc Tryd.prog W 23 eA22 (fun l => l.length = 32) := fun fuel cs x h => by
  obtain ⟨l, h1, h2, _⟩ := in_array (sz := 1) ud23' c5 c23 (in_int ud5') fuel cs x h
  exact ⟨l, h1, h2⟩
theorem in_27 : Reads enc Tryd.prog W 27 eI_u64 (fun n => 0 ≤ n ∧ n < 18446744073709551616) := fun fuel cs x h => by
  obtain ⟨n, h1, h2, h3⟩ := in_int ud27 fuel cs x h
  have hi : IntKind.min .u64 = 0 := rfl
  have hj : IntKind.max .u64 = 18446744073709551615 := rfl
  exact ⟨n, h1, by omega, by omega⟩
theorem st_fld {t : TypeId} {fuel : Nat} {cs : List Value} {x : DataW H × List MemPlace} (ht : Tryd.prog.underlying t = some (.struct (Tryd.prog.fieldsOf t))) (h : Trod0 enc Tryd.prog W fuel t cs x)
    {α : Type} {f : α → D} {ok : α → Prop} (i : Nat) {ty : TypeId} {off n : Nat} (hf : fldAt t i = some (ty, off)) (hn : Tryd.prog.cellsOf ty = n) (hr : Reads enc Tryd.prog W ty f ok) : ∃ a, Rep (AllBlk W) W (f a) ((cs.drop off).take n) ∧ ok a := by
  cases hg : (Tryd.prog.fieldsOf t)[i]? with
  | none => simp [fldAt, hg] at hf
  | some fl =>
    simp only [fldAt, hg, Option.map_some, Option.some.injEq, Prod.mk.injEq] at hf
    obtain ⟨h1, h2⟩ := hf
    obtain ⟨a, h3, h4⟩ := (st_field ht h).2 i fl hg (by rw [h1]; exact hr)
    rw [h1, h2, hn] at h3
    exact ⟨a, h3, h4⟩

theorem in_36 : Reads enc Tryd.prog W 36 eGTx TxOk := by
  intro fuel cs x h
  have hl := (st_field ud36 h).1
  rw [c36] at hl
  obtain ⟨a0, r0, k0⟩ := st_fld ud36 h 0 f36_0 c23 in_23
  obtain ⟨a1, r1, k1⟩ := st_fld ud36 h 1 f36_1 c23 in_23
  obtain ⟨a2, r2, k2⟩ := st_fld ud36 h 2 f36_2 c27 in_27
  obtain ⟨a3, r3, k3⟩ := st_fld ud36 h 3 f36_3 c27 in_27
  obtain ⟨a4, r4, k4⟩ := st_fld ud36 h 4 f36_4 c27 in_27
  obtain ⟨a5, r5, k5⟩ := st_fld ud36 h 5 f36_5 c23 in_23
  refine ⟨⟨a0, a1, a2, a3, a4, a5⟩, ?_, ⟨k0, k1, k5, k2, k4⟩⟩
  simp only [eGTx, Rep]
  refine repAll_mk _ _ (by rw [hl]; rfl) fun i d hd => ?_
  match i, hd with
  | 0, hd => cases hd; exact r0
  | 1, hd => cases hd; exact r1
  | 2, hd => cases hd; exact r2
  | 3, hd => cases hd; exact r3
  | 4, hd => cases hd; exact r4
  | 5, hd => cases hd; exact r5
  | n + 6, hd => simp at hd

theorem in_24 : Reads enc Tryd.prog W 24 eL24 (fun l => ∀ x ∈ l, TxOk x) := in_slice ud24 c36 (by decide) in_36
end
theorem in_26 {H : Type} {enc : TypeId × Value → H} {W : World} : Reads enc Tryd.prog W 26 eGLine LineOk := by
  intro fuel cs x h
  have hl := (st_field ud26 h).1
  rw [c26] at hl
  obtain ⟨a0, r0, k0⟩ := st_fld ud26 h 0 f26_0 c23 in_23
  obtain ⟨a1, r1, k1⟩ := st_fld ud26 h 1 f26_1 c24 in_24
  refine ⟨⟨a0, a1⟩, ?_, ⟨k0, k1⟩⟩
  simp only [eGLine, Rep]
  refine repAll_mk _ _ (by rw [hl]; rfl) fun i d hd => ?_
  match i, hd with
  | 0, hd => cases hd; exact r0
  | 1, hd => cases hd; exact r1
  | n + 2, hd => simp at hd

theorem read36 : Tryd.prog.readableRec 36 = true ∧ 36 < Tryd.prog.types.size := ⟨by kernel_rfl, of_decide_eq_true (by kernel_rfl)⟩
theorem read26 : Tryd.prog.readableRec 26 = true ∧ 26 < Tryd.prog.types.size := ⟨by kernel_rfl, of_decide_eq_true (by kernel_rfl)⟩
theorem read27 : Tryd.prog.readableRec 27 = true ∧ 27 < Tryd.prog.types.size := ⟨by kernel_rfl, of_decide_eq_true (by kernel_rfl)⟩

end Go.Proofs.YtonfljoibcnlgaaDoor
