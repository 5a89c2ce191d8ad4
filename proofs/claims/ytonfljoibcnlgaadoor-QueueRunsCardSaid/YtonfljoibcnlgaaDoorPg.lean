/-
  Where a statement's call begins: the table that the program's text lays, and the arguments, as data.
-/
import Derived.Test.YtonfljoibcnlgaaDoorCf
import Derived.Test.YtonfljoibcnlgaaDoorPc
import Derived.Test.YtonfljoibcnlgaaDoorTie
import Derived.Test.YtonfljoibcnlgaaDoorCards
import Derived.Stop.Joined
namespace Go.Proofs.YtonfljoibcnlgaaDoor
open Bd Go Go.ChangeShapes Go.WideShapes Go.ChangeAt Go.RowKit

theorem own_knob : ownKnob Tryd.prog.godebug = none := by kernel_rfl
theorem laid_out : laidOutB Tryd.prog = true := by kernel_rfl
theorem g_k : Tryd.prog.globalNamed "beadroll/sha.k" = some 0 := by kernel_rfl
theorem t_k : (Tryd.prog.globals[0]?).map (·.type) = some 223 := by kernel_rfl
theorem ud223 : ∃ e, Tryd.prog.underlying 223 = some (.array 64 e) ∧ Tryd.prog.underlying e = some (.int .u32) ∧ Tryd.prog.cellsOf e = 1 := ⟨208, by kernel_rfl, by kernel_rfl, by kernel_rfl⟩
theorem c223 : Tryd.prog.cellsOf 223 = 64 := by kernel_rfl

abbrev laidK : List (String × DataW Unit) := [("beadroll/sha.k", Rows.laid_beadroll_sha_k)]

/-- The door's own heap meets the condition. -/
theorem door_met (os : Os) (args : Array Value) : laidMetH Tryd.prog laidK ((World.doorLaid Tryd.prog 400 os).forCall (fun _ _ => 0) ⟨#[], args, []⟩).memory :=
  laidMetH_of_parts3 (fuel := 8) (laidMet_of_run' 8 (by kernel_rfl) (by kernel_rfl)) (by kernel_rfl) (by kernel_rfl)

theorem each_lit {W : World} : ∀ (l : List Int) (cs : List Value), cs = l.map (fun n => Value.int .u32 n) → RepEach (AllBlk W) W 1 (l.map eI_u32) cs
  | [], cs, h => by subst h; rfl
  | n :: l, cs, h => by
    subst h
    exact ⟨[.int .u32 n], l.map (fun n => Value.int .u32 n), rfl, rfl, by simp [eI_u32, Rep, leafV], each_lit l _ rfl⟩

/-- What the condition gives the walks. -/
theorem globs_of_laid {W : World} (h : laidMetH Tryd.prog laidK W) : Globs GS (AllBlk W) W := by
  rw [MakeChecks.laidMetH_plain _ _ _ (by kernel_rfl)] at h
  obtain ⟨ps, ⟨g, t, cs, fuel, p, q, hg, ht, hv, hd, _, _⟩, _, _⟩ := h
  obtain rfl := Option.some.inj (g_k.symm.trans hg)
  obtain rfl := Option.some.inj (t_k.symm.trans ht)
  obtain ⟨e, he, hu, hc⟩ := ud223
  obtain ⟨xs, m, rfl, hx, hlen, hn, hel⟩ := DataW.trod_array he hd
  rw [c223] at hlen
  rw [hc] at hel
  have hlit : (shaK.map fun n => (DataW.lit (.int .u32 n) : DataW Unit)) = xs.map (·.1) := by
    have h1 : Rows.laid_beadroll_sha_k = DataW.agg (shaK.map fun n => (DataW.lit (.int .u32 n) : DataW Unit)) := by kernel_rfl
    rw [h1] at hx
    simp only [Prod.mk.injEq, DataW.agg.injEq] at hx
    exact hx.1
  have hcs : cs.toList = shaK.map fun n => Value.int .u32 n := by
    apply List.ext_getElem?
    intro i
    by_cases hi : i < 64
    · have h1 := hel i hi
      have hxi : i < xs.length := by omega
      rw [List.getElem?_eq_getElem hxi] at h1
      obtain ⟨k, e1, e2, _⟩ := DataW.trod_int hu h1
      have hl := congrArg (·[i]?) hlit
      simp only [List.getElem?_map, List.getElem?_eq_getElem hxi, Option.map_some, e2] at hl
      have hki : shaK[i]? = some k := by
        cases hk : shaK[i]? with
        | none => rw [hk] at hl; cases hl
        | some k' => rw [hk] at hl; simp at hl; rw [hl]
      rw [List.getElem?_map, hki]
      have h2 := congrArg (·[0]?) e1
      simpa [List.getElem?_take, List.getElem?_drop] using h2
    · rw [List.getElem?_eq_none (by omega), List.getElem?_eq_none (by simp; omega)]
  have hb : blk W 0 = some cs.toList := by
    simp only [World.var?, hg, Option.bind_some] at hv
    unfold blk
    split at hv <;> simp_all
  intro g x hm
  simp only [GS, List.mem_singleton, Prod.mk.injEq] at hm
  obtain ⟨rfl, rfl⟩ := hm
  refine ⟨⟨_, hb⟩, _, hb, by rw [hlen]; decide, ?_⟩
  have : cs.toList.take (eA223 shaK).size = cs.toList := List.take_of_length_le (by rw [hlen]; decide)
  rw [this]
  simp only [eA223, Rep]
  exact ⟨by decide, each_lit _ _ hcs⟩

/-! ### arguments -/
theorem ud4 : Tryd.prog.underlying 4 = some .bool := by kernel_rfl
theorem ud5' : Tryd.prog.underlying 5 = some (.int .u8) := by kernel_rfl
theorem c5 : Tryd.prog.cellsOf 5 = 1 := by kernel_rfl
theorem ud3' : Tryd.prog.underlying 3 = some (.int .i64) := by kernel_rfl
theorem ud27 : Tryd.prog.underlying 27 = some (.int .u64) := by kernel_rfl
theorem ud23' : Tryd.prog.underlying 23 = some (.array 32 5) := by kernel_rfl
theorem c23 : Tryd.prog.cellsOf 23 = 32 := by kernel_rfl
theorem c27 : Tryd.prog.cellsOf 27 = 1 := by kernel_rfl
theorem c36 : Tryd.prog.cellsOf 36 = 99 := by kernel_rfl
theorem c24 : Tryd.prog.cellsOf 24 = 1 := by kernel_rfl
theorem c26 : Tryd.prog.cellsOf 26 = 33 := by kernel_rfl
theorem ud24 : Tryd.prog.underlying 24 = some (.slice 36) := by kernel_rfl
theorem ud26 : Tryd.prog.underlying 26 = some (.struct (Tryd.prog.fieldsOf 26)) := by kernel_rfl
theorem ud36 : Tryd.prog.underlying 36 = some (.struct (Tryd.prog.fieldsOf 36)) := by kernel_rfl
noncomputable abbrev fldAt (t i : Nat) : Option (TypeId × Nat) := ((Tryd.prog.fieldsOf t)[i]?).map fun f => (f.type, f.offset)
theorem f36_0 : fldAt 36 0 = some (23, 0) := by kernel_rfl
theorem f36_1 : fldAt 36 1 = some (23, 32) := by kernel_rfl
theorem f36_2 : fldAt 36 2 = some (27, 64) := by kernel_rfl
theorem f36_3 : fldAt 36 3 = some (27, 65) := by kernel_rfl
theorem f36_4 : fldAt 36 4 = some (27, 66) := by kernel_rfl
theorem f36_5 : fldAt 36 5 = some (23, 67) := by kernel_rfl
theorem f26_0 : fldAt 26 0 = some (23, 0) := by kernel_rfl
theorem f26_1 : fldAt 26 1 = some (24, 32) := by kernel_rfl
section
variable {H : Type} {enc : TypeId × Value → H} {W : World}

theorem in_23 : Reads enc Tryd.prog W 23 eA22 (fun l => l.length = 32) := fun fuel cs x h => by
  obtain ⟨l, h1, h2, _⟩ := in_array (sz := 1) ud23' c5 c23 (in_int ud5') fuel cs x h
  exact ⟨l, h1, h2⟩
theorem in_27 : Reads enc Tryd.prog W 27 eI_u64 (fun n => 0 ≤ n ∧ n < 18446744073709551616) := fun fuel cs x h => by
  obtain ⟨n, h1, h2, h3⟩ := in_int ud27 fuel cs x h
  have hi : IntKind.min .u64 = 0 := rfl
  have hj : IntKind.max .u64 = 18446744073709551615 := rfl
  exact ⟨n, h1, by omega, by omega⟩
theorem st_fld {t : TypeId} {fuel : Nat} {cs : List Value} {x : DataW H × List MemPlace} (ht : Tryd.prog.underlying t = some (.struct (Tryd.prog.fieldsOf t))) (h : Trod0 enc Tryd.prog W fuel t cs x)
    {α : Type} {f : α → D} {ok : α → Prop} (i : Nat) {ty : TypeId} {off n : Nat} (hf : fldAt t i = some (ty, off)) (hn : Tryd.prog.cellsOf ty = n) (hr : Reads enc Tryd.prog W ty f ok) : ∃ a, Rep (AllBlk W) W (f a) ((cs.drop off).take n) ∧ ok a := by
  cases hg : (Tryd.prog.fieldsOf t)[i]? with
  | none => simp [fldAt, hg] at hf
  | some fl =>
    simp only [fldAt, hg, Option.map_some, Option.some.injEq, Prod.mk.injEq] at hf
    obtain ⟨h1, h2⟩ := hf
    obtain ⟨a, h3, h4⟩ := (st_field ht h).2 i fl hg (by rw [h1]; exact hr)
    rw [h1, h2, hn] at h3
    exact ⟨a, h3, h4⟩

theorem in_36 : Reads enc Tryd.prog W 36 eGTx TxOk := by
  intro fuel cs x h
  have hl := (st_field ud36 h).1
  rw [c36] at hl
  obtain ⟨a0, r0, k0⟩ := st_fld ud36 h 0 f36_0 c23 in_23
  obtain ⟨a1, r1, k1⟩ := st_fld ud36 h 1 f36_1 c23 in_23
  obtain ⟨a2, r2, k2⟩ := st_fld ud36 h 2 f36_2 c27 in_27
  obtain ⟨a3, r3, k3⟩ := st_fld ud36 h 3 f36_3 c27 in_27
  obtain ⟨a4, r4, k4⟩ := st_fld ud36 h 4 f36_4 c27 in_27
  obtain ⟨a5, r5, k5⟩ := st_fld ud36 h 5 f36_5 c23 in_23
  refine ⟨⟨a0, a1, a2, a3, a4, a5⟩, ?_, ⟨k0, k1, k5, k2, k4⟩⟩
  simp only [eGTx, Rep]
  refine repAll_mk _ _ (by rw [hl]; rfl) fun i d hd => ?_
  match i, hd with
  | 0, hd => cases hd; exact r0
  | 1, hd => cases hd; exact r1
  | 2, hd => cases hd; exact r2
  | 3, hd => cases hd; exact r3
  | 4, hd => cases hd; exact r4
  | 5, hd => cases hd; exact r5
  | n + 6, hd => simp at hd

theorem in_24 : Reads enc Tryd.prog W 24 eL24 (fun l => ∀ x ∈ l, TxOk x) := in_slice ud24 c36 (by decide) in_36
end
end Go.Proofs.YtonfljoibcnlgaaDoor
