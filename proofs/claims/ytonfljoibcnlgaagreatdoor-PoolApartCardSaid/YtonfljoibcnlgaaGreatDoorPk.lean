import Derived.Test.YtonfljoibcnlgaaGreatDoorCf
import Derived.Test.YtonfljoibcnlgaaGreatDoorXz
import Derived.Test.YtonfljoibcnlgaaGreatDoorTie
import Derived.Test.YtonfljoibcnlgaaGreatDoorCards
import Derived.Stop.Joined
namespace Go.Proofs.YtonfljoibcnlgaaGreatDoor
open Bd Go Go.ChangeShapes Go.WideShapes Go.ChangeAt Go.RowKit
theorem own_knob : ownKnob Tryz.prog.godebug = none := by kernel_rfl
theorem laid_out : laidOutB Tryz.prog = true := by kernel_rfl
theorem g_k : Tryz.prog.globalNamed "beadroll/sha.k" = some 0 := by kernel_rfl
theorem t_k : (Tryz.prog.globals[0]?).map (·.type) = some 235 := by kernel_rfl
theorem ud223 : ∃ e, Tryz.prog.underlying 235 = some (.array 64 e) ∧ Tryz.prog.underlying e = some (.int .u32) ∧ Tryz.prog.cellsOf e = 1 := ⟨218, by kernel_rfl, by kernel_rfl, by kernel_rfl⟩
theorem c223 : Tryz.prog.cellsOf 235 = 64 := by kernel_rfl
abbrev laidK : List (String × DataW Unit) := [("beadroll/sha.k", Rows.laid_beadroll_sha_k)]
theorem door_met (os : Os) (args : Array Value) : laidMetH Tryz.prog laidK ((World.doorLaid Tryz.prog 400 os).forCall (fun _ _ => 0) ⟨#[], args, []⟩).memory :=
  laidMetH_of_parts3 (fuel := 8) (laidMet_of_run' 8 (by kernel_rfl) (by kernel_rfl)) (by kernel_rfl) (by kernel_rfl)
theorem each_lit {W : World} : ∀ (l : List Int) (cs : List Value), cs = l.map (fun n => Value.int .u32 n) → RepEach (AllBlk W) W 1 (l.map eI_u32) cs
  | [], cs, h => by subst h; rfl
  | n :: l, cs, h => by
    subst h
    exact ⟨[.int .u32 n], l.map (fun n => Value.int .u32 n), rfl, rfl, by simp [eI_u32, Rep, leafV], each_lit l _ rfl⟩
theorem globs_of_laid {W : World} (h : laidMetH Tryz.prog laidK W) : Globs GS (AllBlk W) W := by
  rw [MakeChecks.laidMetH_plain _ _ _ (by kernel_rfl)] at h
  obtain ⟨ps, ⟨g, t, cs, fuel, p, q, hg, ht, hv, hd, _, _⟩, _, _⟩ := h
  obtain rfl := Option.some.inj (g_k.symm.trans hg)
  obtain rfl := Option.some.inj (t_k.symm.trans ht)
  obtain ⟨e, he, hu, hc⟩ := ud223
  obtain ⟨xs, m, rfl, hx, hlen, hn, hel⟩ := DataW.trod_array he hd
  rw [c223] at hlen
  rw [hc] at hel
  have hlit : (shaK.map fun n => (DataW.lit (.int .u32 n) : DataW Unit)) = xs.map (·.1) := by
    have h1 : Rows.laid_beadroll_sha_k = DataW.agg (shaK.map fun n => (DataW.lit (.int .u32 n) : DataW Unit)) := by kernel_rfl
    rw [h1] at hx
    simp only [Prod.mk.injEq, DataW.agg.injEq] at hx
    exact hx.1
  have hcs : cs.toList = shaK.map fun n => Value.int .u32 n := by
    apply List.ext_getElem?
    intro i
    by_cases hi : i < 64
    · have h1 := hel i hi
      have hxi : i < xs.length := by omega
      rw [List.getElem?_eq_getElem hxi] at h1
      obtain ⟨k, e1, e2, _⟩ := DataW.trod_int hu h1
      have hl := congrArg (·[i]?) hlit
      simp only [List.getElem?_map, List.getElem?_eq_getElem hxi, Option.map_some, e2] at hl
      have hki : shaK[i]? = some k := by
        cases hk : shaK[i]? with
        | none => rw [hk] at hl; cases hl
        | some k' => rw [hk] at hl; simp at hl; rw [hl]
      rw [List.getElem?_map, hki]
      have h2 := congrArg (·[0]?) e1
      simpa [List.getElem?_take, List.getElem?_drop] using h2
    · rw [List.getElem?_eq_none (by omega), List.getElem?_eq_none (by simp; omega)]
  have hb : blk W 0 = some cs.toList := by
    simp only [World.var?, hg, Option.bind_some] at hv
    unfold blk
    split at hv <;> simp_all
  intro g x hm
  simp only [GS, List.mem_singleton, Prod.mk.injEq] at hm
  obtain ⟨rfl, rfl⟩ := hm
  refine ⟨⟨_, hb⟩, _, hb, by rw [hlen]; decide, ?_⟩
  have : cs.toList.take (eA235 shaK).size = cs.toList := List.take_of_length_le (by rw [hlen]; decide)
  rw [this]
  simp only [eA235, Rep]
  exact ⟨by decide, each_lit _ _ hcs⟩
theorem ud4 : Tryz.prog.underlying 4 = some .bool := by kernel_rfl
end Go.Proofs.YtonfljoibcnlgaaGreatDoor
