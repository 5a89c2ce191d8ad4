import Derived.Test.YtonfljoibcnlgaaGreatDoorCd
import Derived.Test.YtonfljoibcnlgaaGreatDoorBp
import Derived.LaidMore
import Derived.FnData
import Derived.MakeChecks
namespace Bd
open Go Go.ChangeShapes Go.RowKit
theorem repAll_mk {F : Nat → Prop} {w : World} : ∀ (ds : List D) (cs : List Value), cs.length = sizes ds → (∀ i d, ds[i]? = some d → Rep F w d ((cs.drop (sizes (ds.take i))).take d.size)) → RepAll F w ds cs
 | [], cs, hl, _ => by simp only [RepAll]; exact List.length_eq_zero_iff.1 (by simpa [sizes] using hl)
 | d :: ds, cs, hl, h => by
  simp only [sizes] at hl
  simp only [RepAll]
  refine ⟨cs.take d.size, cs.drop d.size, (List.take_append_drop _ _).symm, by simpa [sizes] using h 0 d rfl, repAll_mk ds (cs.drop d.size) (by rw [List.length_drop]; omega) fun i e he => ?_⟩
  have := h (i + 1) e (by simpa using he)
  rw [List.drop_drop]
  simpa [sizes] using this
section
variable {H : Type} {enc : TypeId × Value → H} {P : Program} {W : World}
theorem cells_list {base : Nat} {a : Addr} {n : Nat} {cs : List Value} (h : W.cells? base a n = some cs) : cs.length = n ∧ ∀ i, i < n → W.cell? (a.add i) = cs[i]? := by
 unfold World.cells? at h
 split at h
 ·refine ⟨by simpa using mapM_some_length h, fun i hi => ?_⟩
  exact mapM_some_get h i i (by simp [hi])
 ·cases h
theorem in_slice {α : Type} {f : α → D} {ok : α → Prop} {t e : TypeId} {sz : Nat} (ht : P.underlying t = some (.slice e)) (hc : P.cellsOf e = sz) (hpos : 0 < sz) (hel : Reads enc P W e f ok) :
  Reads enc P W t (fun l : List α => .sl sz (l.map f)) (fun l => ∀ a ∈ l, ok a) := by
 intro fuel cs x h
 rcases DataW.trod_slice ht h with ⟨rfl, _⟩ | ⟨a, len, cap, elems, rest, n, _, rfl, _, _, hcap, _, hlen, hi, _⟩
 ·exact ⟨[], by simp only [List.map_nil, Rep]; exact ⟨none, 0, rfl, Nat.le_refl _, .inl trivial⟩, by simp⟩
 ·subst hc
  by_cases h0 : len = 0
  ·subst h0
   exact ⟨[], by simp only [List.map_nil, Rep]; exact ⟨some a, cap, rfl, by simp, .inl trivial⟩, by simp⟩
  ·have get : ∀ i, i < len → ∃ ci y, W.cells? 0 (a.add (i * P.cellsOf e)) (P.cellsOf e) = some ci ∧ DataW.trod enc P W 0 (fun _ => true) true n e ci = some y := fun i hlt => by
    have := hi i hlt
    rw [List.getElem?_eq_getElem (by omega)] at this
    obtain ⟨ci, h1, h2⟩ := Option.bind_eq_some_iff.1 this
    exact ⟨ci, _, h1, h2⟩
   obtain ⟨c0, y0, h1, _⟩ := get 0 (by omega)
   have hc0 := (cells_list h1).2 0 hpos
   have hl0 := (cells_list h1).1
   rw [Nat.zero_mul, show (a.add 0).add 0 = a from by simp [Addr.add]] at hc0
   rw [List.getElem?_eq_getElem (by omega)] at hc0
   have hblk : ∃ c, blk W a.block = some c ∧ a.spot = none := by
    unfold World.cell? at hc0
    split at hc0
    ·rename_i c t' fz hb
     refine ⟨c.toList, by simp [blk, hb], ?_⟩
     split at hc0
     ·cases hc0
     ·rename_i hs; simpa using hs
    ·cases hc0
   obtain ⟨c, hb, hs⟩ := hblk
   have ha : a = ⟨a.block, a.off, none⟩ := by rw [← hs]
   have cell : ∀ i j, i < len → j < P.cellsOf e → ∀ ci, W.cells? 0 (a.add (i * P.cellsOf e)) (P.cellsOf e) = some ci → c[a.off + (i * P.cellsOf e + j)]? = ci[j]? := fun i j hi' hj ci hci => by
    have := (cells_list hci).2 j hj
    rw [ha, addr_add, addr_add, blk_cell hb, Nat.add_assoc] at this
    exact this
   have hlenc : a.off + len * P.cellsOf e ≤ c.length := by
    obtain ⟨ci, yi, h1, _⟩ := get (len - 1) (by omega)
    have := cell (len - 1) (P.cellsOf e - 1) (by omega) (by omega) ci h1
    have hj : P.cellsOf e - 1 < ci.length := by rw [(cells_list h1).1]; omega
    rw [List.getElem?_eq_getElem hj] at this
    have hlt := (List.getElem?_eq_some_iff.1 this).1
    have : (len - 1) * P.cellsOf e + P.cellsOf e = len * P.cellsOf e := by
     rw [← Nat.succ_mul]; congr 1; omega
    omega
   have hsub : ((c.drop a.off).take (len * P.cellsOf e)).length = len * P.cellsOf e := by rw [List.length_take, List.length_drop]; omega
   obtain ⟨l, q1, q2, q3⟩ := repEach_mk (W := W) (f := f) (ok := ok) (sz := P.cellsOf e) len ((c.drop a.off).take (len * P.cellsOf e)) hsub fun i hlt => by
    obtain ⟨ci, yi, h1, h2⟩ := get i hlt
    have hci := (cells_list h1).1
    have hle : i * P.cellsOf e + P.cellsOf e ≤ len * P.cellsOf e := by rw [← Nat.succ_mul]; exact Nat.mul_le_mul_right _ hlt
    have : ((((c.drop a.off).take (len * P.cellsOf e)).drop (i * P.cellsOf e)).take (P.cellsOf e)) = ci := by
     apply List.ext_getElem?
     intro j
     by_cases hj : j < P.cellsOf e
     ·rw [List.getElem?_take, if_pos hj, List.getElem?_drop, List.getElem?_take, if_pos (by omega), List.getElem?_drop]
      exact cell i j hlt hj ci h1
     ·rw [List.getElem?_eq_none (by rw [List.length_take]; omega), List.getElem?_eq_none (by omega)]
    rw [this]
    exact hel _ _ _ h2
   refine ⟨l, ?_, q3⟩
   simp only [Rep]
   refine ⟨some a, cap, by rw [List.length_map, q2], by rw [List.length_map, q2]; exact hcap, .inr ⟨a.block, a.off, c, by rw [← ha], ⟨c, hb⟩, hb, by rw [List.length_map, q2]; exact hlenc, by rw [List.length_map, q2]; exact q1⟩⟩
theorem st_field {t : TypeId} {fs : Array Field} {fuel : Nat} {cs : List Value} {x : DataW H × List MemPlace} (ht : P.underlying t = some (.struct fs)) (h : Trod0 enc P W fuel t cs x) :
  cs.length = P.cellsOf t ∧ ∀ {α : Type} {f : α → D} {ok : α → Prop} (i : Nat) (fl : Field), fs[i]? = some fl → Reads enc P W fl.type f ok → ∃ a, Rep (AllBlk W) W (f a) ((cs.drop fl.offset).take (P.cellsOf fl.type)) ∧ ok a := by
 obtain ⟨xs, n, _, _, hl, hlen, hi⟩ := DataW.trod_struct ht h
 refine ⟨hl, fun {α} {f} {ok} i fl hf hr => ?_⟩
 have := hi i fl hf
 have hlt : i < xs.length := by rw [hlen]; exact (Array.getElem?_eq_some_iff.1 hf).1
 rw [List.getElem?_eq_getElem hlt] at this
 exact hr _ _ _ this
end
section
variable {P : Program} {W : World}
theorem calls_trueG {gs : List (Nat × D)} {f : FuncId} {args : List AV} {vs : Array Value} (hA : ACall P gs f args [] (fun r' hp' => r' = .d (.val (.bool true)) ∧ hp' = [])) (hargs : RAc (AllBlk W) (fun _ => none) W args vs.toList)
  (hg : Globs gs (AllBlk W) W) : Calls P f vs W fun e W' => e = .returned (.bool true) ∧ Below W.heap.size W W' := by
 have h := hA (AllBlk W) (fun _ => none) (fun b => W.heap.size ≤ b) W vs.toList inv_start hargs hg (fun _ h => h) (fun b ⟨c, hc⟩ h => by
  have := blk_lt hc; omega)
 have h2 := callsIn_wide.1 h
 rw [Array.toArray_toList] at h2
 refine h2.mono ?_
 rintro e W' ⟨v, r, hp', F', μ', rfl, ⟨rfl, rfl⟩, _, _, _, hv, hfr⟩
 exact ⟨by rw [rv_val hv], below_of_fr hfr⟩
end
end Bd
