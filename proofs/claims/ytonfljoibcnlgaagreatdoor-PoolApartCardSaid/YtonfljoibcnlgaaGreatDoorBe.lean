import Derived.Test.YtonfljoibcnlgaaGreatDoorBd
namespace Bd
open Go
def tyB (P : Program) (t : TypeId) : Option (Bool × Nat) :=
 match P.info? t, P.underlying t with
 | some i, some d => some (match d with | .struct _ => true | .array _ _ => true | _ => false, i.size)
 | _, _ => none
theorem run_isAgg {P t b n} {w : World} (h : tyB P t = some (b, n)) : (isAgg t).run P w = .ok b w := by
 unfold tyB at h
 cases hi : P.info? t with
 | none => simp [hi] at h
 | some i =>
  cases hd : P.underlying t with
  | none => simp [hi, hd] at h
  | some d =>
   simp only [hi, hd, Option.some.injEq, Prod.mk.injEq] at h
   simp only [isAgg, underlying, program, Sem.run_bind, Sem.run, Result.andThen_ok, hd, Sem.run_pure]
   rw [← h.1]
   cases d <;> rfl
theorem run_sizeOf {P t b n} {w : World} (h : tyB P t = some (b, n)) : (Go.sizeOf t).run P w = .ok n w := by
 unfold tyB at h
 cases hi : P.info? t with
 | none => simp [hi] at h
 | some i =>
  cases hd : P.underlying t with
  | none => simp [hi, hd] at h
  | some d =>
   simp only [hi, hd, Option.some.injEq, Prod.mk.injEq] at h
   simp only [Go.sizeOf, typeInfo, program, Sem.run_bind, Sem.run, Result.andThen_ok, hi, Sem.run_pure]
   rw [← h.2]
theorem blk_cell {w : World} {b off : Nat} {c : List Value} (h : blk w b = some c) : w.cell? ⟨b, off, none⟩ = c[off]? := by
 unfold blk at h
 unfold World.cell?
 cases ho : w.heap[b]? with
 | none => simp [ho] at h
 | some o =>
  cases o with
  | cells cs e fr => simp [ho] at h; subst h; simp
  | _ => simp [ho] at h
theorem addr_add (b off n : Nat) : (⟨b, off, none⟩ : Addr).add n = ⟨b, off + n, none⟩ := by
 unfold Addr.add
 split
 ·simp_all
 ·rfl
def pack (agg : Bool) (cs : List Value) : Value := bif agg then .agg cs.toArray else cs.headD undef
theorem run_loadCells {P} {w : World} {b off : Nat} {c : List Value} (h : blk w b = some c) : ∀ (n i : Nat) (acc : Array Value), off + i + n ≤ c.length →
  (loadCellsFrom ⟨b, off, none⟩ i n acc).run P w = .ok (acc ++ ((c.drop (off + i)).take n).toArray) w
 | 0, i, acc, _ => by simp [loadCellsFrom]
 | n + 1, i, acc, hl => by
  have hlt : off + i < c.length := by omega
  have hc : w.cell? ⟨b, off + i, none⟩ = some c[off + i] := by rw [blk_cell h, List.getElem?_eq_getElem hlt]
  simp only [loadCellsFrom, load, addr_add, Sem.run_bind, Sem.run, hc, Result.andThen_ok]
  rw [run_loadCells h n (i + 1) _ (by omega)]
  congr 1
  rw [List.drop_eq_getElem_cons hlt, List.take_succ_cons]
  simp [Nat.add_assoc]
theorem run_loadVar {P} {w : World} {t : TypeId} {agg : Bool} {n b off : Nat} {c : List Value} (ht : tyB P t = some (agg, n)) (h : blk w b = some c) (hl : off + n ≤ c.length) (h1 : agg = false → n = 1) :
  (loadVar t ⟨b, off, none⟩).run P w = .ok (pack agg ((c.drop off).take n)) w := by
 unfold loadVar
 simp only [Sem.run_bind, run_isAgg ht, Result.andThen_ok]
 cases agg with
 | true =>
  simp only [if_true, Sem.run_bind, run_sizeOf ht, Result.andThen_ok, loadCells]
  rw [run_loadCells h n 0 #[] (by omega)]
  simp [pack]
 | false =>
  have := h1 rfl
  subst this
  have hlt : off < c.length := by omega
  have hc : w.cell? ⟨b, off, none⟩ = some c[off] := by rw [blk_cell h, List.getElem?_eq_getElem hlt]
  simp only [load, Sem.run, hc, Bool.false_eq_true, if_false]
  have hh : ((c.drop off).take 1).headD undef = c[off] := by rw [List.drop_eq_getElem_cons hlt]; rfl
  show Result.ok c[off] w = Result.ok (((c.drop off).take 1).headD undef) w
  rw [hh]
theorem rv_pack {F μ w} {x : AV} {cs : List Value} (h : RA F μ w x cs) : RV F μ w x (pack x.isAgg cs) := by
 have key : RA F μ w x (pack x.isAgg cs).cells.toList ∧ aggV (pack x.isAgg cs) = x.isAgg := by
  cases hx : x.isAgg with
  | true => simpa [pack, Value.cells, aggV] using h
  | false =>
   obtain ⟨v, rfl, hv⟩ := ra_single h hx
   have := leaf_agg hv
   simp only [pack, cond_false, List.headD_cons, this, and_true]
   rw [cells_single this]; exact h
 cases x with
 | res xs => simp only [RA] at h
 | junk => simp only [RA] at h
 | _ => exact key
theorem run_storeCells {P} : ∀ (vs : List Value) {w : World} {b off i : Nat} {c : Array Value} {e : TypeId}, w.heap[b]? = some (.cells c e (0, 0)) → off + i + vs.length ≤ c.size → (∀ v ∈ vs, leafV v = true) →
  ∃ w', (storeCells ⟨b, off, none⟩ vs i).run P w = .ok () w' ∧ w'.heap[b]? = some (.cells (c.toList.take (off + i) ++ vs ++ c.toList.drop (off + i + vs.length)).toArray e (0, 0)) ∧
   (∀ b', b' ≠ b → w'.heap[b']? = w.heap[b']?) ∧ w'.heap.size = w.heap.size ∧ w'.os = w.os ∧ w'.tape = w.tape ∧ w'.output = w.output
 | [], w, b, off, i, c, e, h, hl, hv => ⟨w, by simp [storeCells], by simp [h], fun _ _ => rfl, rfl, rfl, rfl, rfl⟩
 | v :: vs, w, b, off, i, c, e, h, hl, hv => by
  have hlt : off + i < c.size := by simp at hl; omega
  have hcell : w.cell? ⟨b, off + i, none⟩ = some c[off + i] := by simp [World.cell?, h, hlt]
  have hfz : w.frozen? ⟨b, off + i, none⟩ = false := by simp [World.frozen?, h]
  have hb : b < w.heap.size := (Array.getElem?_eq_some_iff.1 h).1
  have hleaf := hv v (by simp)
  have hrun : (store (Addr.add ⟨b, off, none⟩ i) v).run P w = .ok () (w.setCell ⟨b, off + i, none⟩ v) := by
   rw [addr_add]
   cases v <;> simp_all [store, Sem.run, leafV]
  have h' : (w.setCell ⟨b, off + i, none⟩ v).heap[b]? = some (.cells (c.setIfInBounds (off + i) v) e (0, 0)) := by
   simp [World.setCell, Array.getElem?_modify, h]
  obtain ⟨w', h1, h2, h3, h4, h5⟩ := run_storeCells (P := P) vs (i := i + 1) (off := off) h' (by simp at hl ⊢; omega) (fun u hu => hv u (by simp [hu]))
  refine ⟨w', ?_, ?_, fun b' hb' => ?_, ?_, h5⟩
  ·simp only [storeCells, Sem.run_bind, hrun, Result.andThen_ok, h1]
  ·rw [h2]
   congr 2
   have hlt' : off + i < c.toList.length := by simpa using hlt
   congr 1
   simp only [Array.toList_setIfInBounds]
   have e1 : (c.toList.set (off + i) v).take (off + (i + 1)) = c.toList.take (off + i) ++ [v] := by
    rw [show off + (i + 1) = (off + i) + 1 from by omega, List.take_succ_eq_append_getElem (by simpa using hlt'), List.take_set_of_le (Nat.le_refl _)]
    simp
   have e2 : (c.toList.set (off + i) v).drop (off + (i + 1) + vs.length) = c.toList.drop (off + i + (v :: vs).length) := by
    rw [List.drop_set_of_lt (by omega)]
    congr 1; simp; omega
   rw [e1, e2]; simp
  ·rw [h3 b' hb']
   simp [World.setCell, Array.getElem?_modify, Ne.symm hb']
  ·rw [h4]; simp [World.setCell]
theorem run_storeVar {P} {w : World} {t : TypeId} {agg : Bool} {b off : Nat} {c : Array Value} {e : TypeId} {v : Value} (ht : tyB P t = some (agg, v.cells.size)) (h : w.heap[b]? = some (.cells c e (0, 0)))
  (hl : off + v.cells.size ≤ c.size) (hv : ∀ u ∈ v.cells.toList, leafV u = true) :
  ∃ w', (storeVar t ⟨b, off, none⟩ v).run P w = .ok () w' ∧ w'.heap[b]? = some (.cells (c.toList.take off ++ v.cells.toList ++ c.toList.drop (off + v.cells.size)).toArray e (0, 0)) ∧
   (∀ b', b' ≠ b → w'.heap[b']? = w.heap[b']?) ∧ w'.heap.size = w.heap.size ∧ w'.os = w.os ∧ w'.tape = w.tape ∧ w'.output = w.output := by
 obtain ⟨w', h1, h2, h3⟩ := run_storeCells (P := P) v.cells.toList (i := 0) (off := off) h (by simpa using hl) hv
 refine ⟨w', ?_, by simpa using h2, h3⟩
 unfold storeVar
 simp only [Sem.run_bind, run_sizeOf ht, Result.andThen_ok, ne_eq, not_true, if_false]
 simpa using h1
def D.at : D → List Nat → Option (Nat × D)
 | x, [] => some (0, x)
 | .st fs, i :: p => match fs[i]? with
  | some y => match D.at y p with
   | some (n, z) => some (sizes (fs.take i) + n, z)
   | none => none
  | none => none
 | .arr sz _ xs, i :: p => match xs[i]? with
  | some y => match D.at y p with
   | some (n, z) => some (i * sz + n, z)
   | none => none
  | none => none
 | _, _ :: _ => none
def AV.at : AV → List Nat → Option (Nat × AV)
 | x, [] => some (0, x)
 | .d x, i :: p => match D.at x (i :: p) with
  | some (n, z) => some (n, .d z)
  | none => none
 | .st fs, i :: p => match fs[i]? with
  | some y => match AV.at y p with
   | some (n, z) => some (asizes (fs.take i) + n, z)
   | none => none
  | none => none
 | _, _ :: _ => none
theorem rep_at {F w} : ∀ {p : List Nat} {x z : D} {n : Nat} {cs : List Value}, x.at p = some (n, z) → Rep F w x cs → Rep F w z ((cs.drop n).take z.size) ∧ n + z.size ≤ cs.length
 | [], x, z, n, cs, h, hr => by
  simp only [D.at, Option.some.injEq, Prod.mk.injEq] at h
  obtain ⟨rfl, rfl⟩ := h
  have := rep_length hr
  rw [← this]; simpa using hr
 | i :: p, .st fs, z, n, cs, h, hr => by
  simp only [D.at] at h
  cases hi : fs[i]? with
  | none => simp [hi] at h
  | some y =>
   cases hy : y.at p with
   | none => simp [hi, hy] at h
   | some m =>
    obtain ⟨m, z'⟩ := m
    simp only [hi, hy, Option.some.injEq, Prod.mk.injEq] at h
    obtain ⟨rfl, rfl⟩ := h
    simp only [Rep] at hr
    obtain ⟨h1, h2⟩ := repAll_get hr hi
    obtain ⟨h3, h4⟩ := rep_at hy h1
    have hl : ((cs.drop (sizes (fs.take i))).take y.size).length = y.size := by simp; omega
    rw [hl] at h4
    refine ⟨?_, by omega⟩
    rw [List.drop_take, List.drop_drop, List.take_take, Nat.min_eq_left (by omega)] at h3
    exact h3
 | i :: p, .arr sz k xs, z, n, cs, h, hr => by
  simp only [D.at] at h
  cases hi : xs[i]? with
  | none => simp [hi] at h
  | some y =>
   cases hy : y.at p with
   | none => simp [hi, hy] at h
   | some m =>
    obtain ⟨m, z'⟩ := m
    simp only [hi, hy, Option.some.injEq, Prod.mk.injEq] at h
    obtain ⟨rfl, rfl⟩ := h
    simp only [Rep] at hr
    obtain ⟨h1, h2⟩ := repEach_get hr.2 hi
    obtain ⟨h3, h4⟩ := rep_at hy h1
    have hl : ((cs.drop (i * sz)).take sz).length = sz := by simp; omega
    rw [hl] at h4
    refine ⟨?_, by omega⟩
    rw [List.drop_take, List.drop_drop, List.take_take, Nat.min_eq_left (by omega)] at h3
    exact h3
 | _ :: _, .val _, _, _, _, h, _ => by simp [D.at] at h
 | _ :: _, .sl _ _, _, _, _, h, _ => by simp [D.at] at h
theorem ras_get {F μ w} : ∀ {fs : List AV} {cs : List Value} {i : Nat} {x : AV}, RAs F μ w fs cs → fs[i]? = some x →
  RA F μ w x ((cs.drop (asizes (fs.take i))).take x.size) ∧ asizes (fs.take i) + x.size ≤ cs.length
 | [], cs, i, x, h, hi => by simp at hi
 | y :: fs, cs, 0, x, h, hi => by
  simp only [RAs] at h
  obtain ⟨c1, c2, rfl, h1, h2⟩ := h
  simp at hi; subst hi
  have := ra_length h1
  simp only [List.take_zero, asizes, List.drop_zero]
  rw [← this, List.take_left]
  exact ⟨h1, by simp⟩
 | y :: fs, cs, i + 1, x, h, hi => by
  simp only [RAs] at h
  obtain ⟨c1, c2, rfl, h1, h2⟩ := h
  simp at hi
  have hl := ra_length h1
  have := ras_get h2 hi
  simp only [List.take_succ_cons, asizes]
  rw [← hl, ← List.drop_drop, List.drop_left]
  exact ⟨this.1, by simp; omega⟩
theorem ra_at {F μ w} : ∀ {p : List Nat} {x z : AV} {n : Nat} {cs : List Value}, x.at p = some (n, z) → RA F μ w x cs → RA F μ w z ((cs.drop n).take z.size) ∧ n + z.size ≤ cs.length
 | [], x, z, n, cs, h, hr => by
  have h : some (0, x) = some (n, z) := by cases x <;> exact h
  simp only [Option.some.injEq, Prod.mk.injEq] at h
  obtain ⟨rfl, rfl⟩ := h
  have := ra_length hr
  rw [← this]; simpa using hr
 | i :: p, .d x, z, n, cs, h, hr => by
  simp only [AV.at] at h
  cases hx : x.at (i :: p) with
  | none => simp [hx] at h
  | some m =>
   obtain ⟨m, y⟩ := m
   simp only [hx, Option.some.injEq, Prod.mk.injEq] at h
   obtain ⟨rfl, rfl⟩ := h
   simp only [RA] at hr
   have := rep_at hx hr
   simpa [RA, AV.size] using this
 | i :: p, .st fs, z, n, cs, h, hr => by
  simp only [AV.at] at h
  cases hi : fs[i]? with
  | none => simp [hi] at h
  | some y =>
   cases hy : y.at p with
   | none => simp [hi, hy] at h
   | some m =>
    obtain ⟨m, z'⟩ := m
    simp only [hi, hy, Option.some.injEq, Prod.mk.injEq] at h
    obtain ⟨rfl, rfl⟩ := h
    simp only [RA] at hr
    obtain ⟨h1, h2⟩ := ras_get hr hi
    obtain ⟨h3, h4⟩ := ra_at hy h1
    have hl : ((cs.drop (asizes (fs.take i))).take y.size).length = y.size := by simp; omega
    rw [hl] at h4
    refine ⟨?_, by omega⟩
    rw [List.drop_take, List.drop_drop, List.take_take, Nat.min_eq_left (by omega)] at h3
    exact h3
 | _ :: _, .ptr .., _, _, _, h, _ => by simp [AV.at] at h
 | _ :: _, .slc .., _, _, _, h, _ => by simp [AV.at] at h
 | _ :: _, .fn .., _, _, _, h, _ => by simp [AV.at] at h
 | _ :: _, .pref .., _, _, _, h, _ => by simp [AV.at] at h
 | _ :: _, .res .., _, _, _, h, _ => by simp [AV.at] at h
 | _ :: _, .yld _, _, _, _, h, _ => by simp [AV.at] at h
 | _ :: _, .junk, _, _, _, h, _ => by simp [AV.at] at h
end Bd
