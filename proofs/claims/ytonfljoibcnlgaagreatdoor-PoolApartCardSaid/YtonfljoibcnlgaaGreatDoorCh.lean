import Derived.Test.YtonfljoibcnlgaaGreatDoorCg
namespace Bd
open Go
theorem run_slice3 {P : Program} {t : TypeId} {sz len cap i j m : Nat} {k1 k2 k3 : IntKind} {a : Option Addr} {w : World} (ht : slB P t = some sz) (h1 : i ≤ j) (h2 : j ≤ m) (h3 : m ≤ cap) :
  (Instr.sliceAt t (.slice a len cap) (some (.int k1 i)) (some (.int k2 j)) (some (.int k3 m))).run P w = .ok (.slice (if m = i then a else a.map (·.add (i * sz))) (j - i) (m - i)) w := by
 obtain ⟨e, ag, hu, he⟩ := slB_some ht
 simp [Instr.sliceAt, Instr.slice, underlying, program, Sem.run, hu, Instr.sliceBounds, run_sizeOf he, run_sliceBound, h1, h2, h3, Int.ofNat_le]
section
variable {P₀ : Program} {ns : Nat} {C : Ctx P₀ ns} {ops : Array Oper} {d ty : Nat} {ps : String} {af : Array Edge} {gd : Option (Nat × Bool)} {x y : Operand} {s : AS} {a : Act} {w : World} {F : Nat → Prop} {μ : Mu}
theorem f_slice3X {t : TypeId} {y1 y2 y3 : Operand} {k1 k2 k3 : IntKind} {i j m b off len cap sz : Nat} (hlt : Nat.blt d C.n = true) (ht : slB C.P t = some sz) (h1 : i ≤ j) (h2 : j ≤ m) (h3 : m ≤ cap) (h4 : i < m) :
  Fact C ⟨some d, .slice t x (some y1) (some y2) (some y3), ty, ps, af, gd⟩ { er := [(x, xS b off len cap), (y1, .d (.val (.int k1 (i : Int)))), (y2, .d (.val (.int k2 (j : Int)))), (y3, .d (.val (.int k3 (m : Int))))], d := some (d, xS b (off + i * sz) (j - i) (m - i)) } :=
 fact_pure rfl hlt (by intro c h; cases h) fun s a w F μ he _ hs => by
  cases he with
  | cons hx he => cases he with
   | cons g1 he => cases he with
    | cons g2 he => cases he with
     | cons g3 _ =>
      have hv := rv_val (evalE_ok hs hx)
      have e1 := rv_val (evalE_ok hs g1)
      have e2 := rv_val (evalE_ok hs g2)
      have e3 := rv_val (evalE_ok hs g3)
      have hrun := run_slice3 (P := C.P) (w := w) (a := some ⟨b, off, none⟩) (len := len) (k1 := k1) (k2 := k2) (k3 := k3) ht h1 h2 h3
      rw [if_neg (by omega)] at hrun
      simp only [Option.map_some, addr_add] at hrun
      exact ⟨.slice (some ⟨b, off + i * sz, none⟩) (j - i) (m - i), by simp only [execOp, hv, e1, e2, e3, Option.map_some, Sem.run_bind, hrun, Result.andThen_ok, Sem.run_pure], rv_val_mk rfl⟩
theorem f_sliceXF {t : TypeId} {lo : Operand} {k1 : IntKind} {i b off len cap sz : Nat} (off' len' cap' : Nat) (hlt : Nat.blt d C.n = true) (ht : slB C.P t = some sz)
  (h1 : i ≤ len) (h2 : len ≤ cap) (e1 : (if cap = i then off else off + i * sz) = off') (e2 : len - i = len') (e3 : cap - i = cap') :
  Fact C ⟨some d, .slice t x (some lo) none none, ty, ps, af, gd⟩ { er := [(x, xS b off len cap), (lo, .d (.val (.int k1 (i : Int))))], d := some (d, xS b off' len' cap') } :=
 fact_pure rfl hlt (by intro c h; cases h) fun s a w F μ he _ hs => by
  cases he with
  | cons hx he => cases he with
   | cons g1 _ =>
    have hv := rv_val (evalE_ok hs hx)
    have g := rv_val (evalE_ok hs g1)
    have hrun := run_sliceW (P := C.P) (w := w) (a := some ⟨b, off, none⟩) (len := len) (cap := cap) (lo := some (.int k1 (i : Int))) (hi := none) (i := (i : Int)) (j := (len : Int)) ht (.inr ⟨_, rfl⟩) (.inl ⟨rfl, rfl⟩) (by omega) (by omega) (by omega)
    simp only [Int.toNat_natCast, Option.map_some, addr_add] at hrun
    refine ⟨.slice (some ⟨b, off', none⟩) len' cap', ?_, rv_val_mk rfl⟩
    subst e1; subst e2; subst e3
    have e4 : (if cap = i then some (⟨b, off, none⟩ : Addr) else some ⟨b, off + i * sz, none⟩) = some ⟨b, if cap = i then off else off + i * sz, none⟩ := by split <;> rfl
    rw [e4] at hrun
    simp only [execOp, hv, g, Option.map_some, Option.map_none, Sem.run_bind, hrun, Result.andThen_ok, Sem.run_pure]
theorem f_appendX {t : TypeId} {o b base tot n sz bts i cap q p2 len2 cap2 : Nat} {xs zs : List D} (hlt : Nat.blt d C.n = true) (ht : elB C.P t = some (sz, bts)) (hb : C.base o = some (.at b base tot)) (hxn : xs.length = n)
  (hp2 : len2 = 0 ∨ p2 = base + q * sz) (hq : q + len2 ≤ n) (hi : i + len2 ≤ n) (hcap : i + len2 ≤ cap) {m : Nat} (hm : i + len2 = m) (hzs : xs.take i ++ (xs.drop q).take len2 ++ xs.drop m = zs) :
  Fact C ⟨some d, .call ⟨.builtin .append, #[x, y], #[t, t]⟩, ty, ps, af, gd⟩ { er := [(x, xS b base i cap), (y, xS b p2 len2 cap2)], hr := [(o, .av (.d (.arr sz n xs)))], d := some (d, xS b base m cap), hw := [(o, .av (.d (.arr sz n zs)))] } := by
 obtain ⟨e, inf, zv, hu, hif, hzv, hisz, hibt, hzsz, hpos⟩ := elB_some ht
 subst hisz; subst hibt; subst hm; subst hzs
 intro s hpre a w nx Q hs k
 obtain ⟨F, μ, hs⟩ := hs
 cases hpre.er with
 | cons hx her => cases her with
  | cons hy _ => cases hpre.hr with
   | cons ho _ =>
    have hxv := rv_val (evalE_ok hs hx)
    have hyv := rv_val (evalE_ok hs hy)
    have hmo := hs.base o _ hb
    rcases hs.inv.obj o _ ho with ⟨k1, _⟩ | ⟨b1, ba1, tt1, el, cs, k1, k2, k3, k4, k5, k6, k7⟩
    ·rw [hmo] at k1; cases k1
    rw [hmo] at k1; cases k1
    simp only [RA, Rep, AV.size, D.size] at k6 k7
    obtain ⟨k7, k8⟩ := k7
    have hblk : blk w b = some cs.toList := by simp [blk, k4]
    have hqn : (q + len2) * inf.size ≤ n * inf.size := Nat.mul_le_mul_right _ hq
    have hin : (i + len2) * inf.size ≤ n * inf.size := Nat.mul_le_mul_right _ hi
    rw [Nat.add_mul] at hqn hin
    have hnr := (repEach_split len2 (repEach_split q k8).1).2
    have hpr := (repEach_split i k8).2
    rw [List.take_take, Nat.min_eq_left (by omega)] at hpr
    have hdr := (repEach_split (i + len2) k8).1
    rw [Nat.add_mul] at hdr
    have hnl : ((((cs.toList.drop base).take (n * inf.size)).drop (q * inf.size)).take (len2 * inf.size)).length = len2 * inf.size := by
     simp only [List.length_take, List.length_drop, Array.length_toList]; omega
    obtain ⟨w', hrun, g1, g2, g3, g4, g5, g6⟩ := run_append_roomAt (P := C.P) (w := w) (t := t) (ty := ty) (b := b) (off := base) (sLen := i) (sCap := cap) (m := len2) (c := cap2) (a := ⟨b, p2, none⟩) hu hif k4 hnl (fun j v hj => by
     have hlt' : j < len2 * inf.size := by have := (List.getElem?_eq_some_iff.1 hj).1; omega
     have h0 : len2 ≠ 0 := by rintro rfl; simp at hlt'
     have hp2' : p2 = base + q * inf.size := hp2.resolve_left h0
     subst hp2'
     rw [addr_add, blk_cell hblk]
     rw [List.getElem?_take, if_pos hlt', List.getElem?_drop, List.getElem?_take] at hj
     split at hj
     ·rw [List.getElem?_drop] at hj; rw [← hj]; congr 1; omega
     ·cases hj) (repEach_leaf hnr) hcap (by rw [hnl]; omega)
    have h1 := sat_turn (c' := .d (.arr inf.size n (xs.take i ++ (xs.drop q).take len2 ++ xs.drop (i + len2)))) hs ho hmo k2 k3 g1 (by
      simp only [List.size_toArray, List.length_append, List.length_take, List.length_drop, Array.length_toList] at hnl ⊢; omega) (by simp only [AV.size, D.size]; omega) (fun F' μ' hext => by
     simp only [RA, Rep, AV.size, D.size]
     refine ⟨by simp only [List.length_append, List.length_take, List.length_drop]; omega, ?_⟩
     generalize hnews : ((((cs.toList.drop base).take (n * inf.size)).drop (q * inf.size)).take (len2 * inf.size)) = news2 at *
     have e5 : ((cs.toList.take (base + i * inf.size) ++ news2 ++ cs.toList.drop (base + i * inf.size + news2.length)).drop base).take (n * inf.size) = (cs.toList.drop base).take (i * inf.size) ++ news2 ++ ((cs.toList.drop base).take (n * inf.size)).drop (i * inf.size + len2 * inf.size) := by
      have hcl : cs.toList.length = cs.size := by simp
      rw [List.append_assoc, List.drop_append_of_le_length (by simp only [List.length_take]; omega), List.drop_take, show base + i * inf.size - base = i * inf.size from by omega, ← List.append_assoc,
       List.take_append, List.take_of_length_le (by simp only [List.length_append, List.length_take, List.length_drop, hnl]; omega), List.drop_take, List.drop_drop]
      congr 1
      simp only [List.length_append, List.length_take, List.length_drop, hnl]
      rw [show min (i * inf.size) (cs.toList.length - base) = i * inf.size from by omega, show base + (i * inf.size + len2 * inf.size) = base + i * inf.size + len2 * inf.size from by omega]
     rw [e5]
     exact repEach_append (repEach_append (repEach_mono hext.fro hext.kept hpr) (repEach_mono hext.fro hext.kept hnr)) (repEach_mono hext.fro hext.kept hdr)) g2 g3 g4 g5 g6
    exact wpIn_value (v := .slice (some ⟨b, base, none⟩) (i + len2) cap) (w' := w') (by intro c h; cases h) (by simp [execOp, resolve, Deferred.ofValue, invoke, builtin, hxv, hyv, hrun]) (k _ _ ⟨F, μ, sat_put h1 (by simpa [Nat.blt_eq] using hlt) (rv_val_mk rfl)⟩)
theorem f_clearX {t : TypeId} {o b base tot n sz bts p p1 len cap : Nat} {xs : List D} (hlf : ((zelB C.P t).map fun cs => cs.all leafV) = some true) (ht : elB C.P t = some (sz, bts)) (hb : C.base o = some (.at b base tot)) (hxn : xs.length = n)
  (hp1 : p1 = base + p * sz) (hp : p ≤ n) (hroom : base + (p + len) * sz ≤ tot) (h0 : 0 < len) :
  Fact C ⟨none, .call ⟨.builtin .clear, #[x], #[t]⟩, ty, ps, af, gd⟩ { er := [(x, xS b p1 len cap)], hr := [(o, .av (.d (.arr sz n xs)))], hw := [(o, .av (.d (.arr sz p (xs.take p))))] } := by
 obtain ⟨e, inf, zv, hu, hif, hzv, hisz, hibt, hzsz, hpos⟩ := elB_some ht
 subst hisz; subst hibt; subst hp1
 obtain ⟨z, hz1, hz2⟩ := zel_ex hlf
 have hcells : zv.cells.toList = z.cells := by
  unfold zelB at hz1
  simpa [hu, zeroB, hif, hzv] using hz1
 intro s hpre a w nx Q hs k
 obtain ⟨F, μ, hs⟩ := hs
 cases hpre.er with
 | cons hx _ => cases hpre.hr with
  | cons ho _ =>
   have hxv := rv_val (evalE_ok hs hx)
   have hmo := hs.base o _ hb
   rcases hs.inv.obj o _ ho with ⟨k1, _⟩ | ⟨b1, ba1, tt1, el, cs, k1, k2, k3, k4, k5, k6, k7⟩
   ·rw [hmo] at k1; cases k1
   rw [hmo] at k1; cases k1
   simp only [RA, Rep, AV.size, D.size] at k6 k7
   obtain ⟨k7, k8⟩ := k7
   have hzl : (Builtin.zeroCells zv.cells len).toList = (List.replicate len z.cells).flatten := by
    rw [← hcells, ← zeros_flat zv.cells hzsz len]
    simp [Builtin.zeroCells, Array.toList_range, hzsz]
   have hzr : RepEach F w inf.size (List.replicate len z) (List.replicate len z.cells).flatten := repEach_replicate (rep_flat hz2) (by rw [← hcells]; simpa using hzsz) len
   have hzlen : (List.replicate len z.cells).flatten.length = len * inf.size := by rw [repEach_length hzr]; simp
   have hpn : p * inf.size ≤ n * inf.size := Nat.mul_le_mul_right _ hp
   rw [Nat.add_mul] at hroom
   have hpr := (repEach_split p k8).2
   rw [List.take_take, Nat.min_eq_left hpn] at hpr
   obtain ⟨w', hrun, g1, g2, g3, g4, g5, g6⟩ := run_storeCells (P := C.P) (List.replicate len z.cells).flatten (w := w) (b := b) (off := base + p * inf.size) (i := 0) k4 (by rw [hzlen]; omega) (repEach_leaf hzr)
   have h1 := sat_turn (c' := .d (.arr inf.size p (xs.take p))) hs ho hmo k2 k3 g1 (by
     simp only [List.size_toArray, List.length_append, List.length_take, List.length_drop, Array.length_toList, hzlen]; omega) (by simp only [AV.size, D.size]; omega) (fun F' μ' hext => by
    simp only [RA, Rep, AV.size, D.size]
    refine ⟨by simp only [List.length_take]; omega, ?_⟩
    have e5 : ((cs.toList.take (base + p * inf.size + 0) ++ (List.replicate len z.cells).flatten ++ cs.toList.drop (base + p * inf.size + 0 + (List.replicate len z.cells).flatten.length)).drop base).take (p * inf.size) = (cs.toList.drop base).take (p * inf.size) := by
     have hcl : cs.toList.length = cs.size := by simp
     rw [Nat.add_zero, List.append_assoc, List.drop_append_of_le_length (by simp only [List.length_take]; omega), List.drop_take, show base + p * inf.size - base = p * inf.size from by omega,
      List.take_append_of_le_length (by simp only [List.length_take, List.length_drop]; omega), List.take_take, Nat.min_self]
    rw [e5]
    exact repEach_mono hext.fro hext.kept hpr) g2 g3 g4 g5 g6
   have hze : (zeroValue e).run C.P w = .ok zv w := by simp [zeroValue, typeInfo, hif, hzv]
   refine wpIn_value (v := .tuple #[]) (w' := w') (by intro c h; cases h) ?_ (k _ _ ⟨F, μ, h1⟩)
   obtain ⟨l, rfl⟩ : ∃ l, len = l + 1 := ⟨len - 1, by omega⟩
   simp [execOp, resolve, Deferred.ofValue, invoke, builtin, hxv, Builtin.clear_, run_underlying hu, hze, hzl, hrun]
end
section
variable {α : Type}
theorem del1 {E : List α} {i j m : Nat} (hij : i ≤ j) (hj : j ≤ E.length) (hm : i + (E.length - j) = m) : (E.take i ++ (E.drop j).take (E.length - j) ++ E.drop m).take m = E.take i ++ E.drop j := by
 have h1 : (E.drop j).take (E.length - j) = E.drop j := List.take_of_length_le (by rw [List.length_drop]; exact Nat.le_refl _)
 have h2 : (E.take i ++ E.drop j).length = m := by rw [List.length_append, List.length_take, List.length_drop]; omega
 rw [h1, List.take_append_of_le_length (by omega), List.take_of_length_le (by omega)]
end
end Bd
