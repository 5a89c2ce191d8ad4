import Derived.Test.YtonfljoibcnlgaaGreatDoorBt
import Derived.Laws.MakeOwn
import Derived.Great.BuildSlice
namespace Bd
open Go
section
variable {P₀ : Program} {ns : Nat} {C : Ctx P₀ ns} {ops : Array Oper} {d ty : Nat} {ps : String} {af : Array Edge} {gd : Option (Nat × Bool)} {x y : Operand} {s : AS} {a : Act} {w : World} {F : Nat → Prop} {μ : Mu}
theorem zeros_flat {sz : Nat} (z : Array Value) (hz : z.size = sz) : ∀ n : Nat, (List.range (n * sz)).map (fun i => z[i % sz]!) = (List.replicate n z.toList).flatten
 | 0 => by simp
 | n + 1 => by
  rw [Nat.add_mul, Nat.one_mul, List.range_add, List.map_append, zeros_flat z hz n, List.replicate_succ', List.flatten_append]
  congr 1
  simp only [List.map_map, List.flatten_cons, List.flatten_nil, List.append_nil]
  refine List.ext_getElem (by simp [hz]) fun i h1 h2 => ?_
  simp only [List.getElem_map, Function.comp, List.getElem_range]
  have hi : i < sz := by simpa using h1
  rw [show (n * sz + i) % sz = i from by rw [Nat.mul_comm, Nat.mul_add_mod, Nat.mod_eq_of_lt hi], getElem!_pos z i (by omega)]
  simp
theorem repEach_replicate {G : Nat → Prop} {w : World} {sz : Nat} {z : D} {cs : List Value} (h : Rep G w z cs) (hl : cs.length = sz) : ∀ n : Nat, RepEach G w sz (List.replicate n z) (List.replicate n cs).flatten
 | 0 => by simp [RepEach]
 | n + 1 => by
  rw [List.replicate_succ, List.replicate_succ, List.flatten_cons]
  simp only [RepEach]
  exact ⟨cs, _, rfl, hl, h, repEach_replicate h hl n⟩
def zelB (P : Program) (t : TypeId) : Option (List Value) := match P.underlying t with
 | some (.slice e) => (zeroB P e).map fun v => v.cells.toList
 | _ => none
theorem f_makeS {t : TypeId} {l : Operand} {k : IntKind} {n : Int} {sz bts : Nat} {z : D} (o : Nat) (hlt : Nat.blt d C.n = true) (ht : elB C.P t = some (sz, bts)) (hz : zelB C.P t = some z.cells) (hf : z.flat = true) (h0 : 0 ≤ n) (hb : bts * n ≤ 140737488355328) (h63 : n ≤ 140737488355328) :
  Fact C ⟨some d, .makeSlice t l l, ty, ps, af, gd⟩ { er := [(l, .d (.val (.int k n)))], hn := [o], d := some (d, .slc o 0 n.toNat sz), hw := [(o, .av (.d (.arr sz n.toNat (List.replicate n.toNat z))))] } := by
 obtain ⟨e, i, zv, hu, hi, hzv, hisz, hibt, hzsz, hpos⟩ := elB_some ht
 subst hisz; subst hibt
 have hcells : zv.cells.toList = z.cells := by
  unfold zelB at hz
  simpa [hu, zeroB, hi, hzv] using hz
 intro s hpre a w nx Q hs kk
 obtain ⟨F, μ, hs⟩ := hs
 cases hpre.er with
 | cons hx _ => cases hpre.hn with
  | cons hn _ =>
   have hv := rv_val (evalE_ok hs hx)
   obtain ⟨m, rfl⟩ := Int.eq_ofNat_of_zero_le h0
   have hw1 : IntKind.i64.wrap (m : Int) = m := by
    simp only [IntKind.wrap, IntKind.signed, IntKind.bits]
    simp; omega
   have hzl : ((Array.range (m * i.size)).map fun j => zv.cells[j % zv.cells.size]!).toList = (List.replicate m z.cells).flatten := by
    rw [Array.toList_map, Array.toList_range, hzsz, ← hcells]
    exact zeros_flat zv.cells hzsz m
   have hlen : ((Array.range (m * i.size)).map fun j => zv.cells[j % zv.cells.size]!).size = m * i.size := by simp
   have hrep : RepEach F w i.size (List.replicate m z) (List.replicate m z.cells).flatten := repEach_replicate (rep_flat hf) (by rw [← hcells]; simpa using hzsz) m
   obtain ⟨h3, h4⟩ := sat_new (e := e) (cs := (Array.range (m * i.size)).map fun j => zv.cells[j % zv.cells.size]!) (c := .d (.arr i.size m (List.replicate m z))) hs hn
    (by simp only [AV.size, D.size]; rw [hlen]; exact Nat.le_refl _) (by
     simp only [RA, Rep, AV.size, D.size]
     refine ⟨by simp, ?_⟩
     rw [hzl, List.take_of_length_le (by rw [repEach_length hrep]; simp)]
     exact hrep)
   have hrun := run_make (P := C.P) w t e i zv hu hi hzv k k (m : Int) (m : Int) (by omega) (Int.le_refl _) (by omega) (by omega)
   refine wpIn_value (by intro c h; cases h) (w' := { w with heap := w.heap.push (.cells ((Array.range (m * i.size)).map fun j => zv.cells[j % zv.cells.size]!) e) }) (v := .slice (some ⟨w.heap.size, 0, none⟩) m m)
    (by simp only [execOp, hv, Sem.run_bind, hrun, Result.andThen_ok, Sem.run_pure]; rfl) (kk _ _ ⟨F, _, sat_put h3 (by simpa [Nat.blt_eq] using hlt) ⟨?_, rfl⟩⟩)
   simp only [RA, Int.toNat_natCast]
   exact .inr ⟨w.heap.size, 0, _, m, by simp only [if_true]; rfl, Nat.le_refl _, by rw [hlen]; simp, by simp [Value.cells]⟩
theorem f_buildS {t : TypeId} {len : Nat} {parts : Array (Nat × Operand)} {xs : List (Nat × AV)} {sz bts : Nat} {z : D} {zs : List D} (o : Nat) (hlt : Nat.blt d C.n = true) (ht : elB C.P t = some (sz, bts)) (hz : zelB C.P t = some z.cells) (hf : z.flat = true)
  (hsmall : len * sz ≤ 2 ^ 24) (hpos : len ≠ 0) (hi : parts.toList.map (·.1) = xs.map (·.1)) (hm : (xs.all fun p => p.2.mem) = true) (hok : putsOk P₀ t (.d (.arr sz len (List.replicate len z))) xs) (hp : puts (.d (.arr sz len (List.replicate len z))) xs = some (.d (.arr sz len zs))) :
  Fact C ⟨some d, .buildSlice t len parts, ty, ps, af, gd⟩ { er := (parts.toList.map (·.2)).zip (xs.map (·.2)), hn := [o], d := some (d, .slc o 0 len sz), hw := [(o, .av (.d (.arr sz len zs)))] } := by
 obtain ⟨e, i, zv, hu, hie, hzv, hisz, hibt, hzsz, hpos2⟩ := elB_some ht
 subst hisz; subst hibt
 have hcells : zv.cells.toList = z.cells := by
  unfold zelB at hz
  simpa [hu, zeroB, hie, hzv] using hz
 intro s hpre a w nx Q hs kk
 obtain ⟨F, μ, hs⟩ := hs
 cases hpre.hn with
 | cons hn _ =>
  have hall := rac_zip hs hi hpre.er hm
  have hzl : ((Array.range (len * i.size)).map fun j => zv.cells[j % zv.cells.size]!).toList = (List.replicate len z.cells).flatten := by
   rw [Array.toList_map, Array.toList_range, hzsz, ← hcells]
   exact zeros_flat zv.cells hzsz len
  have hrep : RepEach F w i.size (List.replicate len z) (List.replicate len z.cells).flatten := repEach_replicate (rep_flat hf) (by rw [← hcells]; simpa using hzsz) len
  have hr0 : RA F μ w (.d (.arr i.size len (List.replicate len z))) ((Array.range (len * i.size)).map fun j => zv.cells[j % zv.cells.size]!).toList := by
   simp only [RA, Rep]
   rw [hzl]
   exact ⟨by simp, hrep⟩
  have hpl : ∀ j p, placeB P₀ t j = some p → (fun j => some (j * i.size, i.size)) j = some p := fun j p hp => by
   have hty : ∀ q, tyB P₀ e = some q → q.2 = i.size := fun q hq => by
    rw [← tyB_cells hq]; simp [Program.cellsOf, hie]
   simp only [placeB, hu] at hp
   cases hb : tyB P₀ e with
   | none => simp [hb] at hp
   | some q =>
    simp only [hb, Option.map_some, Option.some.injEq] at hp
    rw [← hp, hty q hb]
  obtain ⟨cells', g1, g2, g3⟩ := run_fill hpl (vs := parts.toList.map fun p => (p.1, a.eval p.2)) hok hp hr0 (by rw [← hi]; simp) hall
  have hlen : cells'.size = len * i.size := by rw [g3]; simp
  have hrun := run_buildSlice (P := C.P) w t e len (parts.map fun (i, x) => (i, a.eval x)) cells' i zv hu hie hzv (by omega) (by have := Nat.mul_pos (Nat.pos_of_ne_zero hpos) hpos2; omega) (by rw [← g1]; simp)
  obtain ⟨h3, h4⟩ := sat_new (e := e) (cs := cells') (c := .d (.arr i.size len zs)) hs hn (by simp only [AV.size, D.size]; omega) (by
   rw [List.take_of_length_le (by simp only [AV.size, D.size]; simp; omega)]; exact g2)
  refine wpIn_value (by intro c h; cases h) (w' := { w with heap := w.heap.push (.cells cells' e) }) (v := .slice (some ⟨w.heap.size, 0, none⟩) len len)
   (by simp only [execOp, Sem.run_bind, hrun, Result.andThen_ok, Sem.run_pure]; rfl) (kk _ _ ⟨F, _, sat_put h3 (by simpa [Nat.blt_eq] using hlt) ⟨?_, rfl⟩⟩)
  simp only [RA]
  exact .inr ⟨w.heap.size, 0, _, len, by simp only [if_true]; rfl, Nat.le_refl _, by rw [hlen]; simp, by simp [Value.cells]⟩
theorem f_buildS0 {t : TypeId} {sz bts : Nat} (o : Nat) (hlt : Nat.blt d C.n = true) (ht : elB C.P t = some (sz, bts)) :
  Fact C ⟨some d, .buildSlice t 0 #[], ty, ps, af, gd⟩ { hn := [o], d := some (d, .slc o 0 0 sz), hw := [(o, .av (.d (.arr sz 0 [])))] } := by
 obtain ⟨e, i, zv, hu, hie, hzv, hisz, hibt, hzsz, hpos2⟩ := elB_some ht
 subst hisz; subst hibt
 intro s hpre a w nx Q hs kk
 obtain ⟨F, μ, hs⟩ := hs
 cases hpre.hn with
 | cons hn _ =>
  have hrun : (Instr.buildSlice t 0 (#[].map fun (i, x) => (i, a.eval x))).run C.P w = .ok (.slice (some ⟨w.heap.size, 0, none⟩) 0 0) { w with heap := w.heap.push (.cells #[] e) } := by
   have hr0 : Array.range 0 = #[] := rfl
   simp [Instr.buildSlice, underlying, program, Sem.run, hu, Go.sizeOf, typeInfo, hie, Instr.fill, newRow, newObj, hr0]
  obtain ⟨h3, h4⟩ := sat_new (e := e) (cs := #[]) (c := .d (.arr i.size 0 [])) hs hn (by simp [AV.size, D.size]) (by simp [RA, Rep, RepEach])
  refine wpIn_value (by intro c h; cases h) (w' := { w with heap := w.heap.push (.cells #[] e) }) (v := .slice (some ⟨w.heap.size, 0, none⟩) 0 0) (by simp only [execOp, Sem.run_bind, hrun, Result.andThen_ok, Sem.run_pure]) (kk _ _ ⟨F, _, sat_put h3 (by simpa [Nat.blt_eq] using hlt) ⟨?_, rfl⟩⟩)
  simp only [RA]
  exact .inr ⟨w.heap.size, 0, _, 0, by simp only [if_true]; rfl, Nat.le_refl _, by simp, by simp [Value.cells]⟩
end
end Bd
