import Derived.Test.YtonfljoibcnlgaaGreatDoorBr
namespace Bd
open Go
def bnd (o : Option Operand) (k : IntKind) (i : Int) : List (Operand × AV) := match o with | some y => [(y, .d (.val (.int k i)))] | none => []
theorem slB_some {P : Program} {t : TypeId} {sz : Nat} (h : slB P t = some sz) : ∃ e ag, P.underlying t = some (.slice e) ∧ tyB P e = some (ag, sz) := by
 unfold slB at h
 cases hu : P.underlying t with
 | none => simp [hu] at h
 | some td =>
  cases td with
  | slice e =>
   simp only [hu] at h
   cases he : tyB P e with
   | none => simp [he] at h
   | some q => simp only [he, Option.map_some, Option.some.injEq] at h; exact ⟨e, q.1, rfl, by rw [he, ← h]⟩
  | _ => simp [hu] at h
theorem run_sliceV {P : Program} {t : TypeId} {sz len cap : Nat} {a : Option Addr} {lo hi : Option Value} {i j : Int} {w : World} (ht : slB P t = some sz) (hl : lo = none ∧ i = 0 ∨ ∃ k, lo = some (.int k i)) (hh : hi = none ∧ j = len ∨ ∃ k, hi = some (.int k j))
  (h0 : 0 ≤ i) (h1 : i ≤ j) (h2 : j ≤ len) (h3 : len ≤ cap) :
  (Instr.sliceAt t (.slice a len cap) lo hi none).run P w = .ok (.slice (if cap = i.toNat then a else a.map (·.add (i.toNat * sz))) (j.toNat - i.toNat) (cap - i.toNat)) w := by
 obtain ⟨e, ag, hu, he⟩ := slB_some ht
 have hj : (j.toNat : Int) = j := Int.toNat_of_nonneg (by omega)
 rcases hl with ⟨rfl, rfl⟩ | ⟨k, rfl⟩ <;> rcases hh with ⟨rfl, rfl⟩ | ⟨k', rfl⟩
 ·simp [Instr.sliceAt, Instr.slice, underlying, program, Sem.run, hu, Instr.sliceBounds, run_sizeOf he]
 ·simp [Instr.sliceAt, Instr.slice, underlying, program, Sem.run, hu, Instr.sliceBounds, run_sizeOf he, run_sliceBound, h1, (by omega : j ≤ (cap : Int)), hj]
 ·simp [Instr.sliceAt, Instr.slice, underlying, program, Sem.run, hu, Instr.sliceBounds, run_sizeOf he, run_sliceBound, h0, h1]
 ·simp [Instr.sliceAt, Instr.slice, underlying, program, Sem.run, hu, Instr.sliceBounds, run_sizeOf he, run_sliceBound, h0, h1, (by omega : 0 ≤ j), (by omega : j ≤ (cap : Int)), hj]
section
variable {P₀ : Program} {ns : Nat} {C : Ctx P₀ ns} {ops : Array Oper} {d ty : Nat} {ps : String} {af : Array Edge} {gd : Option (Nat × Bool)} {x y : Operand} {u v : AV} {s : AS} {a : Act} {w : World} {F : Nat → Prop} {μ : Mu}
theorem bnd_ok (hs : SatW C s a w F μ) {o : Option Operand} {k : IntKind} {i n : Int} (h : EnvHas C s.env (bnd o k i)) (hn : o = none → i = n) : o.map a.eval = none ∧ i = n ∨ ∃ k, o.map a.eval = some (.int k i) := by
 cases o with
 | none => exact .inl ⟨rfl, hn rfl⟩
 | some y =>
  cases h with
  | cons h1 _ => exact .inr ⟨k, by rw [Option.map_some, rv_val (evalE_ok hs h1)]⟩
theorem envHas_app {e : Env} {l1 l2 : List (Operand × AV)} (h : EnvHas C e (l1 ++ l2)) : EnvHas C e l1 ∧ EnvHas C e l2 :=
 ⟨envHas_iff.2 fun p hp => envHas_iff.1 h p (List.mem_append.2 (.inl hp)), envHas_iff.2 fun p hp => envHas_iff.1 h p (List.mem_append.2 (.inr hp))⟩
theorem f_sliceD {t : TypeId} {lo hi : Option Operand} {k1 k2 : IntKind} {i j : Int} {sz : Nat} {xs zs : List D} (hlt : Nat.blt d C.n = true) (ht : slB C.P t = some sz) (hl : lo = none → i = 0) (hh : hi = none → j = xs.length)
  (h0 : 0 ≤ i) (h1 : i ≤ j) (h2 : j ≤ xs.length) (hz : (xs.take j.toNat).drop i.toNat = zs) :
  Fact C ⟨some d, .slice t x lo hi none, ty, ps, af, gd⟩ { er := (x, .d (.sl sz xs)) :: (bnd lo k1 i ++ bnd hi k2 j), d := some (d, .d (.sl sz zs)) } :=
 fact_pure rfl hlt (by intro c h; cases h) fun s a w F μ he _ hs => by
  cases he with
  | cons hx he =>
   obtain ⟨e1, e2⟩ := envHas_app he
   obtain ⟨hx1, hx2⟩ := evalE_ok hs hx
   simp only [RA, Rep] at hx1
   obtain ⟨ad, cap, g1, g2, g3⟩ := hx1
   have hv : a.eval x = .slice ad xs.length cap := by
    have := cells_single (v := a.eval x) hx2
    rw [g1] at this; simpa using this.symm
   have hrun := run_sliceV (P := C.P) (w := w) (a := ad) ht (bnd_ok hs e1 hl) (bnd_ok hs e2 hh) h0 h1 h2 g2
   subst hz
   have hlen : ((xs.take j.toNat).drop i.toNat).length = j.toNat - i.toNat := by rw [List.length_drop, List.length_take]; omega
   refine ⟨.slice (if cap = i.toNat then ad else ad.map (·.add (i.toNat * sz))) (j.toNat - i.toNat) (cap - i.toNat), by simp only [execOp, hv, Option.map_none, Sem.run_bind, hrun, Result.andThen_ok, Sem.run_pure], ?_, rfl⟩
   simp only [RA, Rep, hlen]
   refine ⟨_, cap - i.toNat, rfl, by omega, ?_⟩
   rcases g3 with rfl | ⟨b, off, c, rfl, hF, hb, hlc, hr⟩
   ·exact .inl (by simp)
   ·by_cases hc : cap = i.toNat
    ·refine .inl (List.eq_nil_of_length_eq_zero ?_)
     rw [hlen]; omega
    ·refine .inr ⟨b, off + i.toNat * sz, c, ?_, hF, hb, ?_, ?_⟩
     ·rw [if_neg hc]; simp [addr_add]
     ·have : j.toNat * sz ≤ xs.length * sz := Nat.mul_le_mul_right _ (by omega)
      have h3 : i.toNat * sz + (j.toNat - i.toNat) * sz = j.toNat * sz := by rw [← Nat.add_mul]; congr 1; omega
      omega
     ·have h7 := (repEach_split i.toNat (repEach_split j.toNat hr).2).1
      have h3 : i.toNat * sz + (j.toNat - i.toNat) * sz = j.toNat * sz := by rw [← Nat.add_mul]; congr 1; omega
      have h4 : j.toNat * sz ≤ xs.length * sz := Nat.mul_le_mul_right _ (by omega)
      have h8 : ((c.drop off).take (j.toNat * sz)).drop (i.toNat * sz) = (c.drop (off + i.toNat * sz)).take (j.toNat * sz - i.toNat * sz) := by rw [List.drop_take, List.drop_drop]
      rw [List.take_take, Nat.min_eq_left h4, h8] at h7
      rwa [show (j.toNat - i.toNat) * sz = j.toNat * sz - i.toNat * sz from by omega]
theorem f_sliceO {t : TypeId} {lo hi : Option Operand} {k1 k2 : IntKind} {i j : Int} {o off len sz : Nat} (hlt : Nat.blt d C.n = true) (ht : slB C.P t = some sz) (hl : lo = none → i = 0) (hh : hi = none → j = len)
  (h0 : 0 ≤ i) (h1 : i ≤ j) (h2 : j ≤ len) :
  Fact C ⟨some d, .slice t x lo hi none, ty, ps, af, gd⟩ { er := (x, .slc o off len sz) :: (bnd lo k1 i ++ bnd hi k2 j), d := some (d, .slc o (off + i.toNat) (j.toNat - i.toNat) sz) } :=
 fact_pure rfl hlt (by intro c h; cases h) fun s a w F μ he _ hs => by
  cases he with
  | cons hx he =>
   obtain ⟨e1, e2⟩ := envHas_app he
   obtain ⟨hx1, hx2⟩ := evalE_ok hs hx
   simp only [RA] at hx1
   have hcell := cells_single (v := a.eval x) hx2
   rcases hx1 with ⟨hm, rfl, ad, g1⟩ | ⟨b, base, tot, cap, hm, hc, htt, g1⟩
   ·have hv : a.eval x = .slice ad 0 0 := by rw [g1] at hcell; simpa using hcell.symm
    have hrun := run_sliceV (P := C.P) (w := w) (a := ad) ht (bnd_ok hs e1 hl) (bnd_ok hs e2 hh) h0 h1 h2 (Nat.le_refl 0)
    have hi0 : i.toNat = 0 := by omega
    have hj0 : j.toNat = 0 := by omega
    rw [hi0, hj0] at hrun ⊢
    refine ⟨.slice (if 0 = 0 then ad else ad.map (·.add (0 * sz))) (0 - 0) (0 - 0), by simp only [execOp, hv, Option.map_none, Sem.run_bind, hrun, Result.andThen_ok, Sem.run_pure], ?_, rfl⟩
    simp only [RA]
    exact .inl ⟨hm, trivial, ad, rfl⟩
   ·have hv : a.eval x = .slice (some ⟨b, base + off * sz, none⟩) len cap := by rw [g1] at hcell; simpa using hcell.symm
    have hrun := run_sliceV (P := C.P) (w := w) (a := some ⟨b, base + off * sz, none⟩) ht (bnd_ok hs e1 hl) (bnd_ok hs e2 hh) h0 h1 h2 hc
    refine ⟨.slice (if cap = i.toNat then some ⟨b, base + off * sz, none⟩ else (some ⟨b, base + off * sz, none⟩ : Option Addr).map (·.add (i.toNat * sz))) (j.toNat - i.toNat) (cap - i.toNat), by simp only [execOp, hv, Option.map_none, Sem.run_bind, hrun, Result.andThen_ok, Sem.run_pure], ?_, rfl⟩
    simp only [RA]
    by_cases hcc : cap = i.toNat
    ·refine .inl ⟨⟨_, hm⟩, by omega, some ⟨b, base + off * sz, none⟩, ?_⟩
     rw [if_pos hcc, show j.toNat - i.toNat = 0 from by omega, show cap - i.toNat = 0 from by omega]; rfl
    ·refine .inr ⟨b, base, tot, cap - i.toNat, hm, by omega, ?_, ?_⟩
     ·rw [show off + i.toNat + (cap - i.toNat) = off + cap from by omega]; exact htt
     ·rw [if_neg hcc]; simp [addr_add, Nat.add_mul, Nat.add_assoc, Value.cells]
theorem f_lenO {t : TypeId} {ats : Array TypeId} {m o off len sz : Nat} (hlt : Nat.blt d C.n = true) (ht : slB C.P t = some m) (ha : ats[0]? = some t) :
  Fact C ⟨some d, .call ⟨.builtin .len, #[x], ats⟩, ty, ps, af, gd⟩ { er := [(x, .slc o off len sz)], d := some (d, .d (.val (.int .i64 len))) } :=
 fact_pure rfl hlt (by intro c h; cases h) fun s a w F μ he hh hs => by
  cases he with
  | cons h1 _ =>
   obtain ⟨hx1, hx2⟩ := evalE_ok hs h1
   have hcell := cells_single (v := a.eval x) hx2
   obtain ⟨e, ag, hu, he⟩ := slB_some ht
   have hv : ∃ ad cap, a.eval x = .slice ad len cap := by
    simp only [RA] at hx1
    rcases hx1 with ⟨_, rfl, ad, g1⟩ | ⟨b, base, tot, cap, _, _, _, g1⟩
    ·exact ⟨ad, 0, by rw [g1] at hcell; simpa using hcell.symm⟩
    ·exact ⟨_, cap, by rw [g1] at hcell; simpa using hcell.symm⟩
   obtain ⟨ad, cap, hv⟩ := hv
   refine ⟨.int .i64 len, ?_, ⟨by simp only [RA, Rep]; exact ⟨rfl, rfl⟩, rfl⟩⟩
   simp [execOp, resolve, Deferred.ofValue, invoke, builtin, Builtin.len_, ha, hv, underlying, program, Sem.run, hu, goInt]
theorem f_indexSO {t : TypeId} {o off len sz : Nat} {i : Int} {k : IntKind} (hlt : Nat.blt d C.n = true) (ht : slB C.P t = some sz) (h0 : 0 ≤ i) (hi : i < len) :
  Fact C ⟨some d, .indexAddr t x y, ty, ps, af, gd⟩ { er := [(x, .slc o off len sz), (y, .d (.val (.int k i)))], d := some (d, .ptr o ((off + i.toNat) * sz) [off + i.toNat]) } :=
 fact_pure rfl hlt (by intro c h; cases h) fun s a w F μ he hh hs => by
  cases he with
  | cons h1 he => cases he with
   | cons h2 _ =>
    obtain ⟨hx1, hx2⟩ := evalE_ok hs h1
    have hy := rv_val (evalE_ok hs h2)
    have hcell := cells_single (v := a.eval x) hx2
    obtain ⟨j, rfl⟩ := Int.eq_ofNat_of_zero_le h0
    simp only [RA] at hx1
    rcases hx1 with ⟨_, rfl, _⟩ | ⟨b, base, tot, cap, hm, hc, htt, g1⟩
    ·omega
    ·have hv : a.eval x = .slice (some ⟨b, base + off * sz, none⟩) len cap := by rw [g1] at hcell; simpa using hcell.symm
     refine ⟨.pointer (some ⟨b, base + (off + j) * sz, none⟩), ?_, ⟨by simp only [RA]; exact ⟨b, base, tot, hm, rfl⟩, rfl⟩⟩
     have := run_indexSl (P := C.P) (w := w) (b := b) (off := base + off * sz) (cap := cap) (k := k) ht (show j < len from by omega)
     simp only [execOp, hv, hy]
     simp only [Sem.run_bind, this, Result.andThen_ok, Sem.run_pure, Int.toNat_natCast, Nat.add_mul, Nat.add_assoc]
end
end Bd
