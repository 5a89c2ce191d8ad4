/-
  Smaller rules that the printer uses: outcomes of two kinds, variables of the program, parts of slices, elements of elements. No program is in sight.
-/
import Derived.Test.YtonfljoibcnlgaaDoorCa
namespace Bd
open Go

theorem elim_l {α β γ : Type} {f : α → γ} {g : β → γ} {x : α} {r : γ} (h : Sum.elim f g (.inl x) = r) : f x = r := h
theorem elim_r {α β γ : Type} {f : α → γ} {g : β → γ} {x : β} {r : γ} (h : Sum.elim f g (.inr x) = r) : g x = r := h

theorem Frz.slcE {zs : List (Nat × D)} {o off len sz n : Nat} {xs ys : List D} (h : (o, D.arr sz n xs) ∈ zs) (he : (xs.drop off).take len = ys) (hl : off + len ≤ xs.length) : Frz zs (.slc o off len sz) (.d (.sl sz ys)) := he ▸ Frz.slc h hl

theorem at_map2 {α : Type} {sz n i : Nat} {p : List Nat} {xs : List α} {z : α} {m off : Nat} {y : D} (f : α → D) (h : xs[i]? = some z) (hp : D.at (f z) p = some (m, y)) (ho : off = i * sz + m) : AV.at (.d (.arr sz n (xs.map f))) (i :: p) = some (off, .d y) := by
  simp [AV.at, D.at, h, hp, ho]

section
variable {P₀ : Program} {ns : Nat} {C : Ctx P₀ ns} {ops : Array Oper} {d ty : Nat} {ps : String} {af : Array Edge} {gd : Option (Nat × Bool)} {x y : Operand} {e : Env} {h : Heap} {ds : List Nat} {Q : Exit → Act → World → Prop}

theorem glob_ev {g : Nat} {gs : List (Nat × D)} {z : D} (hgl : C.globs = gs) (hz : gs.lookup g = some z) : evalA C e (.global g) = some (.pref z) := by simp [evalA, hgl, hz]

theorem f_nilCheck {o off : Nat} {p : List Nat} (hlt : Nat.blt d C.n = true) : Fact C ⟨some d, .nilCheck x, ty, ps, af, gd⟩ { er := [(x, .ptr o off p)], d := some (d, .ptr o off p) } :=
  fact_pure rfl hlt (by intro c h; cases h) fun s a w F μ he hh hs => by
    cases he with
    | cons h1 _ =>
      have hx := evalE_ok hs h1
      obtain ⟨b, base, tot, hm', hv⟩ := rv_ptr hx
      refine ⟨.pointer (some ⟨b, base + off, none⟩), ?_, hv ▸ hx⟩
      simp [execOp, hv]

/-- a part of a slice of our own -/
theorem f_sliceOE {t : TypeId} {lo hi : Option Operand} {k1 k2 : IntKind} {i j : Int} {o off len sz off' len' : Nat} (hlt : Nat.blt d C.n = true) (ht : slB C.P t = some sz) (hl : lo = none → i = 0) (hh : hi = none → j = len)
    (h0 : 0 ≤ i) (h1 : i ≤ j) (h2 : j ≤ len) (e1 : off + i.toNat = off') (e2 : j.toNat - i.toNat = len') :
    Fact C ⟨some d, .slice t x lo hi none, ty, ps, af, gd⟩ { er := (x, .slc o off len sz) :: (bnd lo k1 i ++ bnd hi k2 j), d := some (d, .slc o off' len' sz) } := by
  subst e1; subst e2; exact f_sliceO hlt ht hl hh h0 h1 h2

theorem run_sliceVM {P : Program} {t : TypeId} {sz len cap : Nat} {a : Option Addr} {lo : Option Value} {k2 k3 : IntKind} {i j : Int} {w : World} (ht : slB P t = some sz) (hl : lo = none ∧ i = 0 ∨ ∃ k, lo = some (.int k i))
    (h0 : 0 ≤ i) (h1 : i ≤ j) (h2 : j ≤ len) (h3 : len ≤ cap) :
    (Instr.sliceAt t (.slice a len cap) lo (some (.int k2 j)) (some (.int k3 j))).run P w = .ok (.slice (if j.toNat = i.toNat then a else a.map (·.add (i.toNat * sz))) (j.toNat - i.toNat) (j.toNat - i.toNat)) w := by
  obtain ⟨e, ag, hu, he⟩ := slB_some ht
  have hj : (j.toNat : Int) = j := Int.toNat_of_nonneg (by omega)
  rcases hl with ⟨rfl, rfl⟩ | ⟨k, rfl⟩
  · simp [Instr.sliceAt, Instr.slice, underlying, program, Sem.run, hu, Instr.sliceBounds, run_sizeOf he, run_sliceBound, h1, (by omega : j ≤ (cap : Int)), hj]
  · simp [Instr.sliceAt, Instr.slice, underlying, program, Sem.run, hu, Instr.sliceBounds, run_sizeOf he, run_sliceBound, h0, h1, (by omega : 0 ≤ j), (by omega : j ≤ (cap : Int)), hj]

/-- a part of a slice that is data, and has no more room -/
theorem f_sliceDM {t : TypeId} {lo : Option Operand} {y z : Operand} {k1 k2 k3 : IntKind} {i j : Int} {sz : Nat} {xs zs : List D} (hlt : Nat.blt d C.n = true) (ht : slB C.P t = some sz) (hl : lo = none → i = 0)
    (h0 : 0 ≤ i) (h1 : i ≤ j) (h2 : j ≤ xs.length) (hz : (xs.take j.toNat).drop i.toNat = zs) :
    Fact C ⟨some d, .slice t x lo (some y) (some z), ty, ps, af, gd⟩ { er := (x, .d (.sl sz xs)) :: (bnd lo k1 i ++ [(y, .d (.val (.int k2 j))), (z, .d (.val (.int k3 j)))]), d := some (d, .d (.sl sz zs)) } :=
  fact_pure rfl hlt (by intro c h; cases h) fun s a w F μ he _ hs => by
    cases he with
    | cons hx he =>
      obtain ⟨e1, e2⟩ := envHas_app he
      cases e2 with
      | cons q1 e2 => cases e2 with
        | cons q2 _ =>
          have hy := rv_val (evalE_ok hs q1)
          have hzz := rv_val (evalE_ok hs q2)
          obtain ⟨hx1, hx2⟩ := evalE_ok hs hx
          simp only [RA, Rep] at hx1
          obtain ⟨ad, cap, g1, g2, g3⟩ := hx1
          have hv : a.eval x = .slice ad xs.length cap := by
            have := cells_single (v := a.eval x) hx2
            rw [g1] at this; simpa using this.symm
          have hrun := run_sliceVM (P := C.P) (w := w) (a := ad) (k2 := k2) (k3 := k3) ht (bnd_ok hs e1 hl) h0 h1 h2 g2
          subst hz
          have hlen : ((xs.take j.toNat).drop i.toNat).length = j.toNat - i.toNat := by rw [List.length_drop, List.length_take]; omega
          refine ⟨.slice (if j.toNat = i.toNat then ad else ad.map (·.add (i.toNat * sz))) (j.toNat - i.toNat) (j.toNat - i.toNat), by simp only [execOp, hv, hy, hzz, Option.map_some, Sem.run_bind, hrun, Result.andThen_ok, Sem.run_pure], ?_, rfl⟩
          simp only [RA, Rep, hlen]
          refine ⟨_, j.toNat - i.toNat, rfl, Nat.le_refl _, ?_⟩
          rcases g3 with rfl | ⟨b, off, c, rfl, hF, hb, hlc, hr⟩
          · exact .inl (by simp)
          · by_cases hc : j.toNat = i.toNat
            · refine .inl (List.eq_nil_of_length_eq_zero ?_)
              rw [hlen]; omega
            · refine .inr ⟨b, off + i.toNat * sz, c, ?_, hF, hb, ?_, ?_⟩
              · rw [if_neg hc]; simp [addr_add]
              · have : j.toNat * sz ≤ xs.length * sz := Nat.mul_le_mul_right _ (by omega)
                have h3 : i.toNat * sz + (j.toNat - i.toNat) * sz = j.toNat * sz := by rw [← Nat.add_mul]; congr 1; omega
                omega
              · have h7 := (repEach_split i.toNat (repEach_split j.toNat hr).2).1
                have h3 : i.toNat * sz + (j.toNat - i.toNat) * sz = j.toNat * sz := by rw [← Nat.add_mul]; congr 1; omega
                have h4 : j.toNat * sz ≤ xs.length * sz := Nat.mul_le_mul_right _ (by omega)
                have h8 : ((c.drop off).take (j.toNat * sz)).drop (i.toNat * sz) = (c.drop (off + i.toNat * sz)).take (j.toNat * sz - i.toNat * sz) := by rw [List.drop_take, List.drop_drop]
                rw [List.take_take, Nat.min_eq_left h4, h8] at h7
                rwa [show (j.toNat - i.toNat) * sz = j.toNat * sz - i.toNat * sz from by omega]

theorem aw_anewE {c : Code} {o off len sz n m : Nat} {xs zs : List D} (t o' : Nat) (hn : h.get o' = none) (hx : e.get t = some (.slc o off len sz)) (ho : h.get o = some (.av (.d (.arr sz n xs)))) (hz : xs.drop off = zs) (hend : off + len = n) (hm : len = m)
    (k : AW C c Q ⟨(t, .slc o' 0 m sz) :: e, (o', .av (.d (.arr sz m zs))) :: (o, .dead) :: h, ds⟩) : AW C c Q ⟨e, h, ds⟩ := by subst hz; subst hm; exact aw_anew t o' hn hx ho hend k
theorem aq_anewE {ex : Exit} {o off len sz n m : Nat} {xs zs : List D} (t o' : Nat) (hn : h.get o' = none) (hx : e.get t = some (.slc o off len sz)) (ho : h.get o = some (.av (.d (.arr sz n xs)))) (hz : xs.drop off = zs) (hend : off + len = n) (hm : len = m)
    (k : AQ C Q ex ⟨(t, .slc o' 0 m sz) :: e, (o', .av (.d (.arr sz m zs))) :: (o, .dead) :: h, ds⟩) : AQ C Q ex ⟨e, h, ds⟩ := by subst hz; subst hm; exact aq_anew t o' hn hx ho hend k

/-- an array inside an object, as a slice -/
theorem f_sliceP {t : TypeId} {o off k n sz : Nat} {p : List Nat} {c : AV} {xs : List D} (hlt : Nat.blt d C.n = true) (ht : arrB C.P t = some (n, sz)) (ha : c.at p = some (off, .d (.arr sz n xs))) (hk : off = k * sz) :
    Fact C ⟨some d, .slice t x none none none, ty, ps, af, gd⟩ { er := [(x, .ptr o off p)], hr := [(o, .av c)], d := some (d, .slc o k n sz) } :=
  fact_pure rfl hlt (by intro c h; cases h) fun s a w F μ he hh hs => by
    cases he with
    | cons hx _ => cases hh with
      | cons ho _ =>
        obtain ⟨b, base, tot, hm, hv⟩ := rv_ptr (evalE_ok hs hx)
        unfold arrB at ht
        cases hu : C.P.underlying t with
        | none => simp [hu] at ht
        | some td =>
          cases td with
          | array n' e' =>
            simp only [hu] at ht
            cases he : tyB C.P e' with
            | none => simp [he] at ht
            | some q =>
              obtain ⟨ag, s1⟩ := q
              simp only [he, Option.map_some, Option.some.injEq, Prod.mk.injEq] at ht
              obtain ⟨rfl, rfl⟩ := ht
              rcases hs.inv.obj o _ ho with ⟨k1, _⟩ | ⟨b', base', tot', el, cs, k1, k2, k3, k4, k5, k6, k7⟩
              · rw [hm] at k1; cases k1
              · rw [hm] at k1; cases k1
                have hr := ra_at ha k7
                have h2 := hr.2
                simp only [AV.size, D.size] at h2
                have hl : ((cs.toList.drop base).take c.size).length = c.size := by rw [List.length_take, List.length_drop]; simp; omega
                rw [hl] at h2
                subst hk
                refine ⟨.slice (some ⟨b, base + k * s1, none⟩) n' n', ?_, ⟨?_, rfl⟩⟩
                · have hrun : (Instr.sliceAt t (.pointer (some ⟨b, base + k * s1, none⟩)) none none none).run C.P w = .ok (.slice (some ⟨b, base + k * s1, none⟩) n' n') w := by
                    simp [Instr.sliceAt, underlying, program, Sem.run, hu, Instr.sureAddr, Instr.sliceBounds, run_sizeOf he, addr_add]
                  simp only [execOp, hv, Option.map_none, Sem.run_bind, hrun, Result.andThen_ok, Sem.run_pure]
                · simp only [RA]
                  exact .inr ⟨b, base, tot, n', hm, Nat.le_refl _, by rw [Nat.add_mul]; omega, by simp [Value.cells]⟩
          | _ => simp [hu] at ht
theorem srcP {o off k n sz : Nat} {p : List Nat} {c : AV} {xs : List D} (ha : c.at p = some (off, .d (.arr sz n xs))) (hk : off = k * sz) : Src C y sz xs [(y, .slc o k n sz)] [(o, .av c)] := fun s a w F μ hs he hh => by
  subst hk
  cases he with
  | cons hx _ => cases hh with
    | cons ho _ =>
      obtain ⟨hx1, hx2⟩ := evalE_ok hs hx
      have hxc := cells_single (v := a.eval y) hx2
      simp only [RA] at hx1
      rcases hs.inv.obj o _ ho with ⟨k1, k2, k3⟩ | ⟨b', base', tot', el, cs, k1, k2, k3, k4, k5, k6, k7⟩
      · have hr := (ra_at ha k3).1
        simp only [RA, Rep] at hr
        rcases hx1 with ⟨_, rfl, ad, hxv⟩ | ⟨b, base, tot, cap, hmo, _⟩
        · have : xs = [] := List.eq_nil_of_length_eq_zero hr.1
          subst this
          exact ⟨ad, 0, [], by rw [hxv] at hxc; simpa using hxc.symm, by simp, by simp [RepEach], by simp⟩
        · rw [hmo] at k1; cases k1
      · have hr := ra_at ha k7
        have hr1 := hr.1
        have h2 := hr.2
        simp only [AV.size, D.size] at h2 hr1
        have hl : ((cs.toList.drop base').take c.size).length = c.size := by rw [List.length_take, List.length_drop]; simp; omega
        rw [hl] at h2
        simp only [RA, Rep] at hr1
        obtain ⟨h5, h6⟩ := hr1
        subst h5
        rcases hx1 with ⟨_, hn0, ad, hxv⟩ | ⟨b, base, tot, cap, hmo, hcap, htot, hxv⟩
        · have : xs = [] := List.eq_nil_of_length_eq_zero hn0
          subst this
          exact ⟨ad, 0, [], by rw [hxv] at hxc; simpa using hxc.symm, by simp, by simp [RepEach], by simp⟩
        · rw [hmo] at k1; cases k1
          refine ⟨_, cap, _, by rw [hxv] at hxc; simpa using hxc.symm, repEach_length h6, h6, fun _ => ⟨b', base' + k * sz, rfl, fun j u hj => ?_⟩⟩
          have hb : blk w b' = some cs.toList := by simp [blk, k4]
          rw [addr_add, blk_cell hb]
          rw [List.getElem?_take] at hj
          split at hj
          · rw [List.getElem?_drop, List.getElem?_take] at hj
            split at hj
            · rw [List.getElem?_drop] at hj
              rwa [← Nat.add_assoc] at hj
            · cases hj
          · cases hj

variable {a : Act} {w : World}
theorem ras_set2 {F μ w} : ∀ {xs : List AV} {cs : List Value} {i : Nat} {x y : AV}, RAs F μ w xs cs → xs[i]? = some x → (∀ cs, RA F μ w x cs → RA F μ w y cs) → RAs F μ w (xs.set i y) cs
  | [], _, _, _, _, _, h, _ => by simp at h
  | z :: xs, cs, 0, x, y, h, hi, hk => by
    simp only [RAs, List.set_cons_zero] at *
    simp at hi; subst hi
    obtain ⟨c1, c2, h0, h1, h2⟩ := h
    exact ⟨c1, c2, h0, hk _ h1, h2⟩
  | z :: xs, cs, i + 1, x, y, h, hi, hk => by
    simp only [RAs, List.set_cons_succ] at *
    obtain ⟨c1, c2, h0, h1, h2⟩ := h
    exact ⟨c1, c2, h0, h1, ras_set2 h2 (by simpa using hi) hk⟩
theorem asizes_set2 : ∀ {xs : List AV} {i : Nat} {x y : AV}, xs[i]? = some x → y.size = x.size → asizes (xs.set i y) = asizes xs
  | [], _, _, _, h, _ => by simp at h
  | z :: xs, 0, x, y, hi, hs => by simp at hi; subst hi; simp [asizes, hs]
  | z :: xs, i + 1, x, y, hi, hs => by simp [asizes, asizes_set2 (xs := xs) (i := i) (by simpa using hi) hs]

/-- a struct in a variable, of which a part is nil: the part is a slice of our own -/
theorem sat_adoptP {c o sz i : Nat} {xs : List AV} (hn : h.get o = none) (hx : h.get c = some (.av (.st xs))) (hi : xs[i]? = some (.d (.val (.slice none 0 0)))) (hs : Sat C ⟨e, h, ds⟩ a w) :
    Sat C ⟨e, (c, .av (.st (xs.set i (.slc o 0 0 sz)))) :: (o, .av (.d (.arr sz 0 []))) :: h, ds⟩ a w := by
  obtain ⟨F, μ, hs⟩ := hs
  obtain ⟨h1, h2⟩ := sat_newNil (sz := sz) hs hn
  have hco : c ≠ o := fun e => by subst e; rw [hn] at hx; cases hx
  have hget : Heap.get ((o, .av (.d (.arr sz 0 []))) :: h) c = some (.av (.st xs)) := by rw [heap_get_cons, if_neg (Ne.symm hco)]; exact hx
  have hnew : ∀ cs, RA F (fun i => if i = o then some .nil else μ i) w (.st xs) cs → RA F (fun i => if i = o then some .nil else μ i) w (.st (xs.set i (.slc o 0 0 sz))) cs := fun cs hr => by
    simp only [RA] at hr ⊢
    refine ras_set2 hr hi fun cs hr => ?_
    simp only [RA, Rep] at hr ⊢
    exact .inl ⟨⟨_, by simp only [if_true]; rfl⟩, trivial, none, hr.1⟩
  have hsz : (AV.st (xs.set i (.slc o 0 0 sz))).size = (AV.st xs).size := by simp only [AV.size]; exact asizes_set2 hi rfl
  refine ⟨F, _, ⟨⟨h1.inv.fro, fun q cq hq => ?_, fun q q' b ba t ba' t' cq cq' g1 g2 g3 g4 g5 g6 => ?_, fun q hq => ?_⟩, h1.env, h1.size, h1.dfs, h1.fr, h1.f0, h1.base, h1.globs, h1.fm⟩⟩
  · rw [heap_get_cons] at hq
    by_cases e1 : c = q
    · subst e1; rw [if_pos rfl] at hq; cases hq
      rcases h1.inv.obj c _ hget with ⟨q1, q2, q3⟩ | ⟨b, base, tot, el, cs, q1, q2, q3, q4, q5, q6, q7⟩
      · exact .inl ⟨q1, by rw [hsz]; exact q2, hnew _ q3⟩
      · exact .inr ⟨b, base, tot, el, cs, q1, q2, q3, q4, q5, by rw [hsz]; exact q6, by rw [hsz]; exact hnew _ q7⟩
    · rw [if_neg e1] at hq; exact h1.inv.obj q cq hq
  · have key : ∀ q cq, Heap.get ((c, .av (.st (xs.set i (.slc o 0 0 sz)))) :: (o, .av (.d (.arr sz 0 []))) :: h) q = some cq → cq ≠ .dead → ∃ c1, Heap.get ((o, .av (.d (.arr sz 0 []))) :: h) q = some c1 ∧ c1 ≠ .dead := fun q cq hq hd => by
      rw [heap_get_cons] at hq
      by_cases e1 : c = q
      · subst e1; exact ⟨_, hget, by simp⟩
      · rw [if_neg e1] at hq; exact ⟨_, hq, hd⟩
    obtain ⟨c1, m1, n1⟩ := key q cq g1 g3
    obtain ⟨c2, m2, n2⟩ := key q' cq' g2 g4
    exact h1.inv.apart q q' b ba t ba' t' c1 c2 m1 m2 n1 n2 g5 g6
  · rw [heap_get_cons] at hq
    by_cases e1 : c = q
    · rw [if_pos e1] at hq; cases hq
    · rw [if_neg e1] at hq; exact h1.inv.dom q hq
theorem aw_adoptP {cd : Code} {xs ys : List AV} (c o sz i : Nat) (hn : h.get o = none) (hx : h.get c = some (.av (.st xs))) (hi : xs[i]? = some (.d (.val (.slice none 0 0)))) (hy : xs.set i (.slc o 0 0 sz) = ys)
    (k : AW C cd Q ⟨e, (c, .av (.st ys)) :: (o, .av (.d (.arr sz 0 []))) :: h, ds⟩) : AW C cd Q ⟨e, h, ds⟩ := by subst hy; exact fun a w hs => k a w (sat_adoptP hn hx hi hs)
theorem aq_adoptP {ex : Exit} {xs ys : List AV} (c o sz i : Nat) (hn : h.get o = none) (hx : h.get c = some (.av (.st xs))) (hi : xs[i]? = some (.d (.val (.slice none 0 0)))) (hy : xs.set i (.slc o 0 0 sz) = ys)
    (k : AQ C Q ex ⟨e, (c, .av (.st ys)) :: (o, .av (.d (.arr sz 0 []))) :: h, ds⟩) : AQ C Q ex ⟨e, h, ds⟩ := by subst hy; exact fun a w hs => k a w (sat_adoptP hn hx hi hs)
end
end Bd
