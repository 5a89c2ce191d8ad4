import Derived.Test.YtonfljoibcnlgaaGreatDoorBm
namespace Bd
open Go
def SubD (x y : D) : Prop := ∀ F w cs, Rep F w x cs → Rep F w y cs
theorem SubD.refl (x : D) : SubD x x := fun _ _ _ h => h
theorem SubD.nil (sz : Nat) : SubD (.val (.slice none 0 0)) (.sl sz []) := fun F w cs h => by
 simp only [Rep] at h ⊢
 exact ⟨none, 0, h.1, Nat.le_refl _, .inl trivial⟩
def SubDs : List D → List D → Prop
 | [], [] => True
 | x :: xs, y :: ys => SubD x y ∧ SubDs xs ys
 | _, _ => False
theorem subDs_ok {F w} : ∀ {xs ys : List D} {cs : List Value}, SubDs xs ys → RepAll F w xs cs → RepAll F w ys cs
 | [], [], _, _, h => h
 | x :: xs, y :: ys, cs, hs, h => by
  simp only [RepAll] at *
  obtain ⟨c1, c2, h0, h1, h2⟩ := h
  exact ⟨c1, c2, h0, hs.1 _ _ _ h1, subDs_ok hs.2 h2⟩
 | [], _ :: _, _, hs, _ => hs.elim
 | _ :: _, [], _, hs, _ => hs.elim
theorem SubD.st {xs ys : List D} (h : SubDs xs ys) : SubD (.st xs) (.st ys) := fun F w cs hr => by simp only [Rep] at *; exact subDs_ok h hr
def SubA (x : AV) (y : D) : Prop := ∀ F μ w cs, RA F μ w x cs → Rep F w y cs
theorem SubA.d {x y : D} (h : SubD x y) : SubA (.d x) y := fun F μ w cs hr => by simp only [RA] at hr; exact h _ _ _ hr
def SubAs : List AV → List D → Prop
 | [], [] => True
 | x :: xs, y :: ys => SubA x y ∧ SubAs xs ys
 | _, _ => False
theorem subAs_ok {F μ w} : ∀ {xs : List AV} {ys : List D} {cs : List Value}, SubAs xs ys → RAs F μ w xs cs → RepAll F w ys cs
 | [], [], _, _, h => by simpa only [RAs, RepAll] using h
 | x :: xs, y :: ys, cs, hs, h => by
  simp only [RepAll, RAs] at *
  obtain ⟨c1, c2, h0, h1, h2⟩ := h
  exact ⟨c1, c2, h0, hs.1 _ _ _ _ h1, subAs_ok hs.2 h2⟩
 | [], _ :: _, _, hs, _ => hs.elim
 | _ :: _, [], _, hs, _ => hs.elim
theorem SubA.st {xs : List AV} {ys : List D} (h : SubAs xs ys) : SubA (.st xs) (.st ys) := fun F μ w cs hr => by simp only [Rep, RA] at *; exact subAs_ok h hr
theorem SubA.sub {x : AV} {y : D} (h : SubA x y) (hx : x.mem = true) (ha : x.isAgg = y.isAgg) : Sub x (.d y) := fun F μ w v hr => by
 obtain ⟨r1, r2⟩ := rv_mem hr hx
 exact ⟨by simp only [RA]; exact h _ _ _ _ r1, by rw [r2, ha]; rfl⟩
mutual
def D.flat : D → Bool
 | .val v => leafV v
 | .st fs => flats fs
 | .arr sz n xs => Nat.beq xs.length n && flatE sz xs
 | .sl _ xs => xs.isEmpty
def flats : List D → Bool
 | [] => true
 | x :: xs => x.flat && flats xs
def flatE (sz : Nat) : List D → Bool
 | [] => true
 | x :: xs => x.flat && Nat.beq x.size sz && flatE sz xs
end
mutual
def D.cells : D → List Value
 | .val v => [v]
 | .st fs => cellss fs
 | .arr _ _ xs => cellss xs
 | .sl _ _ => [.slice none 0 0]
def cellss : List D → List Value
 | [] => []
 | x :: xs => x.cells ++ cellss xs
end
mutual
theorem rep_flat {F w} : ∀ {x : D}, x.flat = true → Rep F w x x.cells
 | .val v, h => ⟨rfl, h⟩
 | .st fs, h => by simp only [Rep, D.cells]; exact repAll_flat h
 | .arr sz n xs, h => by
  simp only [D.flat, Bool.and_eq_true] at h
  simp only [Rep, D.cells]
  exact ⟨Nat.eq_of_beq_eq_true h.1, repEach_flat h.2⟩
 | .sl sz xs, h => by
  simp only [D.flat, List.isEmpty_iff] at h
  subst h
  simp only [Rep, D.cells]
  exact ⟨none, 0, rfl, Nat.le_refl _, .inl trivial⟩
theorem repAll_flat {F w} : ∀ {xs : List D}, flats xs = true → RepAll F w xs (cellss xs)
 | [], _ => rfl
 | x :: xs, h => by
  simp only [flats, Bool.and_eq_true] at h
  exact ⟨x.cells, cellss xs, rfl, rep_flat h.1, repAll_flat h.2⟩
theorem repEach_flat {F w sz} : ∀ {xs : List D}, flatE sz xs = true → RepEach F w sz xs (cellss xs)
 | [], _ => rfl
 | x :: xs, h => by
  simp only [flatE, Bool.and_eq_true] at h
  have := rep_flat (F := F) (w := w) h.1.1
  exact ⟨x.cells, cellss xs, rfl, by rw [rep_length this]; exact Nat.eq_of_beq_eq_true h.1.2, this, repEach_flat h.2⟩
end
theorem zero_mk {P : Program} {t : TypeId} {z : D} {zv : Value} (hz : zeroB P t = some zv) (hf : z.flat = true) (hc : zv.cells.toList = z.cells) : ∃ zv, zeroB P t = some zv ∧ ∀ F μ w, RA F μ w (.d z) zv.cells.toList :=
 ⟨zv, hz, fun F μ w => by simp only [RA]; rw [hc]; exact rep_flat hf⟩
theorem zero_mk' {P : Program} {t : TypeId} {z : D} (hz : (zeroB P t).map (fun v => v.cells.toList) = some z.cells) (hf : z.flat = true) : ∃ zv, zeroB P t = some zv ∧ ∀ F μ w, RA F μ w (.d z) zv.cells.toList := by
 cases e : zeroB P t with
 | none => rw [e] at hz; cases hz
 | some zv => rw [e] at hz; exact ⟨zv, rfl, (zero_mk e hf (Option.some.inj hz)).elim fun zv' h => by rw [e] at h; cases h.1; exact h.2⟩
def puts : AV → List (Nat × AV) → Option AV
 | z, [] => some z
 | z, (i, x) :: l => match z.put [i] x with
  | some z' => puts z' l
  | none => none
def placeB (P : Program) (t : TypeId) (i : Nat) : Option (Nat × Nat) :=
 match P.underlying t with
 | some (.struct fs) => match fs[i]? with
  | some f => (tyB P f.type).map fun p => (f.offset, p.2)
  | none => none
 | some (.array _ e) => (tyB P e).map fun p => (i * p.2, p.2)
 | some (.slice e) => (tyB P e).map fun p => (i * p.2, p.2)
 | _ => none
def putsOk (P : Program) (t : TypeId) : AV → List (Nat × AV) → Prop
 | _, [] => True
 | z, (i, x) :: l => ∃ off old z', z.at [i] = some (off, old) ∧ placeB P t i = some (off, old.size) ∧ x.size = old.size ∧ z.put [i] x = some z' ∧ putsOk P t z' l
theorem foldl_put {cs : Array Value} {vs : List Value} {off : Nat} (h : off + vs.length ≤ cs.size) : ((vs.zipIdx).foldl (fun (cs : Array Value) (p : Value × Nat) => cs.setIfInBounds (off + p.2) p.1) cs).toList = cs.toList.take off ++ vs ++ cs.toList.drop (off + vs.length) := by
 have key : ∀ (vs : List Value) (k : Nat) (cs : Array Value), off + k + vs.length ≤ cs.size → ((vs.zipIdx k).foldl (fun (cs : Array Value) (p : Value × Nat) => cs.setIfInBounds (off + p.2) p.1) cs).toList = cs.toList.take (off + k) ++ vs ++ cs.toList.drop (off + k + vs.length) := by
  intro vs
  induction vs with
  | nil => intro k cs _; simp
  | cons v vs ih =>
   intro k cs hl
   simp at hl
   rw [List.zipIdx_cons, List.foldl_cons, ih (k + 1) _ (by simp; omega)]
   have hlt' : off + k < cs.toList.length := by simp; omega
   simp only [Array.toList_setIfInBounds]
   have e1 : (cs.toList.set (off + k) v).take (off + (k + 1)) = cs.toList.take (off + k) ++ [v] := by
    rw [show off + (k + 1) = (off + k) + 1 from by omega, List.take_succ_eq_append_getElem (by simpa using hlt'), List.take_set_of_le (Nat.le_refl _)]
    simp
   have e2 : (cs.toList.set (off + k) v).drop (off + (k + 1) + vs.length) = cs.toList.drop (off + k + (v :: vs).length) := by
    rw [List.drop_set_of_lt (by omega)]
    congr 1; simp; omega
   rw [e1, e2]; simp
 have := key vs 0 cs (by simpa using h)
 simpa using this
theorem run_fill {F μ w} {P : Program} {t : TypeId} {place : Nat → Option (Nat × Nat)} (hpl : ∀ i p, placeB P t i = some p → place i = some p) : ∀ {ps : List (Nat × AV)} {vs : List (Nat × Value)} {z z' : AV} {cells : Array Value},
  putsOk P t z ps → puts z ps = some z' → RA F μ w z cells.toList → ps.map (·.1) = vs.map (·.1) → RAc F μ w (ps.map (·.2)) (vs.map (·.2)) →
  ∃ cells', Instr.fill place cells vs = some cells' ∧ RA F μ w z' cells'.toList ∧ cells'.size = cells.size
 | [], [], z, z', cells, _, hz, hr, _, _ => by simp only [puts, Option.some.injEq] at hz; subst hz; exact ⟨cells, rfl, hr, rfl⟩
 | (i, x) :: ps, (j, v) :: vs, z, z', cells, hok, hz, hr, he, hv => by
  simp only [List.map_cons, List.cons.injEq] at he
  obtain ⟨rfl, he⟩ := he
  simp only [List.map_cons, RAc] at hv
  obtain ⟨v', vs', e1, r1, r2, hv⟩ := hv
  simp only [List.cons.injEq] at e1
  obtain ⟨rfl, rfl⟩ := e1
  obtain ⟨off, old, z1, h1, h2, h3, h4, h5⟩ := hok
  simp only [puts, h4] at hz
  have hl := ra_length r1
  have hzl := ra_length hr
  have hat := ra_at h1 hr
  have hcs : v.cells.size = x.size := by simpa using hl
  have hb : off + v.cells.size ≤ cells.size := by have := hat.2; simp at this; omega
  have hp := ra_put h4 h1 h3 hr r1
  have hf : (v.cells.zipIdx.foldl (fun cs (c, j) => cs.setIfInBounds (off + j) c) cells).toList = cells.toList.take off ++ v.cells.toList ++ cells.toList.drop (off + x.size) := by
   rw [← Array.foldl_toList, Array.toList_zipIdx]
   have := foldl_put (cs := cells) (vs := v.cells.toList) (off := off) (by simpa using hb)
   rw [show (off + v.cells.toList.length) = off + x.size from by simp; omega] at this
   exact this
  have hsz : (v.cells.zipIdx.foldl (fun cs (c, j) => cs.setIfInBounds (off + j) c) cells).size = cells.size := by
   have h1 := congrArg List.length hf
   rw [Array.length_toList] at h1
   rw [h1]
   simp only [List.length_append, List.length_take, List.length_drop, Array.length_toList]
   omega
  obtain ⟨cells', g1, g2, g3⟩ := run_fill hpl (cells := v.cells.zipIdx.foldl (fun cs (c, j) => cs.setIfInBounds (off + j) c) cells) h5 hz (by rw [hf]; exact hp) he hv
  refine ⟨cells', ?_, g2, by rw [g3, hsz]⟩
  simp only [Instr.fill, hpl i _ h2]
  rw [if_neg (by simp; omega)]
  exact g1
 | [], _ :: _, _, _, _, _, _, _, he, _ => by simp at he
 | _ :: _, [], _, _, _, _, _, _, he, _ => by simp at he
section
variable {P₀ : Program} {ns : Nat} {C : Ctx P₀ ns} {ops : Array Oper} {d ty : Nat} {ps : String} {af : Array Edge} {gd : Option (Nat × Bool)} {x y : Operand} {u v : AV}
theorem rac_zip {s : AS} {a : Act} {w : World} {F μ} (hs : SatW C s a w F μ) : ∀ {parts : List (Nat × Operand)} {xs : List (Nat × AV)}, parts.map (·.1) = xs.map (·.1) → EnvHas C s.env ((parts.map (·.2)).zip (xs.map (·.2))) → (xs.all fun p => p.2.mem) = true →
  RAc F μ w (xs.map (·.2)) ((parts.map fun p => (p.1, a.eval p.2)).map (·.2))
 | [], [], _, _, _ => rfl
 | (i, o) :: parts, (j, x) :: xs, he, hh, hm => by
  simp only [List.map_cons, List.cons.injEq] at he
  simp only [List.map_cons, List.zip_cons_cons] at hh
  simp only [List.all_cons, Bool.and_eq_true] at hm
  cases hh with
  | cons h1 h2 =>
   obtain ⟨r1, r2⟩ := rv_mem (evalE_ok hs h1) hm.1
   exact ⟨_, _, rfl, r1, r2, rac_zip hs he.2 h2 hm.2⟩
 | [], _ :: _, he, _, _ => by simp at he
 | _ :: _, [], he, _, _ => by simp at he
def aggB (P : Program) (t : TypeId) : Bool := match P.underlying t with
 | some (.struct fs) => fs.toList.all fun f => (tyB P f.type).isSome
 | some (.array _ e) => (tyB P e).isSome
 | _ => false
theorem tyB_cells {P : Program} {t : TypeId} {q : Bool × Nat} (hq : tyB P t = some q) : P.cellsOf t = q.2 := by
 unfold tyB at hq
 cases h1 : P.info? t with
 | none => simp [h1] at hq
 | some i1 =>
  cases h2 : P.underlying t with
  | none => simp [h1, h2] at hq
  | some d1 => simp only [h1, h2, Option.some.injEq] at hq; simp [Program.cellsOf, h1, ← hq]
theorem f_build {t : TypeId} {parts : Array (Nat × Operand)} {xs : List (Nat × AV)} {z z' : AV} (hlt : Nat.blt d C.n = true) (hz : ∃ zv, zeroB P₀ t = some zv ∧ ∀ F μ w, RA F μ w z zv.cells.toList)
  (hagg : aggB P₀ t = true) (hi : parts.toList.map (·.1) = xs.map (·.1)) (hm : (xs.all fun p => p.2.mem) = true) (hok : putsOk P₀ t z xs) (hp : puts z xs = some z') (ha : z'.isAgg = true) :
  Fact C ⟨some d, .build t parts, ty, ps, af, gd⟩ { er := (parts.toList.map (·.2)).zip (xs.map (·.2)), d := some (d, z') } :=
 fact_pure rfl hlt (by intro c h; cases h) fun s a w F μ he _ hs => by
  obtain ⟨zv, hz, hr⟩ := hz
  have hall := rac_zip hs hi he hm
  have hmk : ∀ cells' : Array Value, RA F μ w z' cells'.toList → RV F μ w z' (.agg cells') := fun cells' h => by
   cases z' with
   | res xs => simp only [RA] at h
   | junk => simp only [RA] at h
   | _ => exact ⟨h, by rw [ha]; rfl⟩
  have hrun : ∀ place, (∀ i p, placeB P₀ t i = some p → place i = some p) → ∃ cells', Instr.fill place zv.cells (parts.map fun (i, x) => (i, a.eval x)).toList = some cells' ∧ RA F μ w z' cells'.toList := fun place hpl => by
   obtain ⟨cells', h1, h2, _⟩ := run_fill hpl (vs := parts.toList.map fun p => (p.1, a.eval p.2)) hok hp (hr F μ w) (by rw [← hi]; simp) hall
   refine ⟨cells', ?_, h2⟩
   rw [← h1]; simp
  unfold aggB at hagg
  cases hu : P₀.underlying t with
  | none => simp [hu] at hagg
  | some td =>
   cases td with
   | struct fields =>
    simp only [hu, List.all_eq_true] at hagg
    obtain ⟨cells', h1, h2⟩ := hrun ((fields.map fun f => (f.offset, P₀.cellsOf f.type))[·]?) (fun i p hp => by
     simp only [placeB, hu] at hp
     cases hf : fields[i]? with
     | none => simp [hf] at hp
     | some f =>
      simp only [hf] at hp
      cases hb : tyB P₀ f.type with
      | none => simp [hb] at hp
      | some q =>
       simp only [hb, Option.map_some, Option.some.injEq] at hp
       subst hp
       simp [hf, tyB_cells hb])
    refine ⟨.agg cells', ?_, hmk _ h2⟩
    have hmm : ∀ (l : List Field), (∀ f ∈ l, (tyB P₀ f.type).isSome = true) → (l.mapM fun f => (do Pure.pure (f.offset, ← Go.sizeOf f.type) : Sem _)).run P₀ w = .ok (l.map fun f => (f.offset, P₀.cellsOf f.type)) w := by
     intro l
     induction l with
     | nil => intro _; rfl
     | cons f l ih =>
      intro hl
      obtain ⟨q, hq⟩ := Option.isSome_iff_exists.1 (hl f (by simp))
      rw [List.mapM_cons]
      simp only [Sem.run_bind, run_sizeOf (b := q.1) (n := q.2) hq, Sem.run_pure, Result.andThen_ok, ih (fun g hg => hl g (by simp [hg])), List.map_cons, tyB_cells hq]
    have hm1 := mapM_toList _ fields P₀ w w _ (hmm fields.toList hagg)
    have hm2 : (fields.toList.map fun f => (f.offset, P₀.cellsOf f.type)).toArray = fields.map fun f => (f.offset, P₀.cellsOf f.type) := by rw [← Array.toList_map]
    rw [hm2] at hm1
    simp only [execOp, Instr.build, Sem.run_bind, run_zero hz, Result.andThen_ok, underlying, program, Sem.run, hu, Sem.run_pure, hm1, h1]
   | array m e =>
    simp only [hu] at hagg
    obtain ⟨q, hq⟩ := Option.isSome_iff_exists.1 hagg
    obtain ⟨cells', h1, h2⟩ := hrun (fun i => some (i * q.2, q.2)) (fun i p hp => by
     have e : placeB P₀ t i = (tyB P₀ e).map fun p => (i * p.2, p.2) := by unfold placeB; rw [hu]
     rw [e, hq] at hp; exact hp)
    refine ⟨.agg cells', ?_, hmk _ h2⟩
    simp only [execOp, Instr.build, Sem.run_bind, run_zero hz, Result.andThen_ok, underlying, program, Sem.run, hu, Sem.run_pure, run_sizeOf (b := q.1) (n := q.2) hq, h1]
   | _ => simp [hu] at hagg
def fieldB (P : Program) (t : TypeId) (i : Nat) : Option (Nat × Bool × Nat) := match P.underlying t with
 | some (.struct fs) => match fs[i]? with
  | some f => (tyB P f.type).map fun q => (f.offset, q)
  | none => none
 | _ => none
theorem f_fieldAddr {t : TypeId} {o off n i : Nat} {p : List Nat} {q : Bool × Nat} (hlt : Nat.blt d C.n = true) (ht : fieldB P₀ t i = some (n, q)) (hq : q.2 ≠ 0) :
  Fact C ⟨some d, .fieldAddr t x i, ty, ps, af, gd⟩ { er := [(x, .ptr o off p)], d := some (d, .ptr o (off + n) (p ++ [i])) } :=
 fact_pure rfl hlt (by intro c h; cases h) fun s a w F μ he hh hs => by
  cases he with
  | cons h1 _ =>
   obtain ⟨b, base, tot, hm', hv⟩ := rv_ptr (evalE_ok hs h1)
   unfold fieldB at ht
   cases hu : P₀.underlying t with
   | none => simp [hu] at ht
   | some td =>
    cases td with
    | struct fs =>
     simp only [hu] at ht
     cases hf : fs[i]? with
     | none => simp [hf] at ht
     | some f =>
      simp only [hf] at ht
      cases hb : tyB P₀ f.type with
      | none => simp [hb] at ht
      | some r =>
       simp only [hb, Option.map_some, Option.some.injEq, Prod.mk.injEq] at ht
       obtain ⟨rfl, rfl⟩ := ht
       refine ⟨.pointer (some ⟨b, base + off + f.offset, none⟩), ?_, ?_⟩
       ·simp [execOp, hv, Instr.fieldAt, underlying, program, Sem.run, hu, hf, Instr.sureAddr, fieldPlace, run_sizeOf (b := r.1) (n := r.2) hb, hq, addr_add]
       ·exact ⟨by simp only [RA]; exact ⟨b, base, tot, hm', by simp [Value.cells, Nat.add_assoc]⟩, rfl⟩
    | _ => simp [hu] at ht
theorem f_fieldAddrR {t : TypeId} {n i : Nat} {c z : D} {q : Bool × Nat} (hlt : Nat.blt d C.n = true) (ht : fieldB P₀ t i = some (n, q)) (hq : q.2 ≠ 0) (ha : c.at [i] = some (n, z)) :
  Fact C ⟨some d, .fieldAddr t x i, ty, ps, af, gd⟩ { er := [(x, .pref c)], d := some (d, .pref z) } :=
 fact_pure rfl hlt (by intro c h; cases h) fun s a w F μ he hh hs => by
  cases he with
  | cons h1 _ =>
   obtain ⟨b, off, cc, hv, hF, hbk, hl, hr⟩ := rv_pref (evalE_ok hs h1)
   unfold fieldB at ht
   cases hu : P₀.underlying t with
   | none => simp [hu] at ht
   | some td =>
    cases td with
    | struct fs =>
     simp only [hu] at ht
     cases hf : fs[i]? with
     | none => simp [hf] at ht
     | some f =>
      simp only [hf] at ht
      cases hb : tyB P₀ f.type with
      | none => simp [hb] at ht
      | some r =>
       simp only [hb, Option.map_some, Option.some.injEq, Prod.mk.injEq] at ht
       obtain ⟨rfl, rfl⟩ := ht
       obtain ⟨p1, p2⟩ := rep_at ha hr
       have hlen : ((cc.drop off).take c.size).length = c.size := by simp; omega
       rw [hlen] at p2
       rw [List.drop_take, List.drop_drop, List.take_take, Nat.min_eq_left (by omega)] at p1
       refine ⟨.pointer (some ⟨b, off + f.offset, none⟩), ?_, ?_⟩
       ·simp [execOp, hv, Instr.fieldAt, underlying, program, Sem.run, hu, hf, Instr.sureAddr, fieldPlace, run_sizeOf (b := r.1) (n := r.2) hb, hq, addr_add]
       ·exact ⟨by simp only [RA]; exact ⟨b, off + f.offset, cc, rfl, hF, hbk, by omega, p1⟩, rfl⟩
    | _ => simp [hu] at ht
theorem f_indexStr {t : TypeId} {s : ByteArray} {i : Int} {k : IntKind} {b : UInt8} (hlt : Nat.blt d C.n = true) (ht : P₀.underlying t = some .string) (h0 : 0 ≤ i) (hi : s[i.toNat]? = some b) :
  Fact C ⟨some d, .index t x y, ty, ps, af, gd⟩ { er := [(x, .d (.val (.string s))), (y, .d (.val (.int k i)))], d := some (d, .d (.val (.int .u8 b.toNat))) } :=
 fact_pure rfl hlt (by intro c h; cases h) fun e a w F μ he hh hs => by
  cases he with
  | cons h1 he => cases he with
   | cons h2 _ =>
    have hx := rv_val (evalE_ok hs h1)
    have hy := rv_val (evalE_ok hs h2)
    refine ⟨.int .u8 b.toNat, ?_, rv_val_mk rfl⟩
    simp [execOp, hx, hy, Instr.index, asIntOf, underlying, program, Sem.run, ht, h0, hi]
theorem f_indexV {t : TypeId} {n sz : Nat} {xs : List D} {z : D} {i : Int} {k : IntKind} {e : TypeId} (hlt : Nat.blt d C.n = true) (ht : P₀.underlying t = some (.array n e)) (he : tyB P₀ e = some (z.isAgg, sz)) (h0 : 0 ≤ i) (hi : xs[i.toNat]? = some z) :
  Fact C ⟨some d, .index t x y, ty, ps, af, gd⟩ { er := [(x, .d (.arr sz n xs)), (y, .d (.val (.int k i)))], d := some (d, .d z) } :=
 fact_pure rfl hlt (by intro c h; cases h) fun s a w F μ hen hh hs => by
  cases hen with
  | cons h1 hen => cases hen with
   | cons h2 _ =>
    obtain ⟨cs, hr, hv⟩ := rv_d (evalE_ok hs h1)
    have hy := rv_val (evalE_ok hs h2)
    obtain ⟨j, rfl⟩ := Int.eq_ofNat_of_zero_le h0
    simp only [Int.toNat_natCast] at hi
    simp only [Rep] at hr
    obtain ⟨p1, p2⟩ := repEach_get hr.2 hi
    have hj : j < n := by have := (List.getElem?_eq_some_iff.1 hi).1; omega
    have p1' : RA F μ w (.d z) ((cs.drop (j * sz)).take sz) := by simpa only [RA] using p1
    have hzs : z.size = sz := by have := rep_length p1; simp at this; omega
    have s1 : z.isAgg = false → sz = 1 := fun hz => by rw [← hzs]; exact rep_single p1 hz
    refine ⟨_, ?_, rv_pack p1'⟩
    have h1 : (0 : Int) ≤ (j : Int) ∧ (j : Int) < (n : Int) := ⟨by omega, by omega⟩
    simp only [D.isAgg, pack, cond_true] at hv
    simp only [execOp, hv, hy, Instr.index, asIntOf, Sem.run_bind, Sem.run_pure, Result.andThen_ok, underlying, program, Sem.run, ht, h1, and_self, if_true, Int.toNat_natCast, run_sizeOf he]
    rw [run_partB he p2 s1]
    rfl
theorem f_minI {k : IntKind} {a b : Int} {ats : Array TypeId} (hlt : Nat.blt d C.n = true) :
  Fact C ⟨some d, .call ⟨.builtin .min, #[x, y], ats⟩, ty, ps, af, gd⟩ { er := [(x, .d (.val (.int k a))), (y, .d (.val (.int k b)))], d := some (d, .d (.val (.int k (if b < a then b else a)))) } :=
 fact_pure rfl hlt (by intro c h; cases h) fun s e w F μ he hh hs => by
  cases he with
  | cons h1 he => cases he with
   | cons h2 _ =>
    have hx := rv_val (evalE_ok hs h1)
    have hy := rv_val (evalE_ok hs h2)
    exact ⟨_, by simp [execOp, resolve, hx, hy, invoke, builtin, Builtin.min_, Builtin.min2], rv_val_mk rfl⟩
theorem f_maxI {k : IntKind} {a b : Int} {ats : Array TypeId} (hlt : Nat.blt d C.n = true) :
  Fact C ⟨some d, .call ⟨.builtin .max, #[x, y], ats⟩, ty, ps, af, gd⟩ { er := [(x, .d (.val (.int k a))), (y, .d (.val (.int k b)))], d := some (d, .d (.val (.int k (if b > a then b else a)))) } :=
 fact_pure rfl hlt (by intro c h; cases h) fun s e w F μ he hh hs => by
  cases he with
  | cons h1 he => cases he with
   | cons h2 _ =>
    have hx := rv_val (evalE_ok hs h1)
    have hy := rv_val (evalE_ok hs h2)
    exact ⟨_, by simp [execOp, resolve, hx, hy, invoke, builtin, Builtin.max_, Builtin.max2], rv_val_mk rfl⟩
end
section
variable {P₀ : Program} {ns : Nat} {C : Ctx P₀ ns} {ops : Array Oper} {d ty : Nat} {ps : String} {af : Array Edge} {gd : Option (Nat × Bool)} {x y : Operand} {u v : AV}
theorem f_indexO {t : TypeId} {o off n sz : Nat} {p : List Nat} {c : AV} {xs : List D} {z : D} {i : Int} {k : IntKind} (hlt : Nat.blt d C.n = true) (ht : arrB C.P t = some (n, sz)) (ha : c.at p = some (off, .d (.arr sz n xs))) (h0 : 0 ≤ i) (hi : xs[i.toNat]? = some z) :
  Fact C ⟨some d, .indexAddr t x y, ty, ps, af, gd⟩ { er := [(x, .ptr o off p), (y, .d (.val (.int k i)))], hr := [(o, .av c)], d := some (d, .ptr o (off + i.toNat * sz) (p ++ [i.toNat])) } :=
 fact_pure rfl hlt (by intro c h; cases h) fun s a w F μ he hh hs => by
  cases he with
  | cons h1 he => cases he with
   | cons h2 _ => cases hh with
    | cons h3 _ =>
     obtain ⟨b, base, tot, hm', hv⟩ := rv_ptr (evalE_ok hs h1)
     have hy := rv_val (evalE_ok hs h2)
     obtain ⟨j, rfl⟩ := Int.eq_ofNat_of_zero_le h0
     simp only [Int.toNat_natCast] at hi
     rcases hs.inv.obj o _ h3 with ⟨k1, k2, k3⟩ | ⟨b', base', tot', e, cs, k1, k2, k3, k4, k5, k6, k7⟩
     ·rw [hm'] at k1; cases k1
     ·have hr := (ra_at ha k7).1
      simp only [RA, Rep] at hr
      have hj : j < n := by have := (List.getElem?_eq_some_iff.1 hi).1; rw [hr.1] at this; exact this
      refine ⟨.pointer (some ⟨b, base + off + j * sz, none⟩), ?_, ?_⟩
      ·simp only [execOp, hv, hy, Sem.run_bind, run_indexArr ht hj, Result.andThen_ok, Sem.run_pure]
      ·exact ⟨by simp only [RA]; exact ⟨b, base, tot, hm', by simp [Value.cells, Nat.add_assoc]⟩, rfl⟩
mutual
theorem ren_pure (g : Nat → Nat) : ∀ {x : AV}, x.pure = true → x.ren g = x
 | .d _, _ => rfl
 | .st xs, h => by simp only [AV.ren, rens_pure g h]
 | .ptr .., h => by simp [AV.pure] at h
 | .slc .., h => by simp [AV.pure] at h
 | .fn f a b, h => by simp only [AV.pure, Bool.and_eq_true] at h; simp only [AV.ren, rens_pure g h.1, rens_pure g h.2]
 | .pref _, _ => rfl
 | .res xs, h => by simp only [AV.ren, rens_pure g h]
 | .yld _, h => by simp [AV.pure] at h
 | .junk, _ => rfl
theorem rens_pure (g : Nat → Nat) : ∀ {xs : List AV}, pures xs = true → rens g xs = xs
 | [], _ => rfl
 | x :: xs, h => by simp only [pures, Bool.and_eq_true] at h; simp only [rens, ren_pure g h.1, rens_pure g h.2]
end
theorem f_callP {gs : List (Nat × D)} {f : FuncId} {as : Array Operand} {ats : Array TypeId} {xs : List AV} {r : AV} (hgl : C.globs = gs) (hlt : Nat.blt d C.n = true) (hf : enterB C.P f = true)
  (hl : as.toList.length = xs.length) (hm : (xs.all AV.mem) = true) (hx : pures xs = true) (hr : r.pure = true) (hA : ACall P₀ gs f xs [] (fun r' hp' => r' = r ∧ hp' = [])) :
  Fact C ⟨some d, .call ⟨.value (.func f), as, ats⟩, ty, ps, af, gd⟩ { er := as.toList.zip xs, d := some (d, r) } := by
 have h := acallF_closed 0 hx hA
 rw [ren_pure _ hr, ← hgl] at h
 exact f_call hlt hf hl hm h
theorem f_eqlT {a b : D} {r : Bool} {t t' : TypeId} (hlt : Nat.blt d C.n = true) (ha : Fits P₀ 10000 t a) (hb : Fits P₀ 10000 t b) (ia : a.isAgg = true) (ib : b.isAgg = true) (hg : P₀.eqGuardType P₀.depth t = false) (he : D.eqB a b = r) :
  Fact C ⟨some d, .binOp .eql t x y t', ty, ps, af, gd⟩ { er := [(x, .d a), (y, .d b)], d := some (d, .d (.val (.bool r))) } := by
 subst he; exact f_eqlD hlt ha hb ia ib hg
theorem f_neqT {a b : D} {r : Bool} {t t' : TypeId} (hlt : Nat.blt d C.n = true) (ha : Fits P₀ 10000 t a) (hb : Fits P₀ 10000 t b) (ia : a.isAgg = true) (ib : b.isAgg = true) (hg : P₀.eqGuardType P₀.depth t = false) (he : D.eqB a b = r) :
  Fact C ⟨some d, .binOp .neq t x y t', ty, ps, af, gd⟩ { er := [(x, .d a), (y, .d b)], d := some (d, .d (.val (.bool (!r)))) } := by
 subst he; exact f_neqD hlt ha hb ia ib hg
end
theorem not_t {b : Bool} (h : b = false) : (!b) = true := by rw [h]; rfl
theorem not_f {b : Bool} (h : b = true) : (!b) = false := by rw [h]; rfl
theorem put_map {α : Type} {sz n i : Nat} {xs : List α} {z y : α} (f : α → D) (h : xs[i]? = some z) : AV.put (.d (.arr sz n (xs.map f))) [i] (.d (f y)) = some (.d (.arr sz n ((xs.set i y).map f))) := by simp [AV.put, D.put, h, List.map_set]
theorem at_map {α : Type} {sz n i off : Nat} {xs : List α} {z : α} (f : α → D) (h : xs[i]? = some z) (ho : off = i * sz) : AV.at (.d (.arr sz n (xs.map f))) [i] = some (off, .d (f z)) := by simp [AV.at, D.at, h, ho]
def rd {α : Type} (xs : List α) (i : Int) : Option α := if 0 ≤ i then xs[i.toNat]? else none
theorem rd_some {α : Type} {xs : List α} {i : Int} {x : α} (h : rd xs i = some x) : 0 ≤ i ∧ xs[i.toNat]? = some x := by
 unfold rd at h; split at h
 ·exact ⟨by assumption, h⟩
 ·cases h
theorem rd_map {α β : Type} {xs : List α} {i : Nat} {x : α} (f : α → β) (h : xs[i]? = some x) : (xs.map f)[i]? = some (f x) := by simp [h]
theorem bind_some {α β : Type} {o : Option α} {f : α → Option β} {r : β} (h : o.bind f = some r) : ∃ x, o = some x ∧ f x = some r := by cases o <;> simp_all
theorem ite_t {α : Type} {b : Bool} {x y : α} {r : α} (hb : b = true) (h : (if b = true then x else y) = r) : x = r := by rwa [if_pos hb] at h
theorem ite_f {α : Type} {b : Bool} {x y : α} {r : α} (hb : b = false) (h : (if b = true then x else y) = r) : y = r := by rwa [if_neg (by rw [hb]; simp)] at h
theorem ifp {α : Type} {p : Prop} [Decidable p] {x : Option α} {r : α} (h : (if p then x else none) = some r) : p ∧ x = some r := by split at h <;> simp_all
theorem ifn {α : Type} {p : Prop} [Decidable p] {x : Option α} {r : α} (h : (if p then none else x) = some r) : ¬ p ∧ x = some r := by split at h <;> simp_all
def bAnd (k : IntKind) (x y : Int) : Int := k.wrap (BitVec.ofInt k.bits x &&& BitVec.ofInt k.bits y).toNat
def bOr (k : IntKind) (x y : Int) : Int := k.wrap (BitVec.ofInt k.bits x ||| BitVec.ofInt k.bits y).toNat
def bXor (k : IntKind) (x y : Int) : Int := k.wrap (BitVec.ofInt k.bits x ^^^ BitVec.ofInt k.bits y).toNat
def bNot (k : IntKind) (x y : Int) : Int := k.wrap (BitVec.ofInt k.bits x &&& ~~~ BitVec.ofInt k.bits y).toNat
def bCom (k : IntKind) (x : Int) : Int := k.wrap (BitVec.ofInt k.bits (if k.signed then -1 else k.max) ^^^ BitVec.ofInt k.bits x).toNat
def shl (k : IntKind) (x y : Int) : Int := k.wrap (x * 2 ^ (min y.toNat k.bits))
def shr (k : IntKind) (x y : Int) : Int := x.fdiv (2 ^ (min y.toNat k.bits))
theorem shl_ok {k : IntKind} {x y : Int} (h : 0 ≤ y) : shiftI .shl k x y = some (.int k (shl k x y)) := by simp [shiftI, shl, show ¬ y < 0 from by omega]
theorem shr_ok {k : IntKind} {x y : Int} (h : 0 ≤ y) : shiftI .shr k x y = some (.int k (shr k x y)) := by simp [shiftI, shr, show ¬ y < 0 from by omega]
theorem quo_ok {k : IntKind} {x y : Int} (h : ¬ y = 0) : binI .quo k x y = some (.int k (k.wrap (x.tdiv y))) := by simp [binI, h]
theorem rem_ok {k : IntKind} {x y : Int} (h : ¬ y = 0) : binI .rem k x y = some (.int k (x.tmod y)) := by simp [binI, h]
def sRd (s : ByteArray) (i : Int) : Option UInt8 := if 0 ≤ i then s[i.toNat]? else none
theorem sRd_some {xs : ByteArray} {i : Int} {x : UInt8} (h : sRd xs i = some x) : 0 ≤ i ∧ xs[i.toNat]? = some x := by
 unfold sRd at h; split at h
 ·exact ⟨by assumption, h⟩
 ·cases h
end Bd
