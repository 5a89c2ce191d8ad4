import Derived.Test.YtonfljoibcnlgaaGreatDoorBl
import Derived.Laws.StructEq
namespace Bd
open Go
mutual
def D.eqB : D → D → Bool
 | .val (.int k a), .val (.int k' b) => k == k' && a == b
 | .val (.bool a), .val (.bool b) => a == b
 | .val (.string a), .val (.string b) => a == b
 | .st fs, .st gs => eqBs fs gs
 | .arr _ _ xs, .arr _ _ ys => eqBs xs ys
 | _, _ => false
def eqBs : List D → List D → Bool
 | [], [] => true
 | x :: xs, y :: ys => x.eqB y && eqBs xs ys
 | _, _ => false
end
theorem eqBs_map {α : Type} [DecidableEq α] {f : α → D} (h : ∀ x y, D.eqB (f x) (f y) = decide (x = y)) : ∀ a b : List α, eqBs (a.map f) (b.map f) = decide (a = b)
 | [], [] => rfl
 | [], _ :: _ => by simp [eqBs]
 | _ :: _, [] => by simp [eqBs]
 | x :: a, y :: b => by simp only [List.map_cons, eqBs, h, eqBs_map h a b]; by_cases hx : x = y <;> by_cases hb : a = b <;> simp [hx, hb]
inductive Fits (P : Program) : Nat → TypeId → D → Prop
 | bool {d t b} (h : P.underlying t = some .bool) : Fits P (d + 1) t (.val (.bool b))
 | int {d t k n} (h : P.underlying t = some (.int k)) : Fits P (d + 1) t (.val (.int k n))
 | str {d t s} (h : P.underlying t = some .string) : Fits P (d + 1) t (.val (.string s))
 | arr {d t n e sz : Nat} {xs : List D} {ag : Bool} (h : P.underlying t = some (.array n e)) (ht : tyB P e = some (ag, sz)) (ha : ∀ x ∈ xs, x.isAgg = ag) (hx : ∀ x ∈ xs, Fits P d e x) : Fits P (d + 1) t (.arr sz n xs)
 | st {d t : Nat} {fs : List D} (h : P.underlying t = some (.struct (P.fieldsOf t))) (hs : P.stoodInHeld t = false) (hl : fs.length = (P.fieldsOf t).toList.length)
   (ho : ∀ (i : Nat) (f : Field) (x : D), (P.fieldsOf t).toList[i]? = some f → fs[i]? = some x → f.offset = sizes (fs.take i) ∧ f.name ≠ "_" ∧ tyB P f.type = some (x.isAgg, x.size))
   (hx : ∀ (i : Nat) (f : Field) (x : D), (P.fieldsOf t).toList[i]? = some f → fs[i]? = some x → Fits P d f.type x) : Fits P (d + 1) t (.st fs)
theorem run_partB {P : Program} {w : World} {t : TypeId} {ag : Bool} {n off : Nat} {cs : List Value} (ht : tyB P t = some (ag, n)) (hl : off + n ≤ cs.length) (h1 : ag = false → n = 1) :
  (part t cs.toArray off).run P w = .ok (pack ag ((cs.drop off).take n)) w := by
 unfold part
 simp only [Sem.run_bind, run_isAgg ht, Result.andThen_ok]
 cases ag with
 | true =>
  simp only [if_true, Sem.run_bind, run_sizeOf ht, Result.andThen_ok, Sem.run_pure]
  congr 1
  simp only [pack, cond_true]
  congr 1
  rw [List.extract_toArray]
  simp [List.extract_eq_take_drop]
 | false =>
  have := h1 rfl
  subst this
  have hlt : off < cs.length := by omega
  simp only [Bool.false_eq_true, if_false]
  rw [List.getElem?_toArray, List.getElem?_eq_getElem hlt]
  have hh : ((cs.drop off).take 1).headD undef = cs[off] := by rw [List.drop_eq_getElem_cons hlt]; rfl
  show Result.ok cs[off] w = Result.ok (((cs.drop off).take 1).headD undef) w
  rw [hh]
theorem rep_single {F w} {x : D} {cs : List Value} (h : Rep F w x cs) (hx : x.isAgg = false) : x.size = 1 := by
 have h1 : RA F (fun _ => none) w (.d x) cs := by simpa only [RA] using h
 obtain ⟨v, rfl, _⟩ := ra_single h1 hx
 have := rep_length h
 simpa using this.symm
theorem run_eqLoop {P : Program} {d e sz : Nat} {xs ys : Array Value} {w : World} (g : Nat → Bool) : ∀ l : List Nat, (∀ i ∈ l, ∃ a b, (part e xs (i * sz)).run P w = .ok a w ∧ (part e ys (i * sz)).run P w = .ok b w ∧ (Op.equalIn d e a b).run P w = .ok (g i) w) →
  (forIn l ((none, ()) : Option Bool × Unit) fun i __s => (do
      let __do_lift ← part e xs (i * sz)
      let __do_lift_1 ← part e ys (i * sz)
      let __do_lift ← Op.equalIn d e __do_lift __do_lift_1
      if (!__do_lift) = true then pure (ForInStep.done (some false, ())) else pure (ForInStep.yield (none, ())) : Sem _)).run P w = .ok (if l.all g then (none, ()) else (some false, ())) w
 | [], _ => rfl
 | i :: l, h => by
  obtain ⟨a, b, h1, h2, h3⟩ := h i (by simp)
  have ih := run_eqLoop (P := P) (d := d) (e := e) (sz := sz) (xs := xs) (ys := ys) (w := w) g l (fun j hj => h j (by simp [hj]))
  rw [List.forIn_cons]
  simp only [Sem.run_bind, h1, h2, h3, Result.andThen_ok]
  cases hg : g i with
  | false => simp [hg]
  | true => simp only [Bool.not_true, Bool.false_eq_true, if_false, Sem.run_pure, Result.andThen_ok, ih, List.all_cons, hg, Bool.true_and]
theorem eqBs_all : ∀ {xs ys : List D}, xs.length = ys.length → eqBs xs ys = (List.range xs.length).all fun i => (xs.getD i default).eqB (ys.getD i default)
 | [], [], _ => rfl
 | x :: xs, y :: ys, h => by
  have := eqBs_all (xs := xs) (ys := ys) (by simpa using h)
  simp only [eqBs, this, List.length_cons, List.range_succ_eq_map, List.all_cons, List.getD_cons_zero, List.all_map]
  rfl
 | [], _ :: _, h => by simp at h
 | _ :: _, [], h => by simp at h
theorem equalIn_fits {P : Program} {F : Nat → Prop} {w : World} {d : Nat} {t : TypeId} {x : D} (hx : Fits P d t x) : ∀ {y : D} {cs ds : List Value}, Fits P d t y → Rep F w x cs → Rep F w y ds →
  (Op.equalIn d t (pack x.isAgg cs) (pack y.isAgg ds)).run P w = .ok (D.eqB x y) w := by
 induction hx with
 | @bool d t b h =>
  intro y cs ds hy r1 r2
  cases hy with
  | bool h' =>
   simp only [Rep] at r1 r2
   rw [r1.1, r2.1]
   exact run_equalIn_bool' w d t _ _ h
  | int h' => rw [h] at h'; cases h'
  | str h' => rw [h] at h'; cases h'
  | arr h' => rw [h] at h'; cases h'
  | st h' => rw [h] at h'; cases h'
 | @int d t k n h =>
  intro y cs ds hy r1 r2
  cases hy with
  | bool h' => rw [h] at h'; cases h'
  | @int _ _ k' n' h' =>
   rw [h] at h'; cases h'
   simp only [Rep] at r1 r2
   rw [r1.1, r2.1]
   rw [show D.eqB (D.val (Value.int k n)) (D.val (Value.int k n')) = (n == n') from by simp [D.eqB]]
   exact run_equalIn_int w d t k _ _ _ h
  | str h' => rw [h] at h'; cases h'
  | arr h' => rw [h] at h'; cases h'
  | st h' => rw [h] at h'; cases h'
 | @str d t s h =>
  intro y cs ds hy r1 r2
  cases hy with
  | bool h' => rw [h] at h'; cases h'
  | int h' => rw [h] at h'; cases h'
  | @str _ _ s' h' =>
   simp only [Rep] at r1 r2
   rw [r1.1, r2.1]
   have := run_equalIn_string (P := P) w d t s s' h
   rw [← beq_toListBytes] at this
   exact this
  | arr h' => rw [h] at h'; cases h'
  | st h' => rw [h] at h'; cases h'
 | @arr d t n e sz xs ag h ht ha hx ih =>
  intro y cs ds hy r1 r2
  cases hy with
  | bool h' => rw [h] at h'; cases h'
  | int h' => rw [h] at h'; cases h'
  | str h' => rw [h] at h'; cases h'
  | st h' => rw [h] at h'; cases h'
  | @arr _ _ n' e' sz' ys ag' h' ht' ha' hx' =>
   rw [h] at h'; cases h'
   rw [ht] at ht'; cases ht'
   simp only [Rep] at r1 r2
   simp only [D.isAgg, pack, cond_true, D.eqB]
   simp only [Op.equalIn, Sem.run_bind, underlying, program, Sem.run, Result.andThen_ok, h, Sem.run_pure, run_sizeOf ht]
   simp only [Std.Legacy.Range.forIn_eq_forIn_range']
   have hall : ∀ i ∈ List.range' 0 n, ∃ a b, (part e cs.toArray (i * sz)).run P w = .ok a w ∧ (part e ds.toArray (i * sz)).run P w = .ok b w ∧ (Op.equalIn d e a b).run P w = .ok ((xs.getD i default).eqB (ys.getD i default)) w := by
    intro i hi
    have hi : i < n := by simpa using hi
    have e1 : xs[i]? = some xs[i] := List.getElem?_eq_getElem (by omega)
    have e2 : ys[i]? = some ys[i] := List.getElem?_eq_getElem (by omega)
    obtain ⟨p1, p2⟩ := repEach_get r1.2 e1
    obtain ⟨q1, q2⟩ := repEach_get r2.2 e2
    have a1 := ha _ (List.getElem_mem (l := xs) (n := i) (by omega))
    have a2 := ha' _ (List.getElem_mem (l := ys) (n := i) (by omega))
    have s1 : ag = false → sz = 1 := fun hz => by have := rep_single p1 (a1.trans hz); have hl := rep_length p1; simp at hl; omega
    refine ⟨_, _, run_partB ht p2 s1, run_partB ht q2 s1, ?_⟩
    have := ih _ (List.getElem_mem (l := xs) (n := i) (by omega)) (hx' _ (List.getElem_mem (l := ys) (n := i) (by omega))) p1 q1
    rw [a1, a2] at this
    rw [this]
    simp [List.getD_eq_getElem?_getD, e1, e2]
   have hloop := run_eqLoop (P := P) (d := d) (e := e) (sz := sz) (xs := cs.toArray) (ys := ds.toArray) (w := w) (fun i => (xs.getD i default).eqB (ys.getD i default)) (List.range' 0 n) hall
   have hr : ([:n] : Std.Legacy.Range).size = n := by simp [Std.Legacy.Range.size]
   rw [hr, hloop, eqBs_all (by rw [r1.1, r2.1]), r1.1, ← List.range_eq_range']
   simp only [Result.andThen_ok]
   cases hc : (List.range n).all fun i => (xs.getD i default).eqB (ys.getD i default) <;> simp [hc]
 | @st d t fs h hs hl ho hx ih =>
  intro y cs ds hy r1 r2
  cases hy with
  | bool h' => rw [h] at h'; cases h'
  | int h' => rw [h] at h'; cases h'
  | str h' => rw [h] at h'; cases h'
  | arr h' => rw [h] at h'; cases h'
  | @st _ _ gs h' hs' hl' ho' hx' =>
   simp only [Rep] at r1 r2
   simp only [D.isAgg, pack, cond_true, D.eqB]
   rw [run_equalIn_struct w d t _ _ h hs]
   have key : ∀ (k : Nat) (fl : List Field) (a b : List D), (P.fieldsOf t).toList.drop k = fl → fs.drop k = a → gs.drop k = b → (Op.eqFields d cs.toArray ds.toArray fl).run P w = .ok (eqBs a b) w := by
    intro k fl
    induction fl generalizing k with
    | nil =>
     intro a b e1 e2 e3
     have : (P.fieldsOf t).toList.length ≤ k := by simpa using e1
     have ea : a = [] := by rw [← e2]; simp; omega
     have eb : b = [] := by rw [← e3]; simp; omega
     subst ea; subst eb
     simp [Op.eqFields, eqBs]
    | cons f fl ihf =>
     intro a b e1 e2 e3
     have hk : k < (P.fieldsOf t).toList.length := by
      by_cases hk : k < (P.fieldsOf t).toList.length
      ·exact hk
      ·rw [List.drop_eq_nil_of_le (by omega)] at e1; cases e1
     have g1 : (P.fieldsOf t).toList[k]? = some f := by
      rw [List.drop_eq_getElem_cons hk] at e1; rw [List.getElem?_eq_getElem hk]; simp at e1; simpa using e1.1
     have g2 : fs[k]? = some fs[k] := List.getElem?_eq_getElem (by omega)
     have g3 : gs[k]? = some gs[k] := List.getElem?_eq_getElem (by omega)
     rw [List.drop_eq_getElem_cons (by omega)] at e1 e2 e3
     subst e2; subst e3
     obtain ⟨o1, o2, o3⟩ := ho k f _ g1 g2
     obtain ⟨o1', _, o3'⟩ := ho' k f _ g1 g3
     rw [o3] at o3'
     simp only [Option.some.injEq, Prod.mk.injEq] at o3'
     obtain ⟨p1, p2⟩ := repAll_get r1 g2
     obtain ⟨q1, q2⟩ := repAll_get r2 g3
     have s1 : fs[k].isAgg = false → fs[k].size = 1 := fun hz => rep_single p1 hz
     rw [← o1] at p1 p2
     rw [← o1'] at q1 q2
     rw [← o3'.2] at q1 q2
     have := ih k f _ g1 g2 (hx' k f _ g1 g3) p1 q1
     rw [← o3'.1] at this
     have hrest := ihf (k + 1) (fs.drop (k + 1)) (gs.drop (k + 1)) (by simpa using (List.cons.inj e1).2) rfl rfl
     simp only [Op.eqFields, o2, ne_eq, not_false_eq_true, if_true, Sem.run_bind, run_partB o3 p2 s1, run_partB o3 q2 s1, Result.andThen_ok, this, Sem.run_ite, Sem.run_pure, hrest, eqBs]
     cases D.eqB fs[k] gs[k] <;> simp
   exact key 0 _ _ _ (by simp) (by simp) (by simp)
section
variable {P₀ : Program} {ns : Nat} {C : Ctx P₀ ns} {ops : Array Oper} {d ty : Nat} {ps : String} {af : Array Edge} {gd : Option (Nat × Bool)} {x y : Operand}
theorem rv_d {F μ w} {x : D} {v : Value} (h : RV F μ w (.d x) v) : ∃ cs, Rep F w x cs ∧ v = pack x.isAgg cs := by
 obtain ⟨h1, h2⟩ := h
 simp only [RA, AV.isAgg] at h1 h2
 refine ⟨_, h1, ?_⟩
 rw [← h2]
 cases v <;> simp [aggV, pack, Value.cells]
theorem run_eqGuard_ok {P : Program} {op : BinOp} {t : TypeId} {x y : Operand} {a b : Value} {w : World} (ha : aggV a = true) (hb : aggV b = true) (h : P.eqGuardType P.depth t = false) : (eqGuard op t x y a b).run P w = .ok () w := by
 cases a <;> simp [aggV] at ha
 cases b <;> simp [aggV] at hb
 exact run_eqGuard_agg _ _ _ _ _ _ _ h
theorem f_eqlD {a b : D} {t t' : TypeId} (hlt : Nat.blt d C.n = true) (ha : Fits P₀ 10000 t a) (hb : Fits P₀ 10000 t b) (ia : a.isAgg = true) (ib : b.isAgg = true) (hg : P₀.eqGuardType P₀.depth t = false) :
  Fact C ⟨some d, .binOp .eql t x y t', ty, ps, af, gd⟩ { er := [(x, .d a), (y, .d b)], d := some (d, .d (.val (.bool (D.eqB a b)))) } :=
 fact_pure rfl hlt (by intro c h; cases h) fun s e w F μ he _ hs => by
  cases he with
  | cons h1 he => cases he with
   | cons h2 _ =>
    obtain ⟨cs, r1, e1⟩ := rv_d (evalE_ok hs h1)
    obtain ⟨ds, r2, e2⟩ := rv_d (evalE_ok hs h2)
    have heq := equalIn_fits ha hb r1 r2
    refine ⟨.bool (D.eqB a b), ?_, rv_val_mk rfl⟩
    rw [ia] at e1 heq
    rw [ib] at e2 heq
    have hgd := run_eqGuard_ok (P := P₀) (op := .eql) (t := t) (x := x) (y := y) (a := pack true cs) (b := pack true ds) (w := w) rfl rfl hg
    simp only [execOp, e1, e2, Sem.run_bind, hgd, Result.andThen_ok]
    have : (binOp .eql t (pack true cs) (pack true ds)).run P₀ w = .ok (.bool (D.eqB a b)) w := by
     simp only [pack, cond_true] at heq ⊢
     rw [run_eql_struct, heq]; rfl
    rw [this]; rfl
theorem f_neqD {a b : D} {t t' : TypeId} (hlt : Nat.blt d C.n = true) (ha : Fits P₀ 10000 t a) (hb : Fits P₀ 10000 t b) (ia : a.isAgg = true) (ib : b.isAgg = true) (hg : P₀.eqGuardType P₀.depth t = false) :
  Fact C ⟨some d, .binOp .neq t x y t', ty, ps, af, gd⟩ { er := [(x, .d a), (y, .d b)], d := some (d, .d (.val (.bool (!(D.eqB a b))))) } :=
 fact_pure rfl hlt (by intro c h; cases h) fun s e w F μ he _ hs => by
  cases he with
  | cons h1 he => cases he with
   | cons h2 _ =>
    obtain ⟨cs, r1, e1⟩ := rv_d (evalE_ok hs h1)
    obtain ⟨ds, r2, e2⟩ := rv_d (evalE_ok hs h2)
    have heq := equalIn_fits ha hb r1 r2
    refine ⟨.bool (!(D.eqB a b)), ?_, rv_val_mk rfl⟩
    rw [ia] at e1 heq
    rw [ib] at e2 heq
    have hgd := run_eqGuard_ok (P := P₀) (op := .neq) (t := t) (x := x) (y := y) (a := pack true cs) (b := pack true ds) (w := w) rfl rfl hg
    simp only [execOp, e1, e2, Sem.run_bind, hgd, Result.andThen_ok]
    have : (binOp .neq t (pack true cs) (pack true ds)).run P₀ w = .ok (.bool (!(D.eqB a b))) w := by
     simp only [pack, cond_true] at heq ⊢
     rw [run_neq_struct, heq]; rfl
    rw [this]; rfl
end
end Bd
