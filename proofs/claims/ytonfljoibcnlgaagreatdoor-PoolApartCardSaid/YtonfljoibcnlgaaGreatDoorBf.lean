import Derived.Test.YtonfljoibcnlgaaGreatDoorBe
namespace Bd
open Go
section
variable {P₀ : Program} {ns : Nat} {C : Ctx P₀ ns} {ops : Array Oper}
theorem wpIn_value {o : Oper} {a : Act} {w w' : World} {v : Value} {nx : Act → World → Prop} {Q : Exit → Act → World → Prop} (hd : ∀ c, o.op ≠ .defer c)
    (h : (execOp a.eval o).run C.P w = .ok (.value v) w') (k : nx (a.put o.dst v) w') : o.wpIn C.fence 0 C.P a w nx Q := by
  refine ⟨fun f _ => C.fence_fn f, ?_⟩
  rw [Oper.semAt_eq _ _ _ hd, h]
  exact k
theorem wpIn_skip' {o : Oper} {a : Act} {w w' : World} {nx : Act → World → Prop} {Q : Exit → Act → World → Prop} (hd : ∀ c, o.op ≠ .defer c)
    (h : (execOp a.eval o).run C.P w = .ok .skip w') (k : nx (a.put o.dst undef) w') : o.wpIn C.fence 0 C.P a w nx Q := by
  refine ⟨fun f _ => C.fence_fn f, ?_⟩
  rw [Oper.semAt_eq _ _ _ hd, h]
  exact k
theorem sat_put {s : AS} {a : Act} {w : World} {F μ} {d : Nat} {x : AV} {v : Value} (h : SatW C s a w F μ) (hlt : d < C.n) (hv : RV F μ w x v) :
    SatW C ⟨(d, x) :: s.env, s.hp, s.dfs⟩ (a.put (some d) v) w F μ :=
  ⟨h.inv, envOk_put h.env (by rw [h.size]; exact hlt) hv, by simp [Act.put, h.size], by simpa [Act.put] using h.dfs, h.fr, h.f0, h.base, h.globs, h.fm⟩
theorem fact_pure {o : Oper} {rd : List (Operand × AV)} {hr : List (Nat × HO)} {d : Nat} {x : AV} (hdst : o.dst = some d) (hlt : Nat.blt d C.n = true) (hnd : ∀ c, o.op ≠ .defer c)
    (h : ∀ s a w F μ, EnvHas C s.env rd → HeapHas s.hp hr → SatW C s a w F μ → ∃ v, (execOp a.eval o).run C.P w = .ok (.value v) w ∧ RV F μ w x v) :
    Fact C o { er := rd, hr := hr, d := some (d, x) } := by
  intro s hp a w nx Q hs k
  obtain ⟨F, μ, hs⟩ := hs
  obtain ⟨v, h1, h2⟩ := h s a w F μ hp.er hp.hr hs
  refine wpIn_value hnd h1 (k _ _ ⟨F, μ, ?_⟩)
  rw [hdst]
  exact sat_put hs (by simpa [Nat.blt_eq] using hlt) h2
theorem step_plain {o : Oper} {f : FD} (h : Fact C o f) (hg : o.guard = none) : Step C ops o f := by
  intro s hp a w nx Q hs k
  have : Region.wanted o (yielded ops a.tmps) = true := by simp [Region.wanted, hg]
  rw [if_pos this]
  exact h s hp a w nx Q hs k
theorem yielded_ok {s : AS} {a : Act} {w : World} {j g : Nat} {b : Bool} (hs : Sat C s a w) (hj : ((ops[j]?).bind (·.dst)) = some g) (he : Ev C s.env (.tmp g) (.d (.val (.bool b)))) :
    yielded ops a.tmps j = some b := by
  obtain ⟨F, μ, hs⟩ := hs
  have h1 : a.tmps.getD g undef = _ := rv_val (evalE_ok hs he)
  unfold yielded
  rw [hj]
  simp only [Option.bind_some]
  by_cases hlt : g < a.tmps.size
  · have : a.tmps[g]? = some (.bool b) := by
      rw [Array.getD_eq_getD_getElem?, Array.getElem?_eq_getElem hlt] at h1
      rw [Array.getElem?_eq_getElem hlt]; simpa using h1
    rw [this]
  · rw [Array.getD_eq_getD_getElem?, Array.getElem?_eq_none (by omega)] at h1
    simp [undef] at h1
theorem step_on {o : Oper} {f : FD} {j g : Nat} {b want : Bool} (h : Fact C o f) (hg : o.guard = some (j, want)) (hj : ((ops[j]?).bind (·.dst)) = some g) (hb : b = want) :
    Step C ops o { f with er := (.tmp g, .d (.val (.bool b))) :: f.er } := by
  intro s hp a w nx Q hs k
  cases hp.er with
  | cons h1 h2 =>
    have : Region.wanted o (yielded ops a.tmps) = true := by simp [Region.wanted, hg, yielded_ok hs hj h1, hb]
    rw [if_pos this]
    exact h s ⟨h2, hp.hr, hp.hn⟩ a w nx Q hs k
theorem step_off {o : Oper} {j g d : Nat} {b want : Bool} (hg : o.guard = some (j, want)) (hj : ((ops[j]?).bind (·.dst)) = some g) (hb : b = !want) (hd : o.dst = some d) (hlt : Nat.blt d C.n = true) :
    Step C ops o { er := [(.tmp g, .d (.val (.bool b)))], d := some (d, .res []) } := by
  intro s hp a w nx Q hs k
  cases hp.er with
  | cons h1 h2 =>
    have : Region.wanted o (yielded ops a.tmps) = false := by simp [Region.wanted, hg, yielded_ok hs hj h1, hb]
    rw [if_neg (by rw [this]; simp), hd]
    obtain ⟨F, μ, hs⟩ := hs
    exact k _ _ ⟨F, μ, sat_put hs (by simpa [Nat.blt_eq] using hlt) ⟨[], rfl, rfl⟩⟩
theorem step_off' {o : Oper} {j g : Nat} {b want : Bool} (hg : o.guard = some (j, want)) (hj : ((ops[j]?).bind (·.dst)) = some g) (hb : b = !want) (hd : o.dst = none) :
    Step C ops o { er := [(.tmp g, .d (.val (.bool b)))] } := by
  intro s hp a w nx Q hs k
  cases hp.er with
  | cons h1 h2 =>
    have : Region.wanted o (yielded ops a.tmps) = false := by simp [Region.wanted, hg, yielded_ok hs hj h1, hb]
    rw [if_neg (by rw [this]; simp), hd]
    exact k _ _ hs
theorem yielded_un {s : AS} {a : Act} {w : World} {j g : Nat} (hs : Sat C s a w) (hj : ((ops[j]?).bind (·.dst)) = some g) (he : Ev C s.env (.tmp g) (.res [])) :
    yielded ops a.tmps j = none := by
  obtain ⟨F, μ, hs⟩ := hs
  have h1 : RV F μ w (.res []) (a.tmps.getD g undef) := evalE_ok hs he
  obtain ⟨vs, h2, h3⟩ := h1
  simp only [RAc] at h3
  subst h3
  unfold yielded
  rw [hj]
  simp only [Option.bind_some]
  by_cases hlt : g < a.tmps.size
  · have : a.tmps[g]? = some (.tuple #[]) := by
      rw [Array.getD_eq_getD_getElem?, Array.getElem?_eq_getElem hlt] at h2
      rw [Array.getElem?_eq_getElem hlt]; simpa using h2
    rw [this]
  · rw [Array.getElem?_eq_none (by omega)]
theorem step_offu {o : Oper} {j g d : Nat} {want : Bool} (hg : o.guard = some (j, want)) (hj : ((ops[j]?).bind (·.dst)) = some g) (hd : o.dst = some d) (hlt : Nat.blt d C.n = true) :
    Step C ops o { er := [(.tmp g, .res [])], d := some (d, .res []) } := by
  intro s hp a w nx Q hs k
  cases hp.er with
  | cons h1 h2 =>
    have : Region.wanted o (yielded ops a.tmps) = false := by simp [Region.wanted, hg, yielded_un hs hj h1]
    rw [if_neg (by rw [this]; simp), hd]
    obtain ⟨F, μ, hs⟩ := hs
    exact k _ _ ⟨F, μ, sat_put hs (by simpa [Nat.blt_eq] using hlt) ⟨[], rfl, rfl⟩⟩
variable {d ty : Nat} {ps : String} {af : Array Edge} {gd : Option (Nat × Bool)} {x y : Operand} {u v : AV}
theorem f_move (hlt : Nat.blt d C.n = true) : Fact C ⟨some d, .move x, ty, ps, af, gd⟩ { er := [(x, u)], d := some (d, u) } :=
  fact_pure rfl hlt (by intro c h; cases h) fun s a w F μ he _ hs => by
    cases he with
    | cons h1 _ => exact ⟨a.eval x, rfl, evalE_ok hs h1⟩
theorem f_assign (hlt : Nat.blt d C.n = true) : Fact C ⟨some d, .assign x, ty, ps, af, gd⟩ { er := [(x, u)], d := some (d, u) } :=
  fact_pure rfl hlt (by intro c h; cases h) fun s a w F μ he _ hs => by
    cases he with
    | cons h1 _ => exact ⟨a.eval x, rfl, evalE_ok hs h1⟩
theorem f_pick_true {c : Operand} {b : Bool} (hlt : Nat.blt d C.n = true) (hb : b = true) : Fact C ⟨some d, .pick c x y, ty, ps, af, gd⟩ { er := [(c, .d (.val (.bool b))), (x, u)], d := some (d, u) } :=
  fact_pure rfl hlt (by intro c h; cases h) fun s a w F μ he _ hs => by
    cases he with
    | cons h1 he => cases he with
      | cons h2 _ =>
        have hc := rv_val (evalE_ok hs h1)
        exact ⟨a.eval x, by simp [execOp, hc, asBool, hb], evalE_ok hs h2⟩
theorem f_pick_false {c : Operand} {b : Bool} (hlt : Nat.blt d C.n = true) (hb : b = false) : Fact C ⟨some d, .pick c x y, ty, ps, af, gd⟩ { er := [(c, .d (.val (.bool b))), (y, u)], d := some (d, u) } :=
  fact_pure rfl hlt (by intro c h; cases h) fun s a w F μ he _ hs => by
    cases he with
    | cons h1 he => cases he with
      | cons h2 _ =>
        have hc := rv_val (evalE_ok hs h1)
        exact ⟨a.eval y, by simp [execOp, hc, asBool, hb], evalE_ok hs h2⟩
def shiftI (op : BinOp) (k : IntKind) (a : Int) (b : Int) : Option Value :=
  if b < 0 then none else match op with
    | .shl => some (.int k (k.wrap (a * 2 ^ (min b.toNat k.bits))))
    | .shr => some (.int k (a.fdiv (2 ^ (min b.toNat k.bits))))
    | _ => none
def bitsI (op : BinOp) (k : IntKind) (x y : Int) : Option Int :=
  match op with
  | .and => some (k.wrap (BitVec.ofInt k.bits x &&& BitVec.ofInt k.bits y).toNat)
  | .or => some (k.wrap (BitVec.ofInt k.bits x ||| BitVec.ofInt k.bits y).toNat)
  | .xor => some (k.wrap (BitVec.ofInt k.bits x ^^^ BitVec.ofInt k.bits y).toNat)
  | .andNot => some (k.wrap (BitVec.ofInt k.bits x &&& ~~~ BitVec.ofInt k.bits y).toNat)
  | _ => none
def binI (op : BinOp) (k : IntKind) (x y : Int) : Option Value :=
  match op with
  | .add => some (.int k (k.wrap (x + y)))
  | .sub => some (.int k (k.wrap (x - y)))
  | .mul => some (.int k (k.wrap (x * y)))
  | .quo => if y = 0 then none else some (.int k (k.wrap (x.tdiv y)))
  | .rem => if y = 0 then none else some (.int k (x.tmod y))
  | .eql => some (.bool (x == y))
  | .neq => some (.bool (x != y))
  | .lss => some (.bool (decide (x < y)))
  | .leq => some (.bool (decide (x ≤ y)))
  | .gtr => some (.bool (decide (x > y)))
  | .geq => some (.bool (decide (x ≥ y)))
  | .and | .or | .xor | .andNot => (bitsI op k x y).map (.int k)
  | _ => none
theorem run_eqGuard_int {P : Program} {op : BinOp} {t : TypeId} {x y : Operand} {k k' : IntKind} {a b : Int} {w : World} : (eqGuard op t x y (.int k a) (.int k' b)).run P w = .ok () w := by
  unfold eqGuard; cases op <;> rfl
theorem f_binI {op : BinOp} {k : IntKind} {a b : Int} {t t' : TypeId} {r : Value} (hlt : Nat.blt d C.n = true) (hr : binI op k a b = some r) (hl : leafV r = true) :
    Fact C ⟨some d, .binOp op t x y t', ty, ps, af, gd⟩ { er := [(x, .d (.val (.int k a))), (y, .d (.val (.int k b)))], d := some (d, .d (.val r)) } :=
  fact_pure rfl hlt (by intro c h; cases h) fun s e w F μ he _ hs => by
    cases he with
    | cons h1 he => cases he with
      | cons h2 _ =>
        have hx := rv_val (evalE_ok hs h1)
        have hy := rv_val (evalE_ok hs h2)
        refine ⟨r, ?_, rv_val_mk hl⟩
        simp only [execOp, hx, hy, Sem.run_bind, run_eqGuard_int, Result.andThen_ok]
        have : (binOp op t (.int k a) (.int k b)).run C.P w = .ok r w := by
          cases op <;> simp only [binI, bitsI, Option.map_some, Option.some.injEq, reduceCtorEq] at hr <;>
            first
              | (subst hr; simp [binOp, Op.intArith, Op.intBits, Op.intCmp]; done)
              | (split at hr; · cases hr
                 · rename_i hz; simp only [Option.some.injEq] at hr; subst hr; simp [binOp, Op.intDiv, hz])
        rw [this]; rfl
theorem f_shift {op : BinOp} {k k' : IntKind} {a b : Int} {t t' : TypeId} {r : Value} (hlt : Nat.blt d C.n = true) (hr : shiftI op k a b = some r) (hl : leafV r = true) :
    Fact C ⟨some d, .binOp op t x y t', ty, ps, af, gd⟩ { er := [(x, .d (.val (.int k a))), (y, .d (.val (.int k' b)))], d := some (d, .d (.val r)) } :=
  fact_pure rfl hlt (by intro c h; cases h) fun s e w F μ he _ hs => by
    cases he with
    | cons h1 he => cases he with
      | cons h2 _ =>
        have hx := rv_val (evalE_ok hs h1)
        have hy := rv_val (evalE_ok hs h2)
        refine ⟨r, ?_, rv_val_mk hl⟩
        simp only [execOp, hx, hy, Sem.run_bind, run_eqGuard_int, Result.andThen_ok]
        unfold shiftI at hr
        split at hr
        · cases hr
        · rename_i hb
          have : (binOp op t (.int k a) (.int k' b)).run C.P w = .ok r w := by
            cases op <;> simp only [reduceCtorEq, Option.some.injEq] at hr <;> (subst hr; simp [binOp, Op.shift, hb])
          rw [this]; rfl
theorem f_not {b : Bool} {t : TypeId} (hlt : Nat.blt d C.n = true) : Fact C ⟨some d, .unOp .not t x, ty, ps, af, gd⟩ { er := [(x, .d (.val (.bool b)))], d := some (d, .d (.val (.bool (!b)))) } :=
  fact_pure rfl hlt (by intro c h; cases h) fun s e w F μ he _ hs => by
    cases he with
    | cons h1 _ =>
      have hx := rv_val (evalE_ok hs h1)
      exact ⟨.bool (!b), by simp [execOp, hx, Op.unary], rv_val_mk rfl⟩
theorem f_neg {k : IntKind} {n : Int} {t : TypeId} (hlt : Nat.blt d C.n = true) : Fact C ⟨some d, .unOp .neg t x, ty, ps, af, gd⟩ { er := [(x, .d (.val (.int k n)))], d := some (d, .d (.val (.int k (k.wrap (0 - n))))) } :=
  fact_pure rfl hlt (by intro c h; cases h) fun s e w F μ he _ hs => by
    cases he with
    | cons h1 _ =>
      have hx := rv_val (evalE_ok hs h1)
      exact ⟨_, by simp [execOp, hx, Op.unary, Op.intArith], rv_val_mk rfl⟩
theorem f_compl {k : IntKind} {n : Int} {t : TypeId} (hlt : Nat.blt d C.n = true) : Fact C ⟨some d, .unOp .xor t x, ty, ps, af, gd⟩
    { er := [(x, .d (.val (.int k n)))], d := some (d, .d (.val (.int k (k.wrap (BitVec.ofInt k.bits (if k.signed then -1 else k.max) ^^^ BitVec.ofInt k.bits n).toNat)))) } :=
  fact_pure rfl hlt (by intro c h; cases h) fun s e w F μ he _ hs => by
    cases he with
    | cons h1 _ =>
      have hx := rv_val (evalE_ok hs h1)
      exact ⟨_, by simp [execOp, hx, Op.unary, Op.intBits], rv_val_mk rfl⟩
theorem f_convI {k k' : IntKind} {n : Int} {t t' : TypeId} {td : TypeDesc} (hlt : Nat.blt d C.n = true) (hs' : C.P.underlying t = some td) (ht : C.P.underlying t' = some (.int k')) :
    Fact C ⟨some d, .convert t t' x, ty, ps, af, gd⟩ { er := [(x, .d (.val (.int k n)))], d := some (d, .d (.val (.int k' (k'.wrap n)))) } :=
  fact_pure rfl hlt (by intro c h; cases h) fun s e w F μ he _ hs => by
    cases he with
    | cons h1 _ =>
      have hx := rv_val (evalE_ok hs h1)
      refine ⟨.int k' (k'.wrap n), ?_, rv_val_mk rfl⟩
      simp only [execOp, hx, convert, underlying, program, Sem.run_bind, Sem.run, Result.andThen_ok, hs', ht, Sem.run_pure]
      cases td <;> rfl
theorem f_extract {xs : List AV} {i : Nat} (hlt : Nat.blt d C.n = true) (hi : xs[i]? = some v) : Fact C ⟨some d, .extract x i, ty, ps, af, gd⟩ { er := [(x, .res xs)], d := some (d, v) } :=
  fact_pure rfl hlt (by intro c h; cases h) fun s e w F μ he _ hs => by
    cases he with
    | cons h1 _ =>
      obtain ⟨vs, hv, hr⟩ := evalE_ok hs h1
      obtain ⟨q, h2, h3, h4⟩ := rac_get hr hi
      refine ⟨q, by simp [execOp, hv, Instr.extract, h2], ?_⟩
      cases v with
      | res xs => simp only [RA] at h3
      | junk => simp only [RA] at h3
      | _ => exact ⟨h3, h4⟩
end
end Bd
