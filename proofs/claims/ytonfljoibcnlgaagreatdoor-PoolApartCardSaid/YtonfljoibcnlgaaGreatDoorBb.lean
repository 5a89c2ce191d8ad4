import Derived.Test.YtonfljoibcnlgaaGreatDoorBa
namespace Bd
open Go
inductive AV where
 | d (x : D)
 | st (xs : List AV)
 | ptr (o off : Nat) (path : List Nat)
 | slc (o off len sz : Nat)
 | fn (f : Fn) (first caps : List AV)
 | pref (x : D)
 | res (xs : List AV)
 | yld (o : Nat)
 | junk
 deriving Inhabited
@[reducible] def AV.int (k : IntKind) (n : Int) : AV := .d (.val (.int k n))
@[reducible] def AV.bool (b : Bool) : AV := .d (.val (.bool b))
mutual
def AV.size : AV → Nat
 | .d x => x.size
 | .st xs => asizes xs
 | _ => 1
def asizes : List AV → Nat
 | [] => 0
 | x :: xs => x.size + asizes xs
end
def D.isAgg : D → Bool
 | .st _ => true
 | .arr .. => true
 | _ => false
def AV.isAgg : AV → Bool
 | .d x => x.isAgg
 | .st _ => true
 | _ => false
def aggV : Value → Bool
 | .agg _ => true
 | _ => false
inductive Place where
 | nil
 | at (b base tot : Nat)
abbrev Mu := Nat → Option Place
mutual
def RA (F : Nat → Prop) (μ : Mu) (w : World) : AV → List Value → Prop
 | .d x, cs => Rep F w x cs
 | .st xs, cs => RAs F μ w xs cs
 | .ptr o off _, cs => ∃ b base tot, μ o = some (.at b base tot) ∧ cs = [.pointer (some ⟨b, base + off, none⟩)]
 | .slc o off len sz, cs => ((∃ p, μ o = some p) ∧ len = 0 ∧ ∃ a, cs = [.slice a 0 0]) ∨
   (∃ b base tot cap, μ o = some (.at b base tot) ∧ len ≤ cap ∧ base + (off + cap) * sz ≤ tot ∧ cs = [.slice (some ⟨b, base + off * sz, none⟩) len cap])
 | .fn f first caps, cs => ∃ fs vs, cs = [.func f fs.toArray vs.toArray] ∧ RAc F μ w first fs ∧ RAc F μ w caps vs
 | .pref x, cs => ∃ b off c, cs = [.pointer (some ⟨b, off, none⟩)] ∧ F b ∧ blk w b = some c ∧ off + x.size ≤ c.length ∧ Rep F w x ((c.drop off).take x.size)
 | .res _, _ => False
 | .yld o, cs => ∃ b base tot, μ o = some (.at b base tot) ∧ cs = [.func (.yield b) #[] #[]]
 | .junk, _ => False
def RAs (F : Nat → Prop) (μ : Mu) (w : World) : List AV → List Value → Prop
 | [], cs => cs = []
 | x :: xs, cs => ∃ c1 c2, cs = c1 ++ c2 ∧ RA F μ w x c1 ∧ RAs F μ w xs c2
def RAc (F : Nat → Prop) (μ : Mu) (w : World) : List AV → List Value → Prop
 | [], vs => vs = []
 | x :: xs, vs => ∃ v vs', vs = v :: vs' ∧ RA F μ w x v.cells.toList ∧ aggV v = x.isAgg ∧ RAc F μ w xs vs'
end
def RV (F : Nat → Prop) (μ : Mu) (w : World) : AV → Value → Prop
 | .res xs, v => ∃ vs, v = .tuple vs.toArray ∧ RAc F μ w xs vs
 | .junk, _ => True
 | x, v => RA F μ w x v.cells.toList ∧ aggV v = x.isAgg
structure Ext (F : Nat → Prop) (μ : Mu) (w : World) (F' : Nat → Prop) (μ' : Mu) (w' : World) : Prop where
 fro : ∀ b, F b → F' b
 kept : Kept F w w'
 mu : ∀ o p, μ o = some p → μ' o = some p
theorem Ext.refl (F μ w) : Ext F μ w F μ w := ⟨fun _ h => h, Kept.refl _ _, fun _ _ h => h⟩
theorem Ext.trans {F μ w F' μ' w' F'' μ'' w''} (h : Ext F μ w F' μ' w') (k : Ext F' μ' w' F'' μ'' w'') : Ext F μ w F'' μ'' w'' :=
 ⟨fun b hb => k.fro b (h.fro b hb), h.kept.trans (k.kept.mono h.fro), fun o p hp => k.mu o p (h.mu o p hp)⟩
mutual
theorem ra_mono {F μ w F' μ' w'} (e : Ext F μ w F' μ' w') : ∀ {x : AV} {cs : List Value}, RA F μ w x cs → RA F' μ' w' x cs
 | .d x, cs, h => by simp only [RA] at *; exact rep_mono e.fro e.kept h
 | .st xs, cs, h => by simp only [RA] at *; exact ras_mono e h
 | .ptr o off p, cs, h => by simp only [RA] at *; obtain ⟨b, base, tot, h1, h2⟩ := h; exact ⟨b, base, tot, e.mu _ _ h1, h2⟩
 | .slc o off len sz, cs, h => by
  simp only [RA] at *
  rcases h with ⟨⟨p, h1⟩, h2⟩ | ⟨b, base, tot, cap, h1, h2⟩
  ·exact .inl ⟨⟨p, e.mu _ _ h1⟩, h2⟩
  ·exact .inr ⟨b, base, tot, cap, e.mu _ _ h1, h2⟩
 | .fn f first caps, cs, h => by
  simp only [RA] at *
  obtain ⟨fs, vs, h0, h1, h2⟩ := h
  exact ⟨fs, vs, h0, rac_mono e h1, rac_mono e h2⟩
 | .pref x, cs, h => by
  simp only [RA] at *
  obtain ⟨b, off, c, h1, h2, h3, h4, h5⟩ := h
  exact ⟨b, off, c, h1, e.fro _ h2, e.kept _ _ h2 h3, h4, rep_mono e.fro e.kept h5⟩
 | .res xs, cs, h => by simp only [RA] at h
 | .yld o, cs, h => by simp only [RA] at *; obtain ⟨b, base, tot, h1, h2⟩ := h; exact ⟨b, base, tot, e.mu _ _ h1, h2⟩
 | .junk, cs, h => by simp only [RA] at h
theorem ras_mono {F μ w F' μ' w'} (e : Ext F μ w F' μ' w') : ∀ {xs : List AV} {cs : List Value}, RAs F μ w xs cs → RAs F' μ' w' xs cs
 | [], cs, h => h
 | x :: xs, cs, h => by
  simp only [RAs] at *
  obtain ⟨c1, c2, h0, h1, h2⟩ := h
  exact ⟨c1, c2, h0, ra_mono e h1, ras_mono e h2⟩
theorem rac_mono {F μ w F' μ' w'} (e : Ext F μ w F' μ' w') : ∀ {xs : List AV} {vs : List Value}, RAc F μ w xs vs → RAc F' μ' w' xs vs
 | [], vs, h => h
 | x :: xs, vs, h => by
  simp only [RAc] at *
  obtain ⟨v, vs', h0, h1, h2, h3⟩ := h
  exact ⟨v, vs', h0, ra_mono e h1, h2, rac_mono e h3⟩
end
theorem rv_mono {F μ w F' μ' w'} (e : Ext F μ w F' μ' w') {x : AV} {v : Value} (h : RV F μ w x v) : RV F' μ' w' x v := by
 cases x with
 | res xs => obtain ⟨vs, h0, h1⟩ := h; exact ⟨vs, h0, rac_mono e h1⟩
 | junk => trivial
 | _ => exact ⟨ra_mono e h.1, h.2⟩
mutual
theorem ra_length {F μ w} : ∀ {x : AV} {cs : List Value}, RA F μ w x cs → cs.length = x.size
 | .d x, cs, h => by simp only [RA] at h; simpa [AV.size] using rep_length h
 | .st xs, cs, h => by simp only [RA] at h; simpa [AV.size] using ras_length h
 | .ptr o off p, cs, h => by simp only [RA] at h; obtain ⟨b, base, tot, h1, rfl⟩ := h; simp [AV.size]
 | .slc o off len sz, cs, h => by
  simp only [RA] at h
  rcases h with ⟨_, _, _, rfl⟩ | ⟨b, base, tot, cap, _, _, _, rfl⟩ <;> simp [AV.size]
 | .fn f first caps, cs, h => by simp only [RA] at h; obtain ⟨fs, vs, rfl, _⟩ := h; simp [AV.size]
 | .pref x, cs, h => by simp only [RA] at h; obtain ⟨b, off, c, rfl, _⟩ := h; simp [AV.size]
 | .res xs, cs, h => by simp only [RA] at h
 | .yld o, cs, h => by simp only [RA] at h; obtain ⟨b, base, tot, h1, rfl⟩ := h; simp [AV.size]
 | .junk, cs, h => by simp only [RA] at h
theorem ras_length {F μ w} : ∀ {xs : List AV} {cs : List Value}, RAs F μ w xs cs → cs.length = asizes xs
 | [], cs, h => by simp [RAs] at h; simp [h, asizes]
 | x :: xs, cs, h => by
  simp only [RAs] at h
  obtain ⟨c1, c2, rfl, h1, h2⟩ := h
  have e1 := ra_length h1
  have e2 := ras_length h2
  simp [asizes, e1, e2]
end
inductive HO where
 | av (c : AV)
 | raw (o : Obj)
 | dead
abbrev Heap := List (Nat × HO)
abbrev Env := List (Nat × AV)
def Heap.get : Heap → Nat → Option HO
 | [], _ => none
 | (i, c) :: h, o => bif Nat.beq i o then some c else Heap.get h o
def Env.get : Env → Nat → Option AV
 | [], _ => none
 | (i, c) :: h, o => bif Nat.beq i o then some c else Env.get h o
theorem heap_get_cons (i o : Nat) (c : HO) (h : Heap) : Heap.get ((i, c) :: h) o = if i = o then some c else h.get o := by
 simp only [Heap.get]
 cases hb : Nat.beq i o with
 | true => simp [Nat.eq_of_beq_eq_true hb]
 | false => simp [Nat.ne_of_beq_eq_false hb]
theorem env_get_cons (i o : Nat) (c : AV) (h : Env) : Env.get ((i, c) :: h) o = if i = o then some c else h.get o := by
 simp only [Env.get]
 cases hb : Nat.beq i o with
 | true => simp [Nat.eq_of_beq_eq_true hb]
 | false => simp [Nat.ne_of_beq_eq_false hb]
def ObjOk (F : Nat → Prop) (μ : Mu) (may : Nat → Prop) (w : World) (o : Nat) : HO → Prop
 | .av c => (μ o = some .nil ∧ c.size = 0 ∧ RA F μ w c []) ∨
   ∃ b base tot elem cs, μ o = some (.at b base tot) ∧ ¬ F b ∧ may b ∧ w.heap[b]? = some (.cells cs elem (0, 0)) ∧ cs.size = tot ∧ base + c.size ≤ tot ∧
    RA F μ w c ((cs.toList.drop base).take c.size)
 | .raw ob => ∃ b base tot, μ o = some (.at b base tot) ∧ ¬ F b ∧ may b ∧ w.heap[b]? = some ob
 | .dead => ∃ p, μ o = some p
structure Inv (F : Nat → Prop) (μ : Mu) (may : Nat → Prop) (hp : Heap) (w : World) : Prop where
 fro : ∀ b, F b → ∃ c, blk w b = some c
 obj : ∀ o c, hp.get o = some c → ObjOk F μ may w o c
 apart : ∀ o o' b base tot base' tot' c c', hp.get o = some c → hp.get o' = some c' → c ≠ .dead → c' ≠ .dead → μ o = some (.at b base tot) → μ o' = some (.at b base' tot') → o = o'
 dom : ∀ o, hp.get o = none → μ o = none
def EnvOk (F : Nat → Prop) (μ : Mu) (w : World) (env : Env) (t : Array Value) : Prop := ∀ i x, env.get i = some x → RV F μ w x (t.getD i undef)
theorem envOk_mono {F μ w F' μ' w'} (e : Ext F μ w F' μ' w') {env : Env} {t : Array Value} (h : EnvOk F μ w env t) : EnvOk F' μ' w' env t := fun i x hi => rv_mono e (h i x hi)
theorem envOk_put {F μ w} {env : Env} {t : Array Value} {d : Nat} {x : AV} {v : Value} (h : EnvOk F μ w env t) (hd : d < t.size) (hv : RV F μ w x v) :
  EnvOk F μ w ((d, x) :: env) (t.setIfInBounds d v) := by
 intro i y hi
 rw [env_get_cons] at hi
 by_cases e : d = i
 ·subst e; simp at hi; subst hi
  simpa [Array.getD, hd] using hv
 ·simp [e] at hi
  have := h i y hi
  simpa [Array.getD_eq_getD_getElem?, Array.getElem?_setIfInBounds_ne e] using this
structure Ctx (P₀ : Program) (ns : Nat) where
 w0 : World
 F0 : Nat → Prop
 base : Mu
 may : Nat → Prop
 round : Option Nat
 globs : List (Nat × D)
 new : ∀ b, w0.heap.size ≤ b → may b
 apart : ∀ b, F0 b → ¬ may b
 mixed : P₀.follows .mixedOrders = true
@[reducible] def Ctx.P {P₀ : Program} {ns : Nat} (_ : Ctx P₀ ns) : Program := P₀
@[reducible] def Ctx.n {P₀ : Program} {ns : Nat} (_ : Ctx P₀ ns) : Nat := ns
def Ctx.fence {P₀ : Program} {ns : Nat} (C : Ctx P₀ ns) : Fence := match C.round with | none => Fence.wide | some l => Fence.wide.inRound l
theorem Ctx.fence_fn {P₀ : Program} {ns : Nat} (C : Ctx P₀ ns) (f : FuncId) : C.fence.fn f := by unfold Ctx.fence; split <;> trivial
theorem Ctx.fence_depth {P₀ : Program} {ns : Nat} (C : Ctx P₀ ns) : C.fence.depth = none := by unfold Ctx.fence; split <;> rfl
theorem Ctx.fence_round {P₀ : Program} {ns : Nat} (C : Ctx P₀ ns) : C.fence.round = C.round := by unfold Ctx.fence; split <;> simp_all [Fence.wide]
structure Fr (may : Nat → Prop) (w0 w : World) : Prop where
 os : w.os = w0.os
 tape : w.tape = w0.tape
 output : w.output = w0.output
 size : w0.heap.size ≤ w.heap.size
 block : ∀ b, ¬ may b → w.heap[b]? = w0.heap[b]?
theorem Fr.refl (may w) : Fr may w w := ⟨rfl, rfl, rfl, Nat.le_refl _, fun _ _ => rfl⟩
theorem Fr.trans {may w w' w''} (h : Fr may w w') (k : Fr may w' w'') : Fr may w w'' :=
 ⟨k.os.trans h.os, k.tape.trans h.tape, k.output.trans h.output, Nat.le_trans h.size k.size, fun b hb => (k.block b hb).trans (h.block b hb)⟩
theorem Fr.weak {may may' : Nat → Prop} {w w'} (hm : ∀ b, may' b → may b) (h : Fr may' w w') : Fr may w w' :=
 ⟨h.os, h.tape, h.output, h.size, fun b hb => h.block b fun h' => hb (hm b h')⟩
structure AS where
 env : Env
 hp : Heap
 dfs : List Nat := []
def Globs (gs : List (Nat × D)) (F : Nat → Prop) (w : World) : Prop := ∀ g x, (g, x) ∈ gs → F g ∧ ∃ c, blk w g = some c ∧ x.size ≤ c.length ∧ Rep F w x (c.take x.size)
theorem globs_mono {gs F F' w w'} (hF : ∀ b, F b → F' b) (hw : Kept F w w') (h : Globs gs F w) : Globs gs F' w' := fun g x hm =>
 let ⟨h1, c, h2, h3, h4⟩ := h g x hm
 ⟨hF _ h1, c, hw _ _ h1 h2, h3, rep_mono hF hw h4⟩
def DfsOk (μ : Mu) : List Nat → List Deferred → Prop
 | [], l => l = []
 | o :: os, l => ∃ b base tot l', μ o = some (.at b base tot) ∧ l = { target := .collected b, args := #[] } :: l' ∧ DfsOk μ os l'
theorem dfsOk_mono {μ μ' : Mu} (hm : ∀ o p, μ o = some p → μ' o = some p) : ∀ {os : List Nat} {l : List Deferred}, DfsOk μ os l → DfsOk μ' os l
 | [], _, h => h
 | o :: os, l, h => let ⟨b, base, tot, l', h1, h2, h3⟩ := h; ⟨b, base, tot, l', hm _ _ h1, h2, dfsOk_mono hm h3⟩
structure SatW {P₀ : Program} {ns : Nat} (C : Ctx P₀ ns) (s : AS) (a : Act) (w : World) (F : Nat → Prop) (μ : Mu) : Prop where
 inv : Inv F μ C.may s.hp w
 env : EnvOk F μ w s.env a.tmps
 size : a.tmps.size = C.n
 dfs : DfsOk μ s.dfs a.defers
 fr : Fr C.may C.w0 w
 f0 : ∀ b, C.F0 b → F b
 base : ∀ o p, C.base o = some p → μ o = some p
 globs : Globs C.globs F w
 fm : ∀ b, F b → C.F0 b ∨ C.may b
def Sat {P₀ : Program} {ns : Nat} (C : Ctx P₀ ns) (s : AS) (a : Act) (w : World) : Prop := ∃ F μ, SatW C s a w F μ
theorem SatW.ext {P₀ : Program} {ns : Nat} {C : Ctx P₀ ns} {s a w F μ} (h : SatW C s a w F μ) : Kept C.F0 C.w0 w := fun b c hb hc => by
 unfold blk at *
 rw [h.fr.block b (C.apart b hb)]; exact hc
def evalA {P₀ : Program} {ns : Nat} (C : Ctx P₀ ns) (env : Env) : Operand → Option AV
 | .tmp t => env.get t
 | .const v => bif leafV v then some (.d (.val v)) else none
 | .func f => some (.fn (.func f) [] [])
 | .global g => (C.globs.lookup g).map .pref
theorem lookup_mem {α : Type} : ∀ {l : List (Nat × α)} {g : Nat} {x : α}, l.lookup g = some x → (g, x) ∈ l
 | [], _, _, h => by simp at h
 | (i, y) :: l, g, x, h => by
  rw [List.lookup_cons] at h
  by_cases e : g == i
  ·simp [e] at h; have := eq_of_beq e; subst this; subst h; simp
  ·simp [e] at h; exact List.mem_cons_of_mem _ (lookup_mem h)
theorem cells_single {v : Value} (h : aggV v = false) : v.cells.toList = [v] := by cases v <;> simp_all [aggV, Value.cells]
theorem leaf_agg {v : Value} (h : leafV v = true) : aggV v = false := by cases v <;> simp_all [aggV, leafV]
theorem evalA_ok {P₀ : Program} {ns : Nat} {C : Ctx P₀ ns} {s a w F μ} (h : SatW C s a w F μ) {o : Operand} {x : AV} (ho : evalA C s.env o = some x) : RV F μ w x (a.eval o) := by
 cases o with
 | tmp t => exact h.env t x ho
 | const v =>
  simp only [evalA] at ho
  cases hv : leafV v with
  | false => simp [hv] at ho
  | true =>
   simp [hv] at ho; subst ho
   have ha := leaf_agg hv
   refine ⟨?_, ?_⟩
   ·simp only [Act.eval, RA, Rep]; exact ⟨cells_single ha, hv⟩
   ·simp [Act.eval, AV.isAgg, D.isAgg, ha]
 | func f =>
  simp only [evalA, Option.some.injEq] at ho; subst ho
  refine ⟨?_, rfl⟩
  simp only [Act.eval, RA]
  exact ⟨[], [], rfl, rfl, rfl⟩
 | global g =>
  simp only [evalA, Option.map_eq_some_iff] at ho
  obtain ⟨y, hy, rfl⟩ := ho
  obtain ⟨h1, c, h2, h3, h4⟩ := h.globs g y (lookup_mem hy)
  refine ⟨?_, rfl⟩
  simp only [Act.eval, RA]
  exact ⟨g, 0, c, rfl, h1, h2, by simpa using h3, by simpa using h4⟩
theorem rv_val {F μ w} {u v : Value} (h : RV F μ w (.d (.val u)) v) : v = u := by
 have h1 := h.1
 have h2 := h.2
 simp only [RA, Rep, AV.isAgg, D.isAgg] at h1 h2
 have := cells_single h2
 rw [h1.1] at this
 simpa using this.symm
theorem rv_val_mk {F μ w} {u : Value} (h : leafV u = true) : RV F μ w (.d (.val u)) u :=
 ⟨by simp only [RA, Rep]; exact ⟨cells_single (leaf_agg h), h⟩, by simp [AV.isAgg, D.isAgg, leaf_agg h]⟩
mutual
theorem ra_leaf {F μ w} : ∀ {x : AV} {cs : List Value}, RA F μ w x cs → ∀ v ∈ cs, leafV v = true
 | .d x, cs, h => by simp only [RA] at h; exact rep_leaf h
 | .st xs, cs, h => by simp only [RA] at h; exact ras_leaf h
 | .ptr o off p, cs, h => by simp only [RA] at h; obtain ⟨b, base, tot, h1, rfl⟩ := h; simp [leafV]
 | .slc o off len sz, cs, h => by
  simp only [RA] at h
  rcases h with ⟨_, _, _, rfl⟩ | ⟨b, base, tot, cap, _, _, _, rfl⟩ <;> simp [leafV]
 | .fn f first caps, cs, h => by simp only [RA] at h; obtain ⟨fs, vs, rfl, _⟩ := h; simp [leafV]
 | .pref x, cs, h => by simp only [RA] at h; obtain ⟨b, off, c, rfl, _⟩ := h; simp [leafV]
 | .res xs, cs, h => by simp only [RA] at h
 | .yld o, cs, h => by simp only [RA] at h; obtain ⟨b, base, tot, h1, rfl⟩ := h; simp [leafV]
 | .junk, cs, h => by simp only [RA] at h
theorem ras_leaf {F μ w} : ∀ {xs : List AV} {cs : List Value}, RAs F μ w xs cs → ∀ v ∈ cs, leafV v = true
 | [], cs, h => by simp [RAs] at h; simp [h]
 | x :: xs, cs, h => by
  simp only [RAs] at h
  obtain ⟨c1, c2, rfl, h1, h2⟩ := h
  intro v hv
  rcases List.mem_append.1 hv with hv | hv
  ·exact ra_leaf h1 v hv
  ·exact ras_leaf h2 v hv
end
theorem ra_single {F μ w} {x : AV} {cs : List Value} (h : RA F μ w x cs) (hx : x.isAgg = false) : ∃ v, cs = [v] ∧ leafV v = true := by
 have hl := ra_length h
 have h1 : x.size = 1 := by
  cases x with
  | d y => cases y <;> simp_all [AV.size, D.size, AV.isAgg, D.isAgg]
  | st xs => simp [AV.isAgg] at hx
  | _ => rfl
 rw [h1] at hl
 obtain ⟨v, rfl⟩ := List.length_eq_one_iff.1 hl
 exact ⟨v, rfl, ra_leaf h v (by simp)⟩
end Bd
