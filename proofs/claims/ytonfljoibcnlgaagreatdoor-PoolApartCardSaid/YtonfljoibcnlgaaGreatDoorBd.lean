import Derived.Test.YtonfljoibcnlgaaGreatDoorBc
import Derived.RangeFuncLeaves
namespace Bd
open Go
section code
variable {P₀ : Program} {ns : Nat} {C : Ctx P₀ ns} {Q : Exit → Act → World → Prop} {s : AS}
theorem aw_mono {c : Code} {Q' : Exit → Act → World → Prop} (h : AW C c Q s) (hq : ∀ e a w, Q e a w → Q' e a w) : AW C c Q' s := fun a w hs => wpIn_mono (h a w hs) hq
theorem aw_skip (h : AQ C Q .normal s) : AW C .skip Q s := fun a w hs => wpIn_skip (h a w hs)
theorem aw_label {l : Nat} (h : AQ C Q .normal s) : AW C (.label l) Q s := fun a w hs => wpIn_label (h a w hs)
theorem aw_exit {id : Nat} (h : AQ C Q (.exit id) s) : AW C (.exit id) Q s := fun a w hs => wpIn_exit (h a w hs)
theorem aw_ret (h : AQ C Q .ret s) : AW C .ret Q s := fun a w hs => wpIn_ret (h a w hs)
theorem aw_seq {x y : Code} (h : AW C x (Exit.then (y.wpIn C.fence 0 C.P Q) Q) s) : AW C (.seq x y) Q s := fun a w hs => wpIn_seq (h a w hs)
theorem aw_block {id : Nat} {c : Code} (h : AW C c (Exit.inBlock id Q) s) : AW C (.block id c) Q s := fun a w hs => wpIn_block (h a w hs)
theorem aw_cond {c : Operand} {x y : Code} {b : Bool} (hc : evalA C s.env c = some (.d (.val (.bool b)))) (ht : b = true → AW C x Q s) (hf : b = false → AW C y Q s) : AW C (.cond c x y) Q s := fun a w hs => by
 obtain ⟨F, μ, k⟩ := hs
 have he : a.eval c = .bool b := rv_val (evalA_ok k hc)
 exact wpIn_cond_split he (fun e => ht e a w ⟨F, μ, k⟩) (fun e => hf e a w ⟨F, μ, k⟩)
theorem aw_loop {c : Code} {σ : Type} (st : σ → AS) (inv : σ → Prop) (m : σ → Nat) (z0 : σ) (h0 : inv z0)
  (h : ∀ z, inv z → AW C c (Exit.then (fun a w => ∃ z', (inv z' ∧ m z' < m z) ∧ Sat C (st z') a w) Q) (st z)) : AW C (.loop c) Q (st z0) := by
 intro a w hs b k cs hro hb hr
 have key : ∀ j z, m z = j → inv z → ∀ a w, Sat C (st z) a w →
   ∃ e a' w', Q e a' w' ∧ ArrivesIn (Machine.fenced C.P C.fence) C.P (lone (b.atR a (.code c :: .inLoop c :: k)) cs w) b k cs e a' w' := by
  intro j
  induction j using Nat.strongRecOn with
  | _ j ih =>
   intro z hn hz a w hs
   obtain ⟨e, a₁, w₁, hq, harr⟩ := h z hz a w hs b (.inLoop c :: k) cs hro hb hr
   cases e with
   | normal =>
    obtain ⟨z', ⟨hz', hlt⟩, hs'⟩ := hq
    obtain ⟨e₂, a₂, w₂, hq₂, harr₂⟩ := ih (m z') (hn ▸ hlt) z' rfl hz' a₁ w₁ hs'
    exact ⟨e₂, a₂, w₂, hq₂, .of_steps (StepsIn.trans harr (.one (fenced_calm hb hr rfl) stepR_inLoop)) harr₂⟩
   | exit id => exact ⟨_, a₁, w₁, hq, .pass (x := .inLoop c) rfl (fun _ _ => .inl (by simp)) harr⟩
   | goto l => exact ⟨_, a₁, w₁, hq, .pass (x := .inLoop c) rfl (fun _ _ => .inl (by simp)) harr⟩
   | ret => exact ⟨_, a₁, w₁, hq, .pass (x := .inLoop c) rfl (fun _ _ => .inl (by simp)) harr⟩
   | panic ch => exact ⟨_, a₁, w₁, hq, .pass (x := .inLoop c) rfl (fun _ _ => .inl (by simp)) harr⟩
   | outgrown => exact ⟨_, a₁, w₁, hq, .pass (x := .inLoop c) rfl (fun _ _ => .inl (by simp)) harr⟩
 obtain ⟨e, a', w', hq, harr⟩ := key _ z0 rfl h0 a w hs
 exact ⟨e, a', w', hq, .of_steps (.one (fenced_calm hb hr rfl) stepR_loop) harr⟩
theorem aq_loop {σ : Type} {st : σ → AS} {inv : σ → Prop} {m : σ → Nat} {z : σ} (z' : σ) (hz : inv z') (hm : m z' < m z) :
  AQ C (Exit.then (fun a w => ∃ z', (inv z' ∧ m z' < m z) ∧ Sat C (st z') a w) Q) .normal (st z') := fun _ _ hs => ⟨z', ⟨hz, hm⟩, hs⟩
theorem aq_then {y : Code} (h : AW C y Q s) : AQ C (Exit.then (y.wpIn C.fence 0 C.P Q) Q) .normal s := h
theorem aq_then_ret {X : Act → World → Prop} (h : AQ C Q .ret s) : AQ C (Exit.then X Q) .ret s := h
theorem aq_then_exit {X : Act → World → Prop} {id : Nat} (h : AQ C Q (.exit id) s) : AQ C (Exit.then X Q) (.exit id) s := h
theorem aq_block {id : Nat} (h : AQ C Q .normal s) : AQ C (Exit.inBlock id Q) .normal s := h
theorem aq_block_ret {id : Nat} (h : AQ C Q .ret s) : AQ C (Exit.inBlock id Q) .ret s := h
theorem aq_block_exit {id : Nat} (h : AQ C Q .normal s) : AQ C (Exit.inBlock id Q) (.exit id) s := fun a w hs => by simp only [Exit.inBlock, if_true]; exact h a w hs
theorem aq_block_exit_ne {id id' : Nat} (hne : Nat.beq id' id = false) (h : AQ C Q (.exit id') s) : AQ C (Exit.inBlock id Q) (.exit id') s := fun a w hs => by
 simp only [Exit.inBlock, if_neg (Nat.ne_of_beq_eq_false hne)]; exact h a w hs
end code
def Post (K : AV → Heap → Prop) (F : Nat → Prop) (μ : Mu) (may : Nat → Prop) (w : World) : Ending → World → Prop := fun e w' =>
 ∃ v r hp' F' μ', e = .returned v ∧ K r hp' ∧ Ext F μ w F' μ' w' ∧ (∀ b, F' b → F b ∨ may b) ∧ Inv F' μ' may hp' w' ∧ RV F' μ' w' r v ∧ Fr may w w'
def ACall (P : Program) (gs : List (Nat × D)) (f : FuncId) (args : List AV) (hp : Heap) (K : AV → Heap → Prop) : Prop :=
 ∀ F μ may w vs, Inv F μ may hp w → RAc F μ w args vs → Globs gs F w → (∀ b, w.heap.size ≤ b → may b) → (∀ b, F b → ¬ may b) →
  CallsIn Fence.wide 0 P f vs.toArray w (Post K F μ may w)
def argEnv : List AV → Nat → Env
 | [], _ => []
 | x :: xs, i => (i, x) :: argEnv xs (i + 1)
theorem argEnv_get : ∀ {args : List AV} {k i : Nat} {x : AV}, (argEnv args k).get i = some x → k ≤ i ∧ args[i - k]? = some x
 | [], _, _, _, h => by simp [argEnv, Env.get] at h
 | y :: args, k, i, x, h => by
  simp only [argEnv] at h
  rw [env_get_cons] at h
  by_cases e : k = i
  ·subst e; simp at h; simp [h]
  ·simp [e] at h
   have := argEnv_get h
   refine ⟨by omega, ?_⟩
   rw [show i - k = (i - (k + 1)) + 1 from by omega, List.getElem?_cons_succ]
   exact this.2
theorem rac_get {F μ w} : ∀ {xs : List AV} {vs : List Value} {i : Nat} {x : AV}, RAc F μ w xs vs → xs[i]? = some x → ∃ v, vs[i]? = some v ∧ RA F μ w x v.cells.toList ∧ aggV v = x.isAgg
 | [], _, _, _, _, h => by simp at h
 | y :: xs, vs, 0, x, h, hi => by
  simp only [RAc] at h
  obtain ⟨v, vs', rfl, h1, h2, h3⟩ := h
  simp at hi; subst hi
  exact ⟨v, by simp, h1, h2⟩
 | y :: xs, vs, i + 1, x, h, hi => by
  simp only [RAc] at h
  obtain ⟨v, vs', rfl, h1, h2, h3⟩ := h
  simp at hi
  obtain ⟨u, h4, h5⟩ := rac_get h3 hi
  exact ⟨u, by simpa using h4, h5⟩
theorem rac_length {F μ w} : ∀ {xs : List AV} {vs : List Value}, RAc F μ w xs vs → vs.length = xs.length
 | [], vs, h => by simp [RAc] at h; simp [h]
 | x :: xs, vs, h => by
  simp only [RAc] at h
  obtain ⟨v, vs', rfl, h1, h2, h3⟩ := h
  simp [rac_length h3]
def Fin {P₀ : Program} {ns : Nat} (C : Ctx P₀ ns) (fn : Func) (K : AV → Heap → Prop) : Exit → Act → World → Prop := fun e a w =>
 bodyPostM Fence.wide 0 C.P fn (Post K C.F0 C.base C.may C.w0) e a w
theorem acall_of_body {P : Program} {gs : List (Nat × D)} {f : FuncId} {fn : Func} {c : Code} {args : List AV} {hp : Heap} {K : AV → Heap → Prop} (hm : P.follows .mixedOrders = true)
  (hf : P.funcs[f]? = some fn) (hb : fn.body = some c) (hn : Nat.ble args.length fn.ntmps = true)
  (h : ∀ C : Ctx P fn.ntmps, C.round = none → C.globs = gs → (∀ o, hp.get o = none → C.base o = none) → AW C c (Fin C fn K) ⟨argEnv args 0, hp, []⟩) : ACall P gs f args hp K := by
 intro F μ may w vs hinv hargs hgl hnew hap
 let C : Ctx P fn.ntmps := { w0 := w, F0 := F, base := μ, may, round := none, globs := gs, new := hnew, apart := hap, mixed := hm }
 have hlen := rac_length hargs
 have hle : args.length ≤ fn.ntmps := Nat.le_of_ble_eq_true hn
 refine callsIn_of_wp_marks hf hb trivial (h C rfl rfl hinv.dom _ _ ⟨F, μ, hinv, ?_, ?_, rfl, Fr.refl _ _, fun _ h => h, fun _ _ h => h, hgl, fun _ h => .inl h⟩)
 ·intro i x hi
  obtain ⟨_, hx⟩ := argEnv_get hi
  simp only [Nat.sub_zero] at hx
  obtain ⟨v, h1, h2, h3⟩ := rac_get hargs hx
  have hvi : i < vs.length := (List.getElem?_eq_some_iff.1 h1).1
  have hg : (vs.toArray ++ Array.replicate (fn.ntmps - vs.toArray.size) undef).getD i undef = v := by
   have : vs[i] = v := by rw [List.getElem?_eq_getElem hvi] at h1; simpa using h1
   rw [Array.getD_eq_getD_getElem?, Array.getElem?_append_left (by simpa using hvi)]
   simp [hvi, this]
  simp only [hg]
  cases x with
  | res xs => simp only [RA] at h2
  | junk => simp only [RA] at h2
  | _ => exact ⟨h2, h3⟩
 ·show _ = fn.ntmps
  simp; omega
end Bd
