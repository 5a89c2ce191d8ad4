import Derived.Test.YtonfljoibcnlgaaGreatDoorBb
import Derived.OrdersIn
namespace Bd
open Go
structure Same (s s' : AS) : Prop where
  env : ∀ t, s'.env.get t = s.env.get t
  hp : ∀ o, s'.hp.get o = s.hp.get o
  dfs : s'.dfs = s.dfs
theorem inv_same {F μ may hp hp' w} (h : ∀ o, Heap.get hp' o = Heap.get hp o) (i : Inv F μ may hp w) : Inv F μ may hp' w :=
  ⟨i.fro, fun o c hc => i.obj o c (h o ▸ hc), fun o o' b base tot base' tot' c c' h1 h2 => i.apart o o' b base tot base' tot' c c' (h o ▸ h1) (h o' ▸ h2), fun o ho => i.dom o (h o ▸ ho)⟩
theorem sat_same {P₀ : Program} {ns : Nat} {C : Ctx P₀ ns} {s s' a w} (h : Same s s') (k : Sat C s a w) : Sat C s' a w := by
  obtain ⟨F, μ, k⟩ := k
  exact ⟨F, μ, inv_same h.hp k.inv, fun i x hi => k.env i x (h.env i ▸ hi), k.size, by rw [h.dfs]; exact k.dfs, k.fr, k.f0, k.base, k.globs, k.fm⟩
structure FD where
  er : List (Operand × AV) := []
  hr : List (Nat × HO) := []
  hn : List Nat := []
  d : Option (Nat × AV) := none
  hw : List (Nat × HO) := []
def Sub (x y : AV) : Prop := ∀ F μ w v, RV F μ w x v → RV F μ w y v
theorem Sub.refl (x : AV) : Sub x x := fun _ _ _ _ h => h
def Ev {P₀ : Program} {ns : Nat} (C : Ctx P₀ ns) (e : Env) (o : Operand) (x : AV) : Prop := ∃ x', evalA C e o = some x' ∧ Sub x' x
theorem evalE_ok {P₀ : Program} {ns : Nat} {C : Ctx P₀ ns} {s a w F μ} (h : SatW C s a w F μ) {o : Operand} {x : AV} (ho : Ev C s.env o x) : RV F μ w x (a.eval o) := let ⟨_, h1, h2⟩ := ho; h2 _ _ _ _ (evalA_ok h h1)
inductive EnvHas {P₀ : Program} {ns : Nat} (C : Ctx P₀ ns) (e : Env) : List (Operand × AV) → Prop
  | nil : EnvHas C e []
  | cons {o : Operand} {x : AV} {l : List (Operand × AV)} (h : Ev C e o x) (k : EnvHas C e l) : EnvHas C e ((o, x) :: l)
theorem EnvHas.c {P₀ : Program} {ns : Nat} {C : Ctx P₀ ns} {e : Env} {o : Operand} {x : AV} {l : List (Operand × AV)} (h : evalA C e o = some x) (k : EnvHas C e l) : EnvHas C e ((o, x) :: l) := .cons ⟨x, h, .refl x⟩ k
theorem EnvHas.s {P₀ : Program} {ns : Nat} {C : Ctx P₀ ns} {e : Env} {o : Operand} {x x' : AV} {l : List (Operand × AV)} (h : evalA C e o = some x') (s : Sub x' x) (k : EnvHas C e l) : EnvHas C e ((o, x) :: l) := .cons ⟨x', h, s⟩ k
inductive HeapHas (e : Heap) : List (Nat × HO) → Prop
  | nil : HeapHas e []
  | cons {t : Nat} {x : HO} {l : List (Nat × HO)} (h : e.get t = some x) (k : HeapHas e l) : HeapHas e ((t, x) :: l)
inductive HeapNo (e : Heap) : List Nat → Prop
  | nil : HeapNo e []
  | cons {t : Nat} {l : List Nat} (h : e.get t = none) (k : HeapNo e l) : HeapNo e (t :: l)
theorem envHas_iff {P₀ : Program} {ns : Nat} {C : Ctx P₀ ns} {e : Env} : ∀ {l}, EnvHas C e l ↔ ∀ p ∈ l, Ev C e p.1 p.2
  | [] => ⟨fun _ p hp => by simp at hp, fun _ => .nil⟩
  | (o, x) :: l => ⟨fun h p hp => by
      cases h with
      | cons h k => rcases List.mem_cons.1 hp with rfl | hp
                    · exact h
                    · exact envHas_iff.1 k p hp, fun h => .cons (h (o, x) (by simp)) (envHas_iff.2 fun p hp => h p (List.mem_cons_of_mem _ hp))⟩
theorem heapHas_iff {e : Heap} : ∀ {l}, HeapHas e l ↔ ∀ p ∈ l, e.get p.1 = some p.2
  | [] => ⟨fun _ p hp => by simp at hp, fun _ => .nil⟩
  | (o, x) :: l => ⟨fun h p hp => by
      cases h with
      | cons h k => rcases List.mem_cons.1 hp with rfl | hp
                    · exact h
                    · exact heapHas_iff.1 k p hp, fun h => .cons (h (o, x) (by simp)) (heapHas_iff.2 fun p hp => h p (List.mem_cons_of_mem _ hp))⟩
theorem heapNo_iff {e : Heap} : ∀ {l}, HeapNo e l ↔ ∀ p ∈ l, e.get p = none
  | [] => ⟨fun _ p hp => by simp at hp, fun _ => .nil⟩
  | o :: l => ⟨fun h p hp => by
      cases h with
      | cons h k => rcases List.mem_cons.1 hp with rfl | hp
                    · exact h
                    · exact heapNo_iff.1 k p hp, fun h => .cons (h o (by simp)) (heapNo_iff.2 fun p hp => h p (List.mem_cons_of_mem _ hp))⟩
structure FD.pre {P₀ : Program} {ns : Nat} (C : Ctx P₀ ns) (f : FD) (s : AS) : Prop where
  er : EnvHas C s.env f.er
  hr : HeapHas s.hp f.hr
  hn : HeapNo s.hp f.hn
def FD.upd (f : FD) (s : AS) : AS := ⟨f.d.toList ++ s.env, f.hw ++ s.hp, s.dfs⟩
def AOp {P₀ : Program} {ns : Nat} (C : Ctx P₀ ns) (o : Oper) (s s' : AS) : Prop :=
  ∀ a w nx Q, Sat C s a w → (∀ a' w', Sat C s' a' w' → nx a' w') → o.wpIn C.fence 0 C.P a w nx Q
def Step {P₀ : Program} {ns : Nat} (C : Ctx P₀ ns) (ops : Array Oper) (o : Oper) (f : FD) : Prop :=
  ∀ s, f.pre C s → ∀ a w nx Q, Sat C s a w → (∀ a' w', Sat C (f.upd s) a' w' → nx a' w') →
    if Region.wanted o (yielded ops a.tmps) then o.wpIn C.fence 0 C.P a w nx Q else nx (a.put o.dst undef) w
def Fact {P₀ : Program} {ns : Nat} (C : Ctx P₀ ns) (o : Oper) (f : FD) : Prop := ∀ s, f.pre C s → AOp C o s (f.upd s)
inductive Chain {P₀ : Program} {ns : Nat} (C : Ctx P₀ ns) (ops : Array Oper) : List Oper → List FD → AS → AS → Prop
  | nil {s : AS} : Chain C ops [] [] s s
  | cons {o : Oper} {os : List Oper} {f : FD} {fs : List FD} {s s' : AS} (st : Step C ops o f) (pre : f.pre C s) (k : Chain C ops os fs (f.upd s) s') : Chain C ops (o :: os) (f :: fs) s s'
def FD.envw (f : FD) (t : Nat) : Option AV := match f.d with | some (d, x) => bif Nat.beq d t then some x else none | none => none
def FD.hpw (f : FD) (o : Nat) : Option HO := Heap.get f.hw o
def wrE : List FD → (Nat → Bool) → Nat → Nat → Option AV
  | [], _, _, _ => none
  | f :: fs, L, k, t => (wrE fs L (k + 1) t).or (bif L k then f.envw t else none)
def wrH : List FD → (Nat → Bool) → Nat → Nat → Option HO
  | [], _, _, _ => none
  | f :: fs, L, k, t => (wrH fs L (k + 1) t).or (bif L k then f.hpw t else none)
theorem wrE_congr {L L' : Nat → Bool} {t : Nat} : ∀ {fs : List FD} {k : Nat}, (∀ i f, fs[i]? = some f → f.envw t ≠ none → L (k + i) = L' (k + i)) → wrE fs L k t = wrE fs L' k t
  | [], _, _ => rfl
  | f :: fs, k, h => by
    simp only [wrE]
    rw [wrE_congr (L := L) (L' := L') fun i g hg hne => by have := h (i + 1) g (by simpa using hg) hne; rwa [show k + 1 + i = k + (i + 1) from by omega]]
    by_cases hn : f.envw t = none
    · simp [hn]
    · have := h 0 f (by simp) hn; simp at this; rw [this]
theorem wrH_congr {L L' : Nat → Bool} {t : Nat} : ∀ {fs : List FD} {k : Nat}, (∀ i f, fs[i]? = some f → f.hpw t ≠ none → L (k + i) = L' (k + i)) → wrH fs L k t = wrH fs L' k t
  | [], _, _ => rfl
  | f :: fs, k, h => by
    simp only [wrH]
    rw [wrH_congr (L := L) (L' := L') fun i g hg hne => by have := h (i + 1) g (by simpa using hg) hne; rwa [show k + 1 + i = k + (i + 1) from by omega]]
    by_cases hn : f.hpw t = none
    · simp [hn]
    · have := h 0 f (by simp) hn; simp at this; rw [this]
theorem wrE_last {L : Nat → Bool} {t : Nat} : ∀ {fs : List FD} {k i : Nat} {f : FD}, fs[i]? = some f → L (k + i) = true → f.envw t ≠ none →
    (∀ j g, i < j → fs[j]? = some g → g.envw t ≠ none → L (k + j) = false) → wrE fs L k t = f.envw t
  | [], _, i, _, h, _, _, _ => by simp at h
  | g :: fs, k, 0, f, h, hl, hne, ho => by
    simp at h; subst h
    have e : wrE fs L (k + 1) t = wrE fs (fun _ => false) (k + 1) t := wrE_congr fun j g' hg hn => by
      have := ho (j + 1) g' (by omega) (by simpa using hg) hn
      rw [show k + 1 + j = k + (j + 1) from by omega, this]
    have e2 : ∀ (fs : List FD) k, wrE fs (fun _ => false) k t = none := by
      intro fs; induction fs with
      | nil => intro k; rfl
      | cons a b ih => intro k; simp [wrE, ih]
    simp only [wrE]
    rw [e, e2]
    simp at hl; simp [hl]
  | g :: fs, k, i + 1, f, h, hl, hne, ho => by
    simp at h
    have := wrE_last (k := k + 1) h (by rwa [show k + 1 + i = k + (i + 1) from by omega]) hne (fun j g' hj hg hn => by
      have := ho (j + 1) g' (by omega) (by simpa using hg) hn
      rwa [show k + 1 + j = k + (j + 1) from by omega])
    simp only [wrE]
    rw [this]
    cases hf : f.envw t with
    | none => exact absurd hf hne
    | some x => rfl
theorem wrH_last {L : Nat → Bool} {t : Nat} : ∀ {fs : List FD} {k i : Nat} {f : FD}, fs[i]? = some f → L (k + i) = true → f.hpw t ≠ none →
    (∀ j g, i < j → fs[j]? = some g → g.hpw t ≠ none → L (k + j) = false) → wrH fs L k t = f.hpw t
  | [], _, i, _, h, _, _, _ => by simp at h
  | g :: fs, k, 0, f, h, hl, hne, ho => by
    simp at h; subst h
    have e : wrH fs L (k + 1) t = wrH fs (fun _ => false) (k + 1) t := wrH_congr fun j g' hg hn => by
      have := ho (j + 1) g' (by omega) (by simpa using hg) hn
      rw [show k + 1 + j = k + (j + 1) from by omega, this]
    have e2 : ∀ (fs : List FD) k, wrH fs (fun _ => false) k t = none := by
      intro fs; induction fs with
      | nil => intro k; rfl
      | cons a b ih => intro k; simp [wrH, ih]
    simp only [wrH]
    rw [e, e2]
    simp at hl; simp [hl]
  | g :: fs, k, i + 1, f, h, hl, hne, ho => by
    simp at h
    have := wrH_last (k := k + 1) h (by rwa [show k + 1 + i = k + (i + 1) from by omega]) hne (fun j g' hj hg hn => by
      have := ho (j + 1) g' (by omega) (by simpa using hg) hn
      rwa [show k + 1 + j = k + (j + 1) from by omega])
    simp only [wrH]
    rw [this]
    cases hf : f.hpw t with
    | none => exact absurd hf hne
    | some x => rfl
theorem heap_get_append : ∀ (l h : Heap) (o : Nat), Heap.get (l ++ h) o = (l.get o).or (h.get o)
  | [], h, o => rfl
  | (i, c) :: l, h, o => by
    rw [List.cons_append, heap_get_cons, heap_get_cons]
    split
    · rfl
    · exact heap_get_append l h o
theorem upd_env (f : FD) (s : AS) (t : Nat) : (f.upd s).env.get t = (f.envw t).or (s.env.get t) := by
  unfold FD.upd FD.envw
  cases hd : f.d with
  | none => simp
  | some p =>
    obtain ⟨d, x⟩ := p
    simp only [Option.toList, List.cons_append, List.nil_append, Env.get]
    cases Nat.beq d t <;> rfl
theorem upd_hp (f : FD) (s : AS) (o : Nat) : (f.upd s).hp.get o = (f.hpw o).or (s.hp.get o) := heap_get_append _ _ _
theorem wrE_false : ∀ (fs : List FD) (k t : Nat), wrE fs (fun _ => false) k t = none
  | [], _, _ => rfl
  | f :: fs, k, t => by simp only [wrE, wrE_false fs]; rfl
theorem wrH_false : ∀ (fs : List FD) (k t : Nat), wrH fs (fun _ => false) k t = none
  | [], _, _ => rfl
  | f :: fs, k, t => by simp only [wrH, wrH_false fs]; rfl
theorem zrE : ∀ (fs : List FD) (k t : Nat), wrE fs (fun k => decide (k < 0)) k t = none
  | [], _, _ => rfl
  | f :: fs, k, t => by simp only [wrE, zrE fs]; rfl
theorem zrH : ∀ (fs : List FD) (k t : Nat), wrH fs (fun k => decide (k < 0)) k t = none
  | [], _, _ => rfl
  | f :: fs, k, t => by simp only [wrH, zrH fs]; rfl
theorem chain_at {P₀ : Program} {ns : Nat} {C : Ctx P₀ ns} {ops : Array Oper} : ∀ {os : List Oper} {fs : List FD} {s s' : AS}, Chain C ops os fs s s' → os.length = fs.length ∧
    (∀ i f, fs[i]? = some f → ∃ o si, os[i]? = some o ∧ Step C ops o f ∧ f.pre C si ∧ (∀ t, si.env.get t = (wrE fs (fun k => decide (k < i)) 0 t).or (s.env.get t)) ∧
      (∀ t, si.hp.get t = (wrH fs (fun k => decide (k < i)) 0 t).or (s.hp.get t))) ∧
    (∀ t, s'.env.get t = (wrE fs (fun _ => true) 0 t).or (s.env.get t)) ∧ (∀ t, s'.hp.get t = (wrH fs (fun _ => true) 0 t).or (s.hp.get t)) ∧ s'.dfs = s.dfs := by
  have shE : ∀ (fs : List FD) (L : Nat → Bool) (k t : Nat), wrE fs L (k + 1) t = wrE fs (fun j => L (j + 1)) k t := by
    intro fs; induction fs with
    | nil => intros; rfl
    | cons f fs ih => intro L k t; simp only [wrE]; rw [ih]
  have shH : ∀ (fs : List FD) (L : Nat → Bool) (k t : Nat), wrH fs L (k + 1) t = wrH fs (fun j => L (j + 1)) k t := by
    intro fs; induction fs with
    | nil => intros; rfl
    | cons f fs ih => intro L k t; simp only [wrH]; rw [ih]
  intro os fs s s' h
  induction h with
  | nil => exact ⟨rfl, fun i f h => by simp at h, fun _ => rfl, fun _ => rfl, rfl⟩
  | @cons o os f fs s s' st pr k ih =>
    obtain ⟨h1, h2, h3, h4, h5⟩ := ih
    refine ⟨by simp [h1], ?_, ?_, ?_, h5⟩
    · intro i g hg
      cases i with
      | zero =>
        simp at hg; subst hg
        exact ⟨o, s, by simp, st, pr, fun t => by rw [zrE]; rfl, fun t => by rw [zrH]; rfl⟩
      | succ i =>
        simp at hg
        obtain ⟨o', si, ho, hst, hpr, he, hh⟩ := h2 i g hg
        refine ⟨o', si, by simpa using ho, hst, hpr, fun t => ?_, fun t => ?_⟩
        · rw [he, upd_env]
          simp only [wrE]
          rw [shE]
          have : (fun j => decide (j + 1 < i + 1)) = (fun j => decide (j < i)) := by funext j; simp
          simp [this, Option.or_assoc]
        · rw [hh, upd_hp]
          simp only [wrH]
          rw [shH]
          have : (fun j => decide (j + 1 < i + 1)) = (fun j => decide (j < i)) := by funext j; simp
          simp [this, Option.or_assoc]
    · intro t
      rw [h3, upd_env]
      simp only [wrE]
      rw [shE]
      simp [Option.or_assoc]
    · intro t
      rw [h4, upd_hp]
      simp only [wrH]
      rw [shH]
      simp [Option.or_assoc]
def edge (ops : List Oper) (i k : Nat) : Bool := ((ops[i]?).map fun o => o.after.any fun e => Region.binds .any e && Nat.beq e.on k).getD false
def tmpOf : Operand → List Nat
  | .tmp t => [t]
  | _ => []
def slotsOf (f : FD) : List Nat := (f.d.map (·.1)).toList ++ f.er.flatMap fun p => tmpOf p.1
def objsOf (f : FD) : List Nat := f.hw.map (·.1) ++ f.hr.map (·.1) ++ f.hn
def meets (f g : FD) : Bool := ((g.d.map (·.1)).toList.any fun t => (slotsOf f).any (Nat.beq t)) || ((g.hw.map (·.1)).any fun t => (objsOf f).any (Nat.beq t))
def rowOk (ops : List Oper) (i : Nat) (f : FD) : List FD → Nat → Bool
  | [], _ => true
  | g :: gs, k => (Nat.beq k i || !meets f g || (bif Nat.ble k i then edge ops i k else edge ops k i)) && rowOk ops i f gs (k + 1)
def rowsOk (ops : List Oper) (all : List FD) : List FD → Nat → Bool
  | [], _ => true
  | f :: fs, i => rowOk ops i f all 0 && rowsOk ops all fs (i + 1)
def edgesOk : List Oper → Nat → Bool
  | [], _ => true
  | o :: os, i => o.after.all (fun e => !Region.binds .any e || Nat.blt e.on i) && edgesOk os (i + 1)
def drawOk (ops : List Oper) (fs : List FD) : Bool := edgesOk ops 0 && rowsOk ops fs fs 0
theorem rowOk_at {ops : List Oper} {i : Nat} {f : FD} : ∀ {gs : List FD} {k : Nat}, rowOk ops i f gs k = true → ∀ j g, gs[j]? = some g → k + j ≠ i → meets f g = true →
    (k + j < i → edge ops i (k + j) = true) ∧ (i < k + j → edge ops (k + j) i = true)
  | [], _, _, j, g, hg, _, _ => by simp at hg
  | g' :: gs, k, h, 0, g, hg, hne, hm => by
    simp at hg; subst hg
    simp only [rowOk, Bool.and_eq_true, Bool.or_eq_true] at h
    have h := h.1
    simp only [hm, Bool.not_true, Bool.false_eq_true, or_false] at h
    rcases h with h | h
    · exact absurd (Nat.eq_of_beq_eq_true h) (by simpa using hne)
    · simp at hne
      refine ⟨fun hlt => ?_, fun hlt => ?_⟩
      · have : Nat.ble k i = true := Nat.ble_eq_true_of_le (by omega)
        simpa [this] using h
      · have : Nat.ble k i = false := by cases hb : Nat.ble k i with | false => rfl | true => exact absurd (Nat.le_of_ble_eq_true hb) (by omega)
        simpa [this] using h
  | g' :: gs, k, h, j + 1, g, hg, hne, hm => by
    simp only [rowOk, Bool.and_eq_true] at h
    have := rowOk_at h.2 j g (by simpa using hg) (by omega) hm
    rwa [show k + 1 + j = k + (j + 1) from by omega] at this
theorem rowsOk_at {ops : List Oper} {all : List FD} : ∀ {fs : List FD} {i : Nat}, rowsOk ops all fs i = true → ∀ j f, fs[j]? = some f → rowOk ops (i + j) f all 0 = true
  | [], _, _, j, f, h => by simp at h
  | f' :: fs, i, h, 0, f, hf => by simp at hf; subst hf; simp only [rowsOk, Bool.and_eq_true] at h; exact h.1
  | f' :: fs, i, h, j + 1, f, hf => by
    simp only [rowsOk, Bool.and_eq_true] at h
    have := rowsOk_at h.2 j f (by simpa using hf)
    rwa [show i + 1 + j = i + (j + 1) from by omega] at this
theorem edgesOk_at : ∀ {ops : List Oper} {i : Nat}, edgesOk ops i = true → ∀ j o, ops[j]? = some o → ∀ e ∈ o.after, Region.binds .any e = true → e.on < i + j
  | [], _, _, j, o, h => by simp at h
  | o' :: os, i, h, 0, o, ho => by
    simp at ho; subst ho
    simp only [edgesOk, Bool.and_eq_true, Array.all_eq_true'] at h
    intro e he hb
    have := h.1 e he
    simpa [Nat.blt_eq, hb] using this
  | o' :: os, i, h, j + 1, o, ho => by
    simp only [edgesOk, Bool.and_eq_true] at h
    have := edgesOk_at h.2 j o (by simpa using ho)
    intro e he hb
    have := this e he hb
    omega
theorem meets_env {f g : FD} {t : Nat} (hg : g.envw t ≠ none) (hf : t ∈ slotsOf f) : meets f g = true := by
  unfold FD.envw at hg
  cases hd : g.d with
  | none => simp [hd] at hg
  | some p =>
    obtain ⟨d, x⟩ := p
    simp only [hd] at hg
    have hb : Nat.beq d t = true := by cases hb : Nat.beq d t with | true => rfl | false => simp [hb] at hg
    have := Nat.eq_of_beq_eq_true hb
    subst this
    simp only [meets, hd, Option.map_some, Option.toList, List.any_cons, List.any_nil, Bool.or_false, Bool.or_eq_true]
    exact .inl (List.any_eq_true.2 ⟨d, hf, by simp⟩)
theorem get_mem : ∀ {h : Heap} {o : Nat}, h.get o ≠ none → o ∈ h.map (·.1)
  | [], o, h => by simp [Heap.get] at h
  | (i, c) :: l, o, h => by
    rw [heap_get_cons] at h
    by_cases e : i = o
    · simp [e]
    · simp [e] at h; simp; right; have := get_mem (h := l) (o := o) (by simpa using h); simpa using this
theorem meets_hp {f g : FD} {t : Nat} (hg : g.hpw t ≠ none) (hf : t ∈ objsOf f) : meets f g = true := by
  have := get_mem hg
  simp only [meets, Bool.or_eq_true]
  exact .inr (List.any_eq_true.2 ⟨t, this, List.any_eq_true.2 ⟨t, hf, by simp⟩⟩)
structure Lst (ops : Array Oper) (L : Array Bool) : Prop where
  size : L.size = ops.size
  down : ∀ i o, ops[i]? = some o → L.getD i true = true → ∀ e ∈ o.after, Region.binds .any e = true → L.getD e.on false = true
theorem mem_ready {ops : Array Oper} {L : Array Bool} {i : Nat} (h : i ∈ Region.ready .any ops L) : i < ops.size ∧ L.getD i true = false ∧
    ∀ o, ops[i]? = some o → ∀ e ∈ o.after, Region.binds .any e = true → L.getD e.on false = true := by
  unfold Region.ready at h
  rw [List.mem_filter, List.mem_range] at h
  obtain ⟨h1, h2⟩ := h
  rw [Bool.and_eq_true] at h2
  obtain ⟨h2, h3⟩ := h2
  refine ⟨h1, by simpa using h2, fun o ho e he hb => ?_⟩
  rw [ho] at h3
  simp only [Option.map_some, Option.getD_some, Array.all_eq_true'] at h3
  have := h3 e he
  simpa [hb] using this
theorem ready_nil {ops : Array Oper} {L : Array Bool} (he : edgesOk ops.toList 0 = true) (hL : L.size = ops.size) (h : Region.ready .any ops L = []) : ∀ i, i < ops.size → L.getD i true = true := by
  intro i
  induction i using Nat.strongRecOn with
  | _ i ih =>
    intro hi
    cases hl : L.getD i true with
    | true => rfl
    | false =>
      exfalso
      have hmem : i ∈ Region.ready .any ops L := by
        unfold Region.ready
        rw [List.mem_filter, List.mem_range]
        refine ⟨hi, ?_⟩
        rw [hl]
        have ho : ops[i]? = some ops[i] := Array.getElem?_eq_getElem hi
        rw [ho]
        simp only [Bool.not_false, Bool.true_and, Option.map_some, Option.getD_some, Array.all_eq_true', Bool.or_eq_true]
        intro e hm
        cases hb : Region.binds .any e with
        | false => left; simp
        | true =>
        right
        have hlt := edgesOk_at he i ops[i] (by simp [hi]) e hm hb
        have hlt : e.on < i := by simpa using hlt
        have := ih e.on hlt (by omega)
        have hs : e.on < L.size := by omega
        simpa [Array.getD, hs] using this
      rw [h] at hmem; cases hmem
theorem draw_any {P₀ : Program} {ns : Nat} {C : Ctx P₀ ns} {ops : Array Oper} {fs : List FD} {s s' : AS} (h : Chain C ops ops.toList fs s s') (hok : drawOk ops.toList fs = true) {Q : Exit → Act → World → Prop}
    (hq : ∀ a w, Sat C s' a w → Q .normal a w) : ∀ (fuel : Nat) (L : Array Bool), Lst ops L → L.toList.count false = fuel → ∀ si a w, Sat C si a w →
      (∀ t, si.env.get t = (wrE fs (fun k => L.getD k false) 0 t).or (s.env.get t)) → (∀ t, si.hp.get t = (wrH fs (fun k => L.getD k false) 0 t).or (s.hp.get t)) → si.dfs = s.dfs →
      wpAnyIn C.fence 0 C.P .any ops Q fuel L a w := by
  obtain ⟨hlen, hat, hendE, hendH, hendD⟩ := chain_at h
  simp only [drawOk, Bool.and_eq_true] at hok
  obtain ⟨hedges, hrows⟩ := hok
  have hfl : fs.length = ops.size := by rw [← hlen]; simp
  have fin : ∀ (L : Array Bool), Lst ops L → Region.ready .any ops L = [] → ∀ si a w, Sat C si a w →
      (∀ t, si.env.get t = (wrE fs (fun k => L.getD k false) 0 t).or (s.env.get t)) → (∀ t, si.hp.get t = (wrH fs (fun k => L.getD k false) 0 t).or (s.hp.get t)) → si.dfs = s.dfs → Q .normal a w := by
    intro L hL hr si a w hs h1 h2 h3
    have hall := ready_nil hedges hL.size hr
    have hL' : ∀ k, k < fs.length → L.getD k false = true := fun k hk => by
      have := hall k (by omega)
      have hs : k < L.size := by have := hL.size; omega
      simpa [Array.getD, hs] using this
    refine hq a w (sat_same ⟨fun t => ?_, fun t => ?_, ?_⟩ hs)
    · rw [hendE, h1]; congr 1
      exact wrE_congr fun i f hf _ => by
        have : i < fs.length := (List.getElem?_eq_some_iff.1 hf).1
        simp only [Nat.zero_add]; exact (hL' i this).symm
    · rw [hendH, h2]; congr 1
      exact wrH_congr fun i f hf _ => by
        have : i < fs.length := (List.getElem?_eq_some_iff.1 hf).1
        simp only [Nat.zero_add]; exact (hL' i this).symm
    · rw [hendD, h3]
  intro fuel
  induction fuel with
  | zero =>
    intro L hL hc si a w hs h1 h2 h3
    have hr : Region.ready .any ops L = [] := by
      cases hr : Region.ready .any ops L with
      | nil => rfl
      | cons i l =>
        exfalso
        have hi := mem_ready (i := i) (by rw [hr]; simp)
        have hs : i < L.size := by rw [hL.size]; exact hi.1
        have : L[i] = false := by simpa [Array.getD, hs] using hi.2.1
        have hm : false ∈ L.toList := by rw [← this]; simp
        exact absurd (List.count_pos_iff.2 hm) (by omega)
    exact ⟨hr, fin L hL hr si a w hs h1 h2 h3⟩
  | succ fuel ih =>
    intro L hL hc si a w hs h1 h2 h3
    refine ⟨fun hr => fin L hL hr si a w hs h1 h2 h3, fun i hi => ?_⟩
    obtain ⟨hlt, hno, hed⟩ := mem_ready hi
    have hiL : i < L.size := by rw [hL.size]; exact hlt
    have hiF : i < fs.length := by omega
    obtain ⟨o, sx, ho, hst, hpre, hxE, hxH⟩ := hat i fs[i] (List.getElem?_eq_getElem hiF)
    have ho' : ops[i]? = some o := by rw [← Array.getElem?_toList]; exact ho
    have hnoF : L.getD i false = false := by have := hno; simp [Array.getD, hiL] at this ⊢; exact this
    have hmeet : ∀ k g, fs[k]? = some g → k ≠ i → meets fs[i] g = true → L.getD k false = decide (k < i) := by
      intro k g hg hne hm
      have hrow := rowsOk_at hrows i fs[i] (List.getElem?_eq_getElem hiF)
      rw [Nat.zero_add] at hrow
      have := rowOk_at hrow k g hg (by omega) hm
      simp only [Nat.zero_add] at this
      have hkF : k < fs.length := (List.getElem?_eq_some_iff.1 hg).1
      by_cases hki : k < i
      · have he := this.1 hki
        simp only [edge, ho, Option.map_some, Option.getD_some, Array.any_eq_true'] at he
        obtain ⟨e, hm', he⟩ := he
        rw [Bool.and_eq_true] at he
        have hon := Nat.eq_of_beq_eq_true he.2
        have := hed o ho' e hm' he.1
        rw [hon] at this
        simp [this, hki]
      · have he := this.2 (by omega)
        have hok : ops[k]? = some ops[k] := Array.getElem?_eq_getElem (by omega)
        simp only [edge, Array.getElem?_toList, hok, Option.map_some, Option.getD_some, Array.any_eq_true'] at he
        obtain ⟨e, hm', he⟩ := he
        rw [Bool.and_eq_true] at he
        have hon := Nat.eq_of_beq_eq_true he.2
        simp only [hki, decide_false]
        cases hl : L.getD k false with
        | false => rfl
        | true =>
          exfalso
          have hkL : k < L.size := by rw [hL.size]; omega
          have := hL.down k ops[k] hok (by simp [Array.getD, hkL] at hl ⊢; exact hl) e hm' he.1
          rw [hon] at this; rw [this] at hnoF; cases hnoF
    have hself : L.getD i false = decide (i < i) := by simp [hnoF]
    have eE : ∀ t, t ∈ slotsOf fs[i] → si.env.get t = sx.env.get t := by
      intro t ht
      rw [h1, hxE]; congr 1
      refine wrE_congr fun k g hg hne => ?_
      simp only [Nat.zero_add]
      by_cases hk : k = i
      · subst hk; exact hself
      · exact hmeet k g hg hk (meets_env hne ht)
    have eH : ∀ t, t ∈ objsOf fs[i] → si.hp.get t = sx.hp.get t := by
      intro t ht
      rw [h2, hxH]; congr 1
      refine wrH_congr fun k g hg hne => ?_
      simp only [Nat.zero_add]
      by_cases hk : k = i
      · subst hk; exact hself
      · exact hmeet k g hg hk (meets_hp hne ht)
    have hpre' : fs[i].pre C si := by
      refine ⟨envHas_iff.2 fun p hp => ?_, heapHas_iff.2 fun p hp => ?_, heapNo_iff.2 fun p hp => ?_⟩
      · have h0 := envHas_iff.1 hpre.er p hp
        obtain ⟨po, px⟩ := p
        cases po with
        | tmp t => simp only [Ev, evalA] at h0 ⊢; rw [eE t (List.mem_append.2 (.inr (List.mem_flatMap.2 ⟨_, hp, by simp [tmpOf]⟩)))]; exact h0
        | _ => exact h0
      · rw [eH p.1 (List.mem_append.2 (.inl (List.mem_append.2 (.inr (List.mem_map.2 ⟨p, hp, rfl⟩)))))]; exact heapHas_iff.1 hpre.hr p hp
      · rw [eH p (List.mem_append.2 (.inr hp))]; exact heapNo_iff.1 hpre.hn p hp
    have hstep := hst si hpre' a w (wpAnyIn C.fence 0 C.P .any ops Q fuel (L.setIfInBounds i true)) Q hs (fun a' w' hs' => by
      have hget : ∀ k, (L.setIfInBounds i true).getD k false = if k = i then true else L.getD k false := by
        intro k
        by_cases hk : k = i
        · subst hk; simp [Array.getD, hiL]
        · simp only [if_neg hk, Array.getD_eq_getD_getElem?, Array.getElem?_setIfInBounds_ne (Ne.symm hk)]
      have hgetT : ∀ k, (L.setIfInBounds i true).getD k true = if k = i then true else L.getD k true := by
        intro k
        by_cases hk : k = i
        · subst hk; simp [Array.getD, hiL]
        · simp only [if_neg hk, Array.getD_eq_getD_getElem?, Array.getElem?_setIfInBounds_ne (Ne.symm hk)]
      refine ih _ ⟨by simp [hL.size], fun k ok hok hk e he hb => ?_⟩ ?_ (fs[i].upd si) a' w' hs' ?_ ?_ h3
      · rw [hget]
        by_cases hon : e.on = i
        · simp [hon]
        · rw [if_neg hon]
          by_cases hki : k = i
          · subst hki; rw [ho'] at hok; cases hok; exact hed o ho' e he hb
          · rw [hgetT, if_neg hki] at hk; exact hL.down k ok hok hk e he hb
      · have hLi : L[i] = false := by simpa [Array.getD, hiL] using hnoF
        have hc' : (L.toList.set i true).count false = L.toList.count false - 1 := by
          rw [List.count_set (by simpa using hiL)]
          simp [hLi]
        simp only [Array.toList_setIfInBounds]
        omega
      · intro t
        rw [upd_env, h1]
        by_cases ht : fs[i].envw t = none
        · rw [ht]; simp only [Option.none_or]; congr 1
          refine wrE_congr fun k g hg hne => ?_
          simp only [Nat.zero_add]
          rw [hget]
          by_cases hk : k = i
          · subst hk; rw [List.getElem?_eq_getElem hiF] at hg; cases hg; exact absurd ht hne
          · rw [if_neg hk]
        · have hsl : t ∈ slotsOf fs[i] := by
            unfold FD.envw at ht
            cases hd : fs[i].d with
            | none => simp [hd] at ht
            | some p =>
              simp only [hd] at ht
              have hb : Nat.beq p.1 t = true := by cases hb : Nat.beq p.1 t with | true => rfl | false => simp [hb] at ht
              simp [slotsOf, hd, Nat.eq_of_beq_eq_true hb]
          have := wrE_last (L := fun k => (L.setIfInBounds i true).getD k false) (t := t) (fs := fs) (k := 0) (i := i) (List.getElem?_eq_getElem hiF) (by simp [hget]) ht (fun j g hj hg hne => by
            simp only [Nat.zero_add]
            rw [hget, if_neg (by omega)]
            rw [hmeet j g hg (by omega) (meets_env hne hsl)]
            simp; omega)
          rw [this]
          cases hx : fs[i].envw t with
          | none => exact absurd hx ht
          | some x => rfl
      · intro t
        rw [upd_hp, h2]
        by_cases ht : fs[i].hpw t = none
        · rw [ht]; simp only [Option.none_or]; congr 1
          refine wrH_congr fun k g hg hne => ?_
          simp only [Nat.zero_add]
          rw [hget]
          by_cases hk : k = i
          · subst hk; rw [List.getElem?_eq_getElem hiF] at hg; cases hg; exact absurd ht hne
          · rw [if_neg hk]
        · have hsl : t ∈ objsOf fs[i] := List.mem_append.2 (.inl (List.mem_append.2 (.inl (get_mem ht))))
          have := wrH_last (L := fun k => (L.setIfInBounds i true).getD k false) (t := t) (fs := fs) (k := 0) (i := i) (List.getElem?_eq_getElem hiF) (by simp [hget]) ht (fun j g hj hg hne => by
            simp only [Nat.zero_add]
            rw [hget, if_neg (by omega)]
            rw [hmeet j g hg (by omega) (meets_hp hne hsl)]
            simp; omega)
          rw [this]
          cases hx : fs[i].hpw t with
          | none => exact absurd hx ht
          | some x => rfl)
    unfold wpOpIn
    rw [ho']
    by_cases hw : Region.wanted o (yielded ops a.tmps) = true
    · simp only [hw, if_true] at hstep ⊢; exact hstep
    · simp only [hw, if_false] at hstep ⊢
      exact ⟨fun f _ => C.fence_fn f, hstep⟩
def AW {P₀ : Program} {ns : Nat} (C : Ctx P₀ ns) (c : Code) (Q : Exit → Act → World → Prop) (s : AS) : Prop := ∀ a w, Sat C s a w → c.wpIn C.fence 0 C.P Q a w
def AQ {P₀ : Program} {ns : Nat} (C : Ctx P₀ ns) (Q : Exit → Act → World → Prop) (e : Exit) (s : AS) : Prop := ∀ a w, Sat C s a w → Q e a w
theorem sat_drew {P₀ : Program} {ns : Nat} {C : Ctx P₀ ns} {s : AS} {a : Act} {w : World} (h : Sat C s a w) : Sat C s a { w with drawn := w.drawn + 1 } := by
  obtain ⟨F, μ, h⟩ := h
  have e : Ext F μ w F μ { w with drawn := w.drawn + 1 } := ⟨fun _ h => h, fun _ _ _ h => h, fun _ _ h => h⟩
  refine ⟨F, μ, ⟨h.inv.fro, fun o c hc => ?_, h.inv.apart, h.inv.dom⟩, envOk_mono e h.env, h.size, h.dfs, ⟨h.fr.os, h.fr.tape, h.fr.output, h.fr.size, h.fr.block⟩, h.f0, h.base, globs_mono e.fro e.kept h.globs, h.fm⟩
  have := h.inv.obj o c hc
  cases c with
  | av c =>
    rcases this with ⟨h1, h2, h3⟩ | ⟨b, base, tot, elem, cs, h1, h2, h3, h4, h5, h6, h7⟩
    · exact .inl ⟨h1, h2, ra_mono e h3⟩
    · exact .inr ⟨b, base, tot, elem, cs, h1, h2, h3, h4, h5, h6, ra_mono e h7⟩
  | raw o => exact this
  | dead => exact this
theorem aw_draw {P₀ : Program} {ns : Nat} {C : Ctx P₀ ns} {id : Nat} {ops : Array Oper} {fs : List FD} {s s' : AS} {Q : Exit → Act → World → Prop} (h : Chain C ops ops.toList fs s s') (hok : drawOk ops.toList fs = true)
    (hq : AQ C Q .normal s') : AW C (.region id ops true) Q s := fun a w hs => wpIn_region_any C.mixed (by
  have hz : ∀ k, (Array.replicate ops.size false).getD k false = false := fun k => by simp [Array.getD]
  have zz : (fun k => (Array.replicate ops.size false).getD k false) = fun _ => false := funext hz
  refine draw_any h hok hq ops.size _ ⟨by simp, fun i o ho hi => ?_⟩ (by simp) s a _ (sat_drew hs) (fun t => by rw [zz, wrE_false]; rfl) (fun t => by rw [zz, wrH_false]; rfl) rfl
  exfalso
  have hlt : i < ops.size := (Array.getElem?_eq_some_iff.1 ho).1
  simp [Array.getD, hlt] at hi)
end Bd
