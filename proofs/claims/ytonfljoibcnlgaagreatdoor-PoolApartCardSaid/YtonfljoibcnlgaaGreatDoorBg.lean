import Derived.Test.YtonfljoibcnlgaaGreatDoorBf
namespace Bd
open Go
def D.put : D → List Nat → D → Option D
 | _, [], y => some y
 | .st fs, i :: p, y => match fs[i]? with
  | some z => match D.put z p y with
   | some z' => some (.st (fs.set i z'))
   | none => none
  | none => none
 | .arr sz n xs, i :: p, y => match xs[i]? with
  | some z => match D.put z p y with
   | some z' => some (.arr sz n (xs.set i z'))
   | none => none
  | none => none
 | _, _ :: _, _ => none
def AV.put : AV → List Nat → AV → Option AV
 | _, [], y => some y
 | .st fs, i :: p, y => match fs[i]? with
  | some z => match AV.put z p y with
   | some z' => some (.st (fs.set i z'))
   | none => none
  | none => none
 | .d x, i :: p, .d y => match D.put x (i :: p) y with
  | some z => some (.d z)
  | none => none
 | _, _ :: _, _ => none
theorem sizes_set {fs : List D} {i : Nat} {y z : D} (h : fs[i]? = some y) (hs : z.size = y.size) : sizes (fs.set i z) = sizes fs := by
 induction fs generalizing i with
 | nil => simp at h
 | cons a fs ih =>
  cases i with
  | zero => simp at h; subst h; simp [sizes, hs]
  | succ i => simp at h; simp [sizes, ih h]
theorem asizes_set {fs : List AV} {i : Nat} {y z : AV} (h : fs[i]? = some y) (hs : z.size = y.size) : asizes (fs.set i z) = asizes fs := by
 induction fs generalizing i with
 | nil => simp at h
 | cons a fs ih =>
  cases i with
  | zero => simp at h; subst h; simp [asizes, hs]
  | succ i => simp at h; simp [asizes, ih h]
theorem put_size : ∀ {p : List Nat} {x y z old : D} {n : Nat}, D.put x p y = some z → x.at p = some (n, old) → y.size = old.size → z.size = x.size
 | [], x, y, z, old, n, h, ha, hs => by
  simp only [D.put, Option.some.injEq] at h
  simp only [D.at, Option.some.injEq, Prod.mk.injEq] at ha
  rw [← h, hs, ← ha.2]
 | i :: p, .st fs, y, z, old, n, h, ha, hs => by
  simp only [D.put, D.at] at h ha
  cases hi : fs[i]? with
  | none => simp [hi] at h
  | some q =>
   cases hp : D.put q p y with
   | none => simp [hi, hp] at h
   | some q' =>
    cases hq : q.at p with
    | none => simp [hi, hq] at ha
    | some m =>
     obtain ⟨m, o⟩ := m
     simp only [hi, hp, Option.some.injEq] at h
     simp only [hi, hq, Option.some.injEq, Prod.mk.injEq] at ha
     obtain ⟨_, rfl⟩ := ha
     subst h
     simp only [D.size]
     exact sizes_set hi (put_size hp hq hs)
 | i :: p, .arr sz k xs, y, z, old, n, h, ha, hs => by
  simp only [D.put] at h
  cases hi : xs[i]? with
  | none => simp [hi] at h
  | some q =>
   cases hp : D.put q p y with
   | none => simp [hi, hp] at h
   | some q' => simp only [hi, hp, Option.some.injEq] at h; subst h; rfl
 | _ :: _, .val _, _, _, _, _, h, _, _ => by simp [D.put] at h
 | _ :: _, .sl _ _, _, _, _, _, h, _, _ => by simp [D.put] at h
theorem splice2 (cs vs : List Value) (a n sz k : Nat) (h : a + sz ≤ cs.length) (hn : n + k ≤ sz) (hv : vs.length = k) :
  cs.take a ++ (((cs.drop a).take sz).take n ++ vs ++ ((cs.drop a).take sz).drop (n + k)) ++ cs.drop (a + sz) = cs.take (a + n) ++ vs ++ cs.drop (a + n + k) := by
 have e1 : ((cs.drop a).take sz).take n = (cs.drop a).take n := by rw [List.take_take, Nat.min_eq_left (by omega)]
 have e2 : ((cs.drop a).take sz).drop (n + k) ++ cs.drop (a + sz) = cs.drop (a + n + k) := by
  rw [List.drop_take, List.drop_drop, show a + (n + k) = a + n + k from by omega]
  have : cs.drop (a + sz) = (cs.drop (a + n + k)).drop (sz - (n + k)) := by rw [List.drop_drop]; congr 1; omega
  rw [this, List.take_append_drop]
 have e3 : cs.take (a + n) = cs.take a ++ (cs.drop a).take n := by rw [List.take_add]
 rw [e1, e3, List.append_assoc, List.append_assoc, List.append_assoc, e2, List.append_assoc, List.append_assoc]
theorem rep_put {F w} : ∀ {p : List Nat} {x y z old : D} {n : Nat} {cs vs : List Value}, D.put x p y = some z → x.at p = some (n, old) → y.size = old.size → Rep F w x cs → Rep F w y vs →
  Rep F w z (cs.take n ++ vs ++ cs.drop (n + y.size))
 | [], x, y, z, old, n, cs, vs, h, ha, hs, hx, hy => by
  simp only [D.put, Option.some.injEq] at h
  simp only [D.at, Option.some.injEq, Prod.mk.injEq] at ha
  obtain ⟨rfl, rfl⟩ := ha
  subst h
  have := rep_length hx
  rw [hs, ← this]; simpa using hy
 | i :: p, .st fs, y, z, old, n, cs, vs, h, ha, hs, hx, hy => by
  simp only [D.put, D.at] at h ha
  cases hi : fs[i]? with
  | none => simp [hi] at h
  | some q =>
   cases hp : D.put q p y with
   | none => simp [hi, hp] at h
   | some q' =>
    cases hq : q.at p with
    | none => simp [hi, hq] at ha
    | some m =>
     obtain ⟨m, o⟩ := m
     simp only [hi, hp, Option.some.injEq] at h
     simp only [hi, hq, Option.some.injEq, Prod.mk.injEq] at ha
     obtain ⟨rfl, rfl⟩ := ha
     subst h
     simp only [Rep] at hx ⊢
     obtain ⟨h1, h2⟩ := repAll_get hx hi
     have hl : ((cs.drop (sizes (fs.take i))).take q.size).length = q.size := by simp; omega
     have h3 := rep_put hp hq hs h1 hy
     have hsz := put_size hp hq hs
     have h4 := repAll_set hx hi hsz.symm h3
     rw [hsz, splice2 _ _ _ _ _ _ h2 (by have := (rep_at hq h1).2; rw [hl] at this; omega) (rep_length hy)] at h4
     exact h4
 | i :: p, .arr sz k xs, y, z, old, n, cs, vs, h, ha, hs, hx, hy => by
  simp only [D.put, D.at] at h ha
  cases hi : xs[i]? with
  | none => simp [hi] at h
  | some q =>
   cases hp : D.put q p y with
   | none => simp [hi, hp] at h
   | some q' =>
    cases hq : q.at p with
    | none => simp [hi, hq] at ha
    | some m =>
     obtain ⟨m, o⟩ := m
     simp only [hi, hp, Option.some.injEq] at h
     simp only [hi, hq, Option.some.injEq, Prod.mk.injEq] at ha
     obtain ⟨rfl, rfl⟩ := ha
     subst h
     simp only [Rep] at hx ⊢
     refine ⟨by simpa using hx.1, ?_⟩
     obtain ⟨h1, h2⟩ := repEach_get hx.2 hi
     have hl : ((cs.drop (i * sz)).take sz).length = sz := by simp; omega
     have h3 := rep_put hp hq hs h1 hy
     have hqs : q.size = sz := by have := rep_length h1; rw [hl] at this; exact this.symm
     have hl2 := rep_length h3
     rw [put_size hp hq hs, hqs] at hl2
     have h4 := repEach_set hx.2 (List.getElem?_eq_some_iff.1 hi).1 h3 hl2
     rw [splice2 _ _ _ _ _ _ h2 (by have := (rep_at hq h1).2; rw [hl] at this; omega) (rep_length hy)] at h4
     exact h4
 | _ :: _, .val _, _, _, _, _, _, _, h, _, _, _, _ => by simp [D.put] at h
 | _ :: _, .sl _ _, _, _, _, _, _, _, h, _, _, _, _ => by simp [D.put] at h
theorem ras_set {F μ w} : ∀ {fs : List AV} {cs : List Value} {i : Nat} {y x : AV} {vs : List Value}, RAs F μ w fs cs → fs[i]? = some y → y.size = x.size → RA F μ w x vs →
  RAs F μ w (fs.set i x) (cs.take (asizes (fs.take i)) ++ vs ++ cs.drop (asizes (fs.take i) + x.size))
 | [], cs, i, y, x, vs, h, hi, _, _ => by simp at hi
 | z :: fs, cs, 0, y, x, vs, h, hi, hs, hx => by
  simp only [RAs] at h
  obtain ⟨c1, c2, rfl, h1, h2⟩ := h
  simp at hi; subst hi
  have hl := ra_length h1
  simp only [List.take_zero, asizes, List.nil_append, Nat.zero_add, List.set_cons_zero]
  rw [← hs, ← hl, List.drop_left]
  exact ⟨vs, c2, rfl, hx, h2⟩
 | z :: fs, cs, i + 1, y, x, vs, h, hi, hs, hx => by
  simp only [RAs] at h
  obtain ⟨c1, c2, rfl, h1, h2⟩ := h
  simp at hi
  have hl := ra_length h1
  have := ras_set h2 hi hs hx
  simp only [List.take_succ_cons, asizes, List.set_cons_succ]
  refine ⟨c1, _, ?_, h1, this⟩
  rw [← hl, List.take_length_add_append, Nat.add_assoc, ← List.drop_drop, List.drop_left]
  simp
theorem aput_size : ∀ {p : List Nat} {x y z old : AV} {n : Nat}, AV.put x p y = some z → x.at p = some (n, old) → y.size = old.size → z.size = x.size
 | [], x, y, z, old, n, h, ha, hs => by
  have h : some y = some z := by cases x <;> exact h
  have ha : some (0, x) = some (n, old) := by cases x <;> exact ha
  simp only [Option.some.injEq, Prod.mk.injEq] at h ha
  rw [← h, hs, ← ha.2]
 | i :: p, .d x, .d y, z, old, n, h, ha, hs => by
  simp only [AV.put, AV.at] at h ha
  cases hp : D.put x (i :: p) y with
  | none => simp [hp] at h
  | some q =>
   cases hq : x.at (i :: p) with
   | none => simp [hq] at ha
   | some m =>
    obtain ⟨m, o⟩ := m
    simp only [hp, Option.some.injEq] at h
    simp only [hq, Option.some.injEq, Prod.mk.injEq] at ha
    obtain ⟨_, rfl⟩ := ha
    subst h
    simp only [AV.size] at hs ⊢
    exact put_size hp hq hs
 | i :: p, .st fs, y, z, old, n, h, ha, hs => by
  simp only [AV.put, AV.at] at h ha
  cases hi : fs[i]? with
  | none => simp [hi] at h
  | some q =>
   cases hp : AV.put q p y with
   | none => simp [hi, hp] at h
   | some q' =>
    cases hq : q.at p with
    | none => simp [hi, hq] at ha
    | some m =>
     obtain ⟨m, o⟩ := m
     simp only [hi, hp, Option.some.injEq] at h
     simp only [hi, hq, Option.some.injEq, Prod.mk.injEq] at ha
     obtain ⟨_, rfl⟩ := ha
     subst h
     simp only [AV.size]
     exact asizes_set hi (aput_size hp hq hs)
 | _ :: _, .d _, .st _, _, _, _, h, _, _ => by simp [AV.put] at h
 | _ :: _, .d _, .ptr .., _, _, _, h, _, _ => by simp [AV.put] at h
 | _ :: _, .d _, .slc .., _, _, _, h, _, _ => by simp [AV.put] at h
 | _ :: _, .d _, .fn .., _, _, _, h, _, _ => by simp [AV.put] at h
 | _ :: _, .d _, .pref .., _, _, _, h, _, _ => by simp [AV.put] at h
 | _ :: _, .d _, .res .., _, _, _, h, _, _ => by simp [AV.put] at h
 | _ :: _, .d _, .yld _, _, _, _, h, _, _ => by simp [AV.put] at h
 | _ :: _, .d _, .junk, _, _, _, h, _, _ => by simp [AV.put] at h
 | _ :: _, .ptr .., _, _, _, _, h, _, _ => by simp [AV.put] at h
 | _ :: _, .slc .., _, _, _, _, h, _, _ => by simp [AV.put] at h
 | _ :: _, .fn .., _, _, _, _, h, _, _ => by simp [AV.put] at h
 | _ :: _, .pref .., _, _, _, _, h, _, _ => by simp [AV.put] at h
 | _ :: _, .res .., _, _, _, _, h, _, _ => by simp [AV.put] at h
 | _ :: _, .yld _, _, _, _, _, h, _, _ => by simp [AV.put] at h
 | _ :: _, .junk, _, _, _, _, h, _, _ => by simp [AV.put] at h
theorem ra_put {F μ w} : ∀ {p : List Nat} {x y z old : AV} {n : Nat} {cs vs : List Value}, AV.put x p y = some z → x.at p = some (n, old) → y.size = old.size → RA F μ w x cs → RA F μ w y vs →
  RA F μ w z (cs.take n ++ vs ++ cs.drop (n + y.size))
 | [], x, y, z, old, n, cs, vs, h, ha, hs, hx, hy => by
  have h : some y = some z := by cases x <;> exact h
  have ha : some (0, x) = some (n, old) := by cases x <;> exact ha
  simp only [Option.some.injEq, Prod.mk.injEq] at h ha
  obtain ⟨rfl, rfl⟩ := ha
  subst h
  have := ra_length hx
  rw [hs, ← this]; simpa using hy
 | i :: p, .d x, .d y, z, old, n, cs, vs, h, ha, hs, hx, hy => by
  simp only [AV.put, AV.at] at h ha
  cases hp : D.put x (i :: p) y with
  | none => simp [hp] at h
  | some q =>
   cases hq : x.at (i :: p) with
   | none => simp [hq] at ha
   | some m =>
    obtain ⟨m, o⟩ := m
    simp only [hp, Option.some.injEq] at h
    simp only [hq, Option.some.injEq, Prod.mk.injEq] at ha
    obtain ⟨rfl, rfl⟩ := ha
    subst h
    simp only [AV.size, RA] at hs hx hy ⊢
    exact rep_put hp hq hs hx hy
 | i :: p, .st fs, y, z, old, n, cs, vs, h, ha, hs, hx, hy => by
  simp only [AV.put, AV.at] at h ha
  cases hi : fs[i]? with
  | none => simp [hi] at h
  | some q =>
   cases hp : AV.put q p y with
   | none => simp [hi, hp] at h
   | some q' =>
    cases hq : q.at p with
    | none => simp [hi, hq] at ha
    | some m =>
     obtain ⟨m, o⟩ := m
     simp only [hi, hp, Option.some.injEq] at h
     simp only [hi, hq, Option.some.injEq, Prod.mk.injEq] at ha
     obtain ⟨rfl, rfl⟩ := ha
     subst h
     simp only [RA] at hx ⊢
     obtain ⟨h1, h2⟩ := ras_get hx hi
     have hl : ((cs.drop (asizes (fs.take i))).take q.size).length = q.size := by simp; omega
     have h3 := ra_put hp hq hs h1 hy
     have hsz := aput_size hp hq hs
     have h4 := ras_set hx hi hsz.symm h3
     rw [hsz, splice2 _ _ _ _ _ _ h2 (by have := (ra_at hq h1).2; rw [hl] at this; omega) (ra_length hy)] at h4
     exact h4
 | _ :: _, .d _, .st _, _, _, _, _, _, h, _, _, _, _ => by simp [AV.put] at h
 | _ :: _, .d _, .ptr .., _, _, _, _, _, h, _, _, _, _ => by simp [AV.put] at h
 | _ :: _, .d _, .slc .., _, _, _, _, _, h, _, _, _, _ => by simp [AV.put] at h
 | _ :: _, .d _, .fn .., _, _, _, _, _, h, _, _, _, _ => by simp [AV.put] at h
 | _ :: _, .d _, .pref .., _, _, _, _, _, h, _, _, _, _ => by simp [AV.put] at h
 | _ :: _, .d _, .res .., _, _, _, _, _, h, _, _, _, _ => by simp [AV.put] at h
 | _ :: _, .d _, .yld _, _, _, _, _, _, h, _, _, _, _ => by simp [AV.put] at h
 | _ :: _, .d _, .junk, _, _, _, _, _, h, _, _, _, _ => by simp [AV.put] at h
 | _ :: _, .ptr .., _, _, _, _, _, _, h, _, _, _, _ => by simp [AV.put] at h
 | _ :: _, .slc .., _, _, _, _, _, _, h, _, _, _, _ => by simp [AV.put] at h
 | _ :: _, .fn .., _, _, _, _, _, _, h, _, _, _, _ => by simp [AV.put] at h
 | _ :: _, .pref .., _, _, _, _, _, _, h, _, _, _, _ => by simp [AV.put] at h
 | _ :: _, .res .., _, _, _, _, _, _, h, _, _, _, _ => by simp [AV.put] at h
 | _ :: _, .yld _, _, _, _, _, _, _, h, _, _, _, _ => by simp [AV.put] at h
 | _ :: _, .junk, _, _, _, _, _, _, h, _, _, _, _ => by simp [AV.put] at h
end Bd
