/-
  Arrays that are built of all their elements. No program is in sight.
-/
import Derived.Test.YtonfljoibcnlgaaDoorCb
namespace Bd
open Go

def idxs (k : Nat) : List D → List (Nat × AV)
  | [] => []
  | v :: vs => (k, .d v) :: idxs (k + 1) vs

theorem idxs_fst (k : Nat) : ∀ vs : List D, (idxs k vs).map (·.1) = List.range' k vs.length
  | [] => rfl
  | v :: vs => by simp only [idxs, List.map_cons, idxs_fst (k + 1) vs, List.length_cons, List.range'_succ]
theorem idxs_snd (k : Nat) : ∀ vs : List D, (idxs k vs).map (·.2) = vs.map .d
  | [] => rfl
  | v :: vs => by simp only [idxs, List.map_cons, idxs_snd (k + 1) vs]

theorem puts_fill {sz n : Nat} : ∀ (vs : List D) (k : Nat) (xs : List D), xs.length = n → k + vs.length = n → puts (.d (.arr sz n xs)) (idxs k vs) = some (.d (.arr sz n (xs.take k ++ vs)))
  | [], k, xs, h1, h2 => by
    simp only [List.length_nil, Nat.add_zero] at h2
    simp only [idxs, puts, List.append_nil]
    rw [List.take_of_length_le (by omega)]
  | v :: vs, k, xs, h1, h2 => by
    simp only [List.length_cons] at h2
    have hk : k < xs.length := by omega
    have e : xs[k]? = some xs[k] := List.getElem?_eq_getElem hk
    have := puts_fill (sz := sz) (n := n) vs (k + 1) (xs.set k v) (by simp [h1]) (by omega)
    simp only [idxs, puts, AV.put, D.put, e]
    rw [this]
    congr 3
    rw [List.take_succ_eq_append_getElem (by simpa using hk), List.take_set_of_le (Nat.le_refl _)]
    simp
theorem putsOk_fill {P : Program} {t : TypeId} {sz n : Nat} (ht : arrB P t = some (n, sz)) : ∀ (vs : List D) (k : Nat) (xs : List D), xs.length = n → k + vs.length = n → (∀ x ∈ xs, x.size = sz) → (∀ x ∈ vs, x.size = sz) → putsOk P t (.d (.arr sz n xs)) (idxs k vs)
  | [], k, xs, _, _, _, _ => trivial
  | v :: vs, k, xs, h1, h2, hx, hv => by
    simp only [List.length_cons] at h2
    have hk : k < xs.length := by omega
    have e : xs[k]? = some xs[k] := List.getElem?_eq_getElem hk
    have hs : xs[k].size = sz := hx _ (List.getElem_mem hk)
    have hvs := hv v (by simp)
    refine ⟨k * sz, .d xs[k], .d (.arr sz n (xs.set k v)), by simp [AV.at, D.at, e], ?_, by simp [AV.size, hs, hvs], by simp [AV.put, D.put, e], ?_⟩
    · unfold arrB at ht
      unfold placeB
      cases hu : P.underlying t with
      | none => simp [hu] at ht
      | some td =>
        cases td with
        | array n' e' =>
          simp only [hu] at ht ⊢
          cases hb : tyB P e' with
          | none => simp [hb] at ht
          | some q => simp only [hb, Option.map_some, Option.some.injEq, Prod.mk.injEq] at ht ⊢; simp [AV.size, hs, ht.2]
        | _ => simp [hu] at ht
    · refine putsOk_fill ht vs (k + 1) (xs.set k v) (by simp [h1]) (by omega) (fun x hx' => ?_) (fun x hx' => hv x (by simp [hx']))
      rcases List.mem_or_eq_of_mem_set hx' with h | h
      · exact hx x h
      · rw [h]; exact hvs

section
variable {P₀ : Program} {ns : Nat} {C : Ctx P₀ ns} {ops : Array Oper} {d ty : Nat} {ps : String} {af : Array Edge} {gd : Option (Nat × Bool)}
theorem f_buildF {t : TypeId} {parts : Array (Nat × Operand)} {sz n : Nat} {xs vs : List D} (hlt : Nat.blt d C.n = true) (hz : ∃ zv, zeroB P₀ t = some zv ∧ ∀ F μ w, RA F μ w (.d (.arr sz n xs)) zv.cells.toList)
    (hg : aggB P₀ t = true) (ht : arrB P₀ t = some (n, sz)) (hl : vs.length = n) (hlx : xs.length = n) (hi : parts.toList.map (·.1) = List.range' 0 n) (hx : ∀ x ∈ xs, x.size = sz) (hv : ∀ x ∈ vs, x.size = sz) :
    Fact C ⟨some d, .build t parts, ty, ps, af, gd⟩ { er := (parts.toList.map (·.2)).zip (vs.map .d), d := some (d, .d (.arr sz n vs)) } := by
  have h := f_build (ps := ps) (af := af) (gd := gd) (ty := ty) (C := C) (xs := idxs 0 vs) (z' := .d (.arr sz n vs)) hlt hz hg (by rw [hi, idxs_fst, hl]) (by
    have : ∀ (k : Nat) (vs : List D), ((idxs k vs).all fun p => p.2.mem) = true := by
      intro k vs
      induction vs generalizing k with
      | nil => rfl
      | cons v vs ih => simp only [idxs, List.all_cons, ih]; rfl
    exact this 0 vs) (putsOk_fill ht vs 0 xs hlx (by omega) hx hv) (by rw [puts_fill vs 0 xs hlx (by omega)]; simp) rfl
  rw [idxs_snd] at h
  exact h
end
end Bd
