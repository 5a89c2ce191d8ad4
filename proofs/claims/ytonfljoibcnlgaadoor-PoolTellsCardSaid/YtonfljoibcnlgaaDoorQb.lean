/-
  Which of two keys is ahead, as a function on lists of numbers. No machine is in sight.
-/
import Derived.Test.YtonfljoibcnlgaaDoorQa
import Derived.Test.YtonfljoibcnlgaaDoorPd
namespace Go.Proofs.YtonfljoibcnlgaaDoor
open Bd Go

/-- the bytes as the program holds them -/
abbrev toI (a : List Nat) : List Int := a.map Int.ofNat

theorem rd_toI {a : List Nat} {i : Nat} : rd (toI a) (i : Int) = (a[i]?).map Int.ofNat := by
  unfold rd; simp

theorem xor_u8 {x y : Nat} (hx : x < 256) (hy : y < 256) : bXor .u8 (Int.ofNat x) (Int.ofNat y) = Int.ofNat (x ^^^ y) := by
  have h := xor_lt hx hy
  show IntKind.u8.wrap (((BitVec.ofInt 8 (Int.ofNat x)) ^^^ (BitVec.ofInt 8 (Int.ofNat y))).toNat : Int) = _
  have e1 : BitVec.ofInt 8 (Int.ofNat x) = BitVec.ofNat 8 x := by simp
  have e2 : BitVec.ofInt 8 (Int.ofNat y) = BitVec.ofNat 8 y := by simp
  rw [e1, e2, BitVec.toNat_xor, BitVec.toNat_ofNat, BitVec.toNat_ofNat, Nat.mod_eq_of_lt hx, Nat.mod_eq_of_lt hy]
  rw [wu8 (by omega) (by omega)]; rfl

theorem drop_cons {a : List Nat} {m x : Nat} (h : a[m]? = some x) : a.drop m = x :: a.drop (m + 1) := by
  obtain ⟨h1, h2⟩ := List.getElem?_eq_some_iff.1 h
  rw [List.drop_eq_getElem_cons h1, h2]

/-- What the yielder finds. -/
def Finds (a b : List Nat) (m : Nat) : Option (Int × Int) → Prop
  | none => a.drop m = b.drop m
  | some (i, v) => ∃ j x y : Nat, m ≤ j ∧ j < 32 ∧ i = Int.ofNat j ∧ a[j]? = some x ∧ b[j]? = some y ∧ x ≠ y ∧ v = Int.ofNat (x ^^^ y) ∧ x < 256 ∧ y < 256 ∧
      ah (a.drop m) (b.drop m) = decide (x < y) ∧ sh (a.drop m) (b.drop m) = 8 * (j - m) + lzN (x ^^^ y)

theorem apart_spec {a b : List Nat} (ha : Bys a) (hb : Bys b) (la : a.length = 32) (lb : b.length = 32) : ∀ (n m : Nat), m ≤ 32 → 33 ≤ n + m → ∃ q, apartF (toI a) (toI b) n (m : Int) = some q ∧ Finds a b m q
  | 0, m, h1, h2 => by omega
  | n + 1, m, h1, h2 => by
    by_cases hm : m = 32
    · subst hm
      refine ⟨none, by simp [apartF], ?_⟩
      show a.drop 32 = b.drop 32
      rw [List.drop_of_length_le (by omega), List.drop_of_length_le (by omega)]
    · have hx : a[m]? = some (a[m]'(by omega)) := List.getElem?_eq_getElem (by omega)
      have hy : b[m]? = some (b[m]'(by omega)) := List.getElem?_eq_getElem (by omega)
      generalize a[m]'(by omega) = x at hx
      generalize b[m]'(by omega) = y at hy
      have bx : x < 256 := ha x (List.mem_of_getElem? hx)
      have byy : y < 256 := hb y (List.mem_of_getElem? hy)
      have hdec : decide ((m : Int) < 32) = true := by simp; omega
      have hstep : apartF (toI a) (toI b) (n + 1) (m : Int) = if x = y then apartF (toI a) (toI b) n ((m + 1 : Nat) : Int) else some (some (Int.ofNat m, Int.ofNat (x ^^^ y))) := by
        simp only [apartF, hdec, if_true, rd_toI, hx, hy, Option.map_some, Option.bind_some, xor_u8 bx byy]
        by_cases e : x = y
        · subst e
          simp only [Nat.xor_self, if_true]
          rw [if_neg (by simp), wi64 (by omega) (by omega)]; rfl
        · have := xor_ne e
          rw [if_neg e, if_pos (by simp; omega)]; rfl
      rw [hstep]
      by_cases e : x = y
      · subst e
        rw [if_pos rfl]
        obtain ⟨q, k1, k2⟩ := apart_spec ha hb la lb n (m + 1) (by omega) (by omega)
        refine ⟨q, k1, ?_⟩
        match q, k2 with
        | none, k2 => show a.drop m = b.drop m; rw [drop_cons hx, drop_cons hy]; rw [show a.drop (m + 1) = b.drop (m + 1) from k2]
        | some (i, v), ⟨j, x', y', q1, q2, q3, q4, q5, q6, q7, q8, q9, q10, q11⟩ =>
          refine ⟨j, x', y', by omega, q2, q3, q4, q5, q6, q7, q8, q9, ?_, ?_⟩
          · rw [drop_cons hx, drop_cons hy]; simp only [ah, if_true]; exact q10
          · rw [drop_cons hx, drop_cons hy]; simp only [sh, if_true, q11]; omega
      · rw [if_neg e]
        refine ⟨_, rfl, m, x, y, Nat.le_refl _, by omega, rfl, hx, hy, e, rfl, bx, byy, ?_, ?_⟩
        · rw [drop_cons hx, drop_cons hy]; simp [ah, e]
        · rw [drop_cons hx, drop_cons hy]; simp [sh, e]

theorem ah_self : ∀ (a : List Nat), ah a a = false
  | [] => rfl
  | x :: a => by simp [ah, ah_self a]
theorem sh_self : ∀ (a : List Nat), sh a a = 8 * a.length
  | [] => rfl
  | x :: a => by simp [sh, sh_self a]; omega

theorem ahead_val {a b : List Nat} {n : Nat} (hn : 33 ≤ n) (ha : Bys a) (hb : Bys b) (la : a.length = 32) (lb : b.length = 32) : F96_path_Ahead n (toI a) (toI b) = some (ah a b) := by
  obtain ⟨q, h1, h2⟩ := apart_spec ha hb la lb n 0 (by omega) (by omega)
  unfold F96_path_Ahead
  rw [show (0 : Int) = ((0 : Nat) : Int) from rfl, h1]
  match q, h2 with
  | none, h2 =>
    have e : a = b := by simpa [Finds] using h2
    subst e
    simp [ah_self]
  | some (i, v), ⟨j, x, y, q1, q2, q3, q4, q5, q6, q7, q8, q9, q10, q11⟩ =>
    subst q3
    simp only [Option.bind_some, Int.ofNat_eq_natCast, rd_toI, q4, q5, Option.map_some]
    simp only [List.drop_zero] at q10
    rw [q10]; simp

/-- a digest -/
def Dig (l : List Int) : Prop := l.length = 32 ∧ ∀ x ∈ l, 0 ≤ x ∧ x < 256
def aN (a : List Int) : List Nat := a.map Int.toNat
/-- a key is ahead of another one -/
def lt (a b : List Int) : Bool := ah (aN a) (aN b)
theorem aN_toI {a : List Int} (h : Dig a) : toI (aN a) = a := by
  unfold aN toI
  rw [List.map_map]
  conv => rhs; rw [← List.map_id a]
  exact List.map_congr_left fun x hx => by have := (h.2 x hx).1; simp; omega
theorem aN_bys {a : List Int} (h : Dig a) : Bys (aN a) := fun x hx => by
  obtain ⟨y, hy, rfl⟩ := List.mem_map.1 hx
  have := h.2 y hy; omega
theorem aN_len {a : List Int} (h : Dig a) : (aN a).length = 32 := by unfold aN; rw [List.length_map, h.1]
theorem aN_inj {a b : List Int} (ha : Dig a) (hb : Dig b) (h : aN a = aN b) : a = b := by rw [← aN_toI ha, h, aN_toI hb]
theorem lt_val {a b : List Int} (ha : Dig a) (hb : Dig b) : F96_path_Ahead 300 a b = some (lt a b) := by
  have := ahead_val (n := 300) (by omega) (aN_bys ha) (aN_bys hb) (aN_len ha) (aN_len hb)
  rwa [aN_toI ha, aN_toI hb] at this
theorem lt_self (a : List Int) : lt a a = false := ah_self _
theorem lt_anti {a b : List Int} (h : lt a b = true) : lt b a = false := by
  cases h2 : lt b a with
  | false => rfl
  | true => exact (ah_anti h h2).elim
theorem lt_trans {a b c : List Int} (ha : Dig a) (hb : Dig b) (hc : Dig c) (h1 : lt a b = true) (h2 : lt b c = true) : lt a c = true := ah_trans (by rw [aN_len ha, aN_len hb]) (by rw [aN_len hb, aN_len hc]) h1 h2
theorem lt_eq {a b : List Int} (ha : Dig a) (hb : Dig b) (h1 : lt a b = false) (h2 : lt b a = false) : a = b := aN_inj ha hb ((ah_eq (by rw [aN_len ha, aN_len hb])).2 ⟨h1, h2⟩)
theorem lt_ne {a b : List Int} (h : lt a b = true) : a ≠ b := fun e => by subst e; rw [lt_self] at h; cases h

/-! ### a sender's key is a digest -/
theorem loop_inv {σ β : Type} {f : σ → Option (σ ⊕ β)} (I : σ → Prop) (P : β → Prop) (h : ∀ z, I z → (∀ z', f z = some (.inl z') → I z') ∧ (∀ b, f z = some (.inr b) → P b)) : ∀ (n : Nat) (z : σ) (b : β), I z → loopF f n z = some b → P b
  | 0, z, b, _, e => by simp [loopF] at e
  | n + 1, z, b, hz, e => by
    simp only [loopF] at e
    cases hf : f z with
    | none => rw [hf] at e; cases e
    | some o =>
      rw [hf] at e
      cases o with
      | inl z' => exact loop_inv I P h n z' b ((h z hz).1 z' hf) e
      | inr b' =>
        simp only at e
        have e : b' = b := by simpa using e
        subst e
        exact (h z hz).2 b' hf
def Byt (l : List Int) : Prop := ∀ x ∈ l, 0 ≤ x ∧ x < 256
theorem wrap8 (x : Int) : 0 ≤ IntKind.u8.wrap x ∧ IntKind.u8.wrap x < 256 := by simp [IntKind.wrap, IntKind.bits, IntKind.signed]; omega
theorem byt_set {l : List Int} (h : Byt l) (i : Nat) {v : Int} (hv : 0 ≤ v ∧ v < 256) : Byt (l.set i v) := fun x hx => by
  rcases List.mem_or_eq_of_mem_set hx with hx | rfl
  · exact h x hx
  · exact hv
theorem of_byt {ps : List (List Int)} {r : List Int} (h : F137_sha_Of 300 ps = some r) : Byt r := by
  unfold F137_sha_Of at h
  obtain ⟨o, _, h⟩ := bind_some h
  obtain ⟨_, h⟩ := ifp h
  obtain ⟨o1, _, h⟩ := bind_some h
  obtain ⟨o2, _, h⟩ := bind_some h
  obtain ⟨o3, _, h⟩ := bind_some h
  obtain ⟨o4, h4, h⟩ := bind_some h
  have e : o4 = r := by simpa using h
  subst e
  refine loop_inv (fun z : Int × List Int => Byt z.2) Byt ?_ 300 _ _ ?_ h4
  · rintro ⟨i, z⟩ hz
    unfold F137_sha_Of_s5
    by_cases hi : i < 32
    · simp only [decide_eq_true hi, if_true]
      refine ⟨fun z' e => ?_, fun b e => ?_⟩
      · obtain ⟨x, _, e⟩ := bind_some e
        obtain ⟨_, e⟩ := ifp e
        obtain ⟨y, _, e⟩ := bind_some e
        have e := Sum.inl.inj (Option.some.inj e)
        subst e
        exact byt_set hz _ (wrap8 _)
      · obtain ⟨x, _, e⟩ := bind_some e
        obtain ⟨_, e⟩ := ifp e
        obtain ⟨y, _, e⟩ := bind_some e
        cases Option.some.inj e
    · simp only [decide_eq_false hi, Bool.false_eq_true, if_false]
      refine ⟨fun z' e => (by cases Option.some.inj e), fun b e => ?_⟩
      have e := Sum.inr.inj (Option.some.inj e)
      subst e; exact hz
  · intro x hx
    have := List.eq_of_mem_replicate hx
    subst this; decide
theorem ky_dig {k : List Int} (h : k.length = 32) : Dig (ky k) := by
  obtain ⟨e, hl⟩ := ky_val h
  refine ⟨hl, ?_⟩
  unfold F84_acct_Key F115_tag_Of at e
  obtain ⟨y, e1, e⟩ := bind_some e
  have e1' := e1
  obtain ⟨b, _, e2⟩ := bind_some e1
  obtain ⟨r, e3, e4⟩ := bind_some e2
  have e4 : r = y := by simpa using e4
  have e : y = ky k := by simpa using e
  rw [← e, ← e4]
  exact of_byt e3


/-- transactions as they are handed in -/
structure TxD (x : GTx) : Prop where
  ok : TxOk x
  pub : Dig x.Pub
  to : Dig x.To
  amount : 0 ≤ x.Amount ∧ x.Amount < 18446744073709551616
end Go.Proofs.YtonfljoibcnlgaaDoor
