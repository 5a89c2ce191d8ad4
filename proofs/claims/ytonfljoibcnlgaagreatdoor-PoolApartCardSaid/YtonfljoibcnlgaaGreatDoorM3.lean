import Derived.Test.YtonfljoibcnlgaaGreatDoorM1
import Derived.KernelRfl
import Derived.Test.YtonfljoibcnlgaaGreatDoorM2
namespace Go.Proofs.YtonfljoibcnlgaaGreatDoor
open Bd Go
theorem tab_lead : ((List.range 256).all fun v => decide (F172_bits_LeadingZeros8 0 (Int.ofNat v) = some (Int.ofNat (lzN v)))) = true := by kernel_rfl
theorem lead {n v : Nat} (hv : v < 256) : F172_bits_LeadingZeros8 n (Int.ofNat v) = some (Int.ofNat (lzN v)) := by
  have h := List.all_eq_true.1 tab_lead v (List.mem_range.2 hv)
  exact of_decide_eq_true h
theorem shared_val {a b : List Nat} {n : Nat} (hn : 33 ≤ n) (ha : Bys a) (hb : Bys b) (la : a.length = 32) (lb : b.length = 32) : F163_path_Shared n (toI a) (toI b) = some (Int.ofNat (sh a b)) := by
  obtain ⟨q, h1, h2⟩ := apart_spec ha hb la lb n 0 (by omega) (by omega)
  unfold F163_path_Shared
  rw [show (0 : Int) = ((0 : Nat) : Int) from rfl, h1]
  match q, h2 with
  | none, h2 =>
    have e : a = b := by simpa [Finds] using h2
    subst e
    simp [sh_self, la]
  | some (i, v), ⟨j, x, y, q1, q2, q3, q4, q5, q6, q7, q8, q9, q10, q11⟩ =>
    subst q3; subst q7
    simp only [Option.bind_some, lead (xor_lt q8 q9)]
    simp only [List.drop_zero] at q11
    have := lz_le (x ^^^ y)
    simp only [Int.ofNat_eq_natCast]
    rw [wi64 (x := 8 * (j : Int)) (by omega) (by omega), wi64 (by omega) (by omega), q11]
    exact congrArg some (by omega)
def bit8 (c r : Nat) : Nat := c / 2 ^ (7 - r) % 2
def byteAt (a : List Nat) (k : Nat) : Nat := (a[k / 8]?).getD 0
def bitv (a : List Nat) (k : Nat) : Nat := bit8 (byteAt a k) (k % 8)
def flip8 (c r : Nat) : Nat := c ^^^ 2 ^ (7 - r)
def flip (a : List Nat) (k : Nat) : List Nat := a.set (k / 8) (flip8 (byteAt a k) (k % 8))
def all2 (n m : Nat) (p : Nat → Nat → Bool) : Bool := (List.range n).all fun c => (List.range m).all fun r => p c r
theorem all2_get {n m : Nat} {p : Nat → Nat → Bool} (h : all2 n m p = true) {c r : Nat} (hc : c < n) (hr : r < m) : p c r = true :=
  List.all_eq_true.1 (List.all_eq_true.1 h c (List.mem_range.2 hc)) r (List.mem_range.2 hr)
theorem tab_bit : all2 256 8 (fun c r => decide (0 ≤ IntKind.i64.wrap ((7 : Int) - Int.ofNat r) ∧ bAnd .u8 (shr .u8 (Int.ofNat c) (IntKind.i64.wrap ((7 : Int) - Int.ofNat r))) (1 : Int) = Int.ofNat (bit8 c r))) = true := by kernel_rfl
theorem tab_turn : all2 256 8 (fun c r => decide (bXor .u8 (Int.ofNat c) (shr .u8 (128 : Int) (Int.ofNat r)) = Int.ofNat (flip8 c r) ∧ flip8 c r < 256 ∧ flip8 (flip8 c r) r = c ∧
    (if bit8 c r = 1 then IntKind.u8.wrap (Int.ofNat c - Int.ofNat (2 ^ (7 - r))) else IntKind.u8.wrap (Int.ofNat c + Int.ofNat (2 ^ (7 - r)))) = Int.ofNat (flip8 c r) ∧
    c ≠ flip8 c r ∧ lzN (c ^^^ flip8 c r) = r ∧ decide (c < flip8 c r) = (bit8 c r == 0) ∧ bit8 c r < 2 ∧ 2 * (c / 2 ^ (8 - r)) + bit8 c r = c / 2 ^ (7 - r) ∧ c / 2 ^ (7 - r) < 256)) = true := by kernel_rfl
theorem tdiv8 (k : Nat) : Int.tdiv (k : Int) (8 : Int) = ((k / 8 : Nat) : Int) := rfl
theorem tmod8 (k : Nat) : Int.tmod (k : Int) (8 : Int) = ((k % 8 : Nat) : Int) := rfl
section
variable {a : List Nat} {k n : Nat}
theorem byteAt_get (la : a.length = 32) (hk : k < 256) : a[k / 8]? = some (byteAt a k) := by
  unfold byteAt
  rw [List.getElem?_eq_getElem (by omega)]; rfl
theorem byteAt_lt (ha : Bys a) (la : a.length = 32) (hk : k < 256) : byteAt a k < 256 := ha _ (List.mem_of_getElem? (byteAt_get la hk))
theorem wrap_q (hk : k < 256) : IntKind.i64.wrap (Int.tdiv (k : Int) (8 : Int)) = ((k / 8 : Nat) : Int) := by rw [tdiv8]; exact wi64 (by omega) (by omega)
theorem rd_q (la : a.length = 32) (hk : k < 256) : rd (toI a) (IntKind.i64.wrap (Int.tdiv (k : Int) (8 : Int))) = some (Int.ofNat (byteAt a k)) := by
  rw [wrap_q hk, rd_toI, byteAt_get la hk]; rfl
theorem bit_val (ha : Bys a) (la : a.length = 32) (hk : k < 256) : F165_path_Bit n (toI a) (k : Int) = some (Int.ofNat (bitv a k), 0) := by
  have h := of_decide_eq_true (all2_get tab_bit (byteAt_lt ha la hk) (Nat.mod_lt k (by omega : 8 > 0)))
  unfold F165_path_Bit
  rw [if_neg (by simp)]
  simp only [Option.bind_some]
  rw [if_neg (by simp; omega), rd_q la hk, Option.bind_some, tmod8, show ((k % 8 : Nat) : Int) = Int.ofNat (k % 8) from rfl]
  rw [if_pos h.1, h.2]; rfl
theorem set_toI {a : List Nat} {q x : Nat} : (toI a).set q (Int.ofNat x) = toI (a.set q x) := by rw [toI, toI, List.map_set]
theorem turn_val (ha : Bys a) (la : a.length = 32) (hk : k < 256) : F164_path_Turn n (toI a) (k : Int) = some (toI (flip a k), 0) := by
  have h := of_decide_eq_true (all2_get tab_turn (byteAt_lt ha la hk) (Nat.mod_lt k (by omega : 8 > 0)))
  unfold F164_path_Turn
  rw [if_neg (by simp)]
  simp only [Option.bind_some]
  rw [if_neg (by simp; omega), rd_q la hk, Option.bind_some, tmod8, if_pos (by omega), Option.bind_some]
  rw [show ((k % 8 : Nat) : Int) = Int.ofNat (k % 8) from rfl, h.1, wrap_q hk]
  rw [show (((k / 8 : Nat) : Int)).toNat = k / 8 from rfl, set_toI]; rfl
end
theorem turn_tab {c r : Nat} (hc : c < 256) (hr : r < 8) : flip8 c r < 256 ∧ flip8 (flip8 c r) r = c ∧ c ≠ flip8 c r ∧ lzN (c ^^^ flip8 c r) = r ∧ decide (c < flip8 c r) = (bit8 c r == 0) ∧ bit8 c r < 2 ∧
    2 * (c / 2 ^ (8 - r)) + bit8 c r = c / 2 ^ (7 - r) ∧ c / 2 ^ (7 - r) < 256 := by
  have h := of_decide_eq_true (all2_get tab_turn hc hr)
  exact ⟨h.2.1, h.2.2.1, h.2.2.2.2.1, h.2.2.2.2.2.1, h.2.2.2.2.2.2.1, h.2.2.2.2.2.2.2.1, h.2.2.2.2.2.2.2.2.1, h.2.2.2.2.2.2.2.2.2⟩
section
variable {a : List Nat} {k : Nat}
theorem flip_len : (flip a k).length = a.length := by simp [flip]
theorem flip_bys (ha : Bys a) (la : a.length = 32) (hk : k < 256) : Bys (flip a k) := by
  intro x hx
  rcases List.mem_or_eq_of_mem_set hx with h | rfl
  · exact ha x h
  · exact (turn_tab (byteAt_lt ha la hk) (Nat.mod_lt k (by omega))).1
end
theorem flip_low {x : Nat} {a : List Nat} {k : Nat} (h : k < 8) : flip (x :: a) k = flip8 x k :: a := by
  unfold flip byteAt
  rw [show k / 8 = 0 from by omega, Nat.mod_eq_of_lt h]; rfl
theorem flip_high {x : Nat} {a : List Nat} {k : Nat} : flip (x :: a) (8 + k) = x :: flip a k := by
  unfold flip byteAt
  rw [show (8 + k) / 8 = k / 8 + 1 from by omega, show (8 + k) % 8 = k % 8 from by omega]; rfl
theorem bitv_low {x : Nat} {a : List Nat} {k : Nat} (h : k < 8) : bitv (x :: a) k = bit8 x k := by
  unfold bitv byteAt
  rw [show k / 8 = 0 from by omega, Nat.mod_eq_of_lt h]; rfl
theorem bitv_high {x : Nat} {a : List Nat} {k : Nat} : bitv (x :: a) (8 + k) = bitv a k := by
  unfold bitv byteAt
  rw [show (8 + k) / 8 = k / 8 + 1 from by omega, show (8 + k) % 8 = k % 8 from by omega]; rfl
theorem sh_flip : ∀ {a : List Nat} {k : Nat}, Bys a → k < 8 * a.length → sh a (flip a k) = k ∧ ah a (flip a k) = (bitv a k == 0)
  | [], k, _, h => by simp at h
  | x :: a, k, ha, h => by
    by_cases hk : k < 8
    · obtain ⟨_, _, h3, h4, h5, _⟩ := turn_tab (ha x (by simp)) hk
      rw [flip_low hk, bitv_low hk]
      simp only [sh, ah, if_neg h3]
      exact ⟨h4, h5⟩
    · obtain ⟨j, rfl⟩ : ∃ j, k = 8 + j := ⟨k - 8, by omega⟩
      obtain ⟨h1, h2⟩ := sh_flip (a := a) (k := j) (fun z hz => ha z (by simp [hz])) (by simp at h; omega)
      rw [flip_high, bitv_high]
      simp only [sh, ah, if_true, h1, h2, and_self]
def turnI (a : List Int) (k : Nat) : List Int := toI (flip (aN a) k)
def bitI (a : List Int) (k : Nat) : Nat := bitv (aN a) k
def shI (a b : List Int) : Nat := sh (aN a) (aN b)
theorem toI_dig {a : List Nat} (h : Bys a) (hl : a.length = 32) : Dig (toI a) := ⟨by simp [hl], fun x hx => by
  obtain ⟨y, hy, rfl⟩ := List.mem_map.1 hx
  have := h y hy
  simp; omega⟩
theorem aN_toI' (a : List Nat) : aN (toI a) = a := by
  unfold aN toI
  rw [List.map_map]
  conv => rhs; rw [← List.map_id a]
  exact List.map_congr_left fun x _ => by simp
theorem turnI_dig {a : List Int} (h : Dig a) {k : Nat} (hk : k < 256) : Dig (turnI a k) := toI_dig (flip_bys (aN_bys h) (aN_len h) hk) (by rw [flip_len, aN_len h])
theorem turnI_val {n : Nat} {a : List Int} (h : Dig a) {k : Nat} (hk : k < 256) : F164_path_Turn n a (k : Int) = some (turnI a k, 0) := by
  have := turn_val (n := n) (aN_bys h) (aN_len h) hk
  rwa [aN_toI h] at this
theorem bitI_val {n : Nat} {a : List Int} (h : Dig a) {k : Nat} (hk : k < 256) : F146_tree_bit n a (k : Int) = some ((bitI a k : Nat) : Int) := by
  have := bit_val (n := n) (aN_bys h) (aN_len h) hk
  rw [aN_toI h] at this
  unfold F146_tree_bit
  rw [this]; rfl
theorem bitI_lt (a : List Int) (k : Nat) : bitI a k < 2 := by unfold bitI bitv bit8; omega
theorem shI_val {n : Nat} (hn : 33 ≤ n) {a b : List Int} (ha : Dig a) (hb : Dig b) : F163_path_Shared n a b = some ((shI a b : Nat) : Int) := by
  have := shared_val hn (aN_bys ha) (aN_bys hb) (aN_len ha) (aN_len hb)
  rwa [aN_toI ha, aN_toI hb] at this
theorem shI_turn {a : List Int} (h : Dig a) {k : Nat} (hk : k < 256) : shI a (turnI a k) = k := by
  unfold shI turnI
  rw [aN_toI']
  exact (sh_flip (aN_bys h) (by rw [aN_len h]; omega)).1
theorem shI_symm (a b : List Int) : shI a b = shI b a := sh_symm _ _
theorem shI_tri {a b c : List Int} (ha : Dig a) (hb : Dig b) (hc : Dig c) : min (shI a b) (shI b c) ≤ shI a c := sh_tri (aN_bys ha) (aN_bys hb) (aN_bys hc) (by rw [aN_len ha, aN_len hb]) (by rw [aN_len hb, aN_len hc])
end Go.Proofs.YtonfljoibcnlgaaGreatDoor
namespace Go.Proofs.YtonfljoibcnlgaaGreatDoor
open Bd Go
structure NodeD (x : GNode) : Prop where
  key : Dig x.Key
structure TreeD (t : GTree) : Prop where
  node : ∀ x ∈ t.Nodes, NodeD x
  len : t.Nodes.length ≤ 600
theorem great06_val (t : GTree) : ∃ b, F7_beadrollref06_Great 1000 t 600 = some b ∧ (b = false → t.Nodes.length ≤ 600 ∧ ∀ x ∈ t.Nodes, x.Value.length ≤ 100) := by
  unfold F7_beadrollref06_Great
  obtain ⟨b, hb, hP⟩ := loop_ok (f := fun z => F7_beadrollref06_Great_s0 t 600 z) (fun z => ∃ k : Nat, z = (k : Int) ∧ k ≤ 601 ∧ k ≤ t.Nodes.length ∧ ∀ x ∈ t.Nodes.take k, x.Value.length ≤ 100) (fun z => (601 - z).toNat) (fun b : Unit ⊕ Unit => b = .inl () → t.Nodes.length ≤ 600 → ∀ x ∈ t.Nodes, x.Value.length ≤ 100) (by
    rintro z ⟨k, rfl, hk, hkl, hall⟩
    unfold F7_beadrollref06_Great_s0
    by_cases hi : k < t.Nodes.length ∧ k ≤ 600
    · rw [if_pos (by simpa using hi.1)]
      simp only [Option.bind_some]
      obtain ⟨x, hx⟩ : ∃ x, t.Nodes[k]? = some x := ⟨_, List.getElem?_eq_getElem hi.1⟩
      rw [if_pos (by have := hi.2; simp; omega), rd_nat, hx]
      simp only [Option.bind_some]
      by_cases hv : (x.Value.length : Int) > 100
      · rw [if_pos (by simpa using hv)]
        intro h; cases h
      · rw [if_neg (by simpa using hv)]
        simp only [StepOk]
        rw [wi64 (by omega) (by omega)]
        refine ⟨⟨k + 1, by simp, by omega, by omega, fun y hy => ?_⟩, by omega⟩
        rw [List.take_add_one, hx] at hy
        rcases List.mem_append.1 hy with hy | hy
        · exact hall y hy
        · simp only [Option.toList_some, List.mem_singleton] at hy; subst hy; omega
    · have he : ((if decide ((k : Int) < (t.Nodes.length : Int)) = true then some (decide ((k : Int) ≤ (600 : Int))) else some false) : Option Bool) = some false := by
        by_cases h1 : k < t.Nodes.length
        · rw [if_pos (by simpa using h1)]
          have : ¬ k ≤ 600 := fun h => hi ⟨h1, h⟩
          simp; omega
        · rw [if_neg (by simpa using h1)]
      rw [he]
      simp only [Option.bind_some, Bool.false_eq_true, if_false]
      intro _ h6 x hx
      have : k = t.Nodes.length := by omega
      subst this
      rw [List.take_length] at hall
      exact hall x hx) 1000 0 ⟨0, rfl, by omega, by omega, by simp⟩ (by simp)
  rw [hb]
  simp only [Option.bind_some]
  rcases b with ⟨⟩ | ⟨⟩
  · refine ⟨_, rfl, fun h => ?_⟩
    have : ¬ (t.Nodes.length : Int) > 600 := by simpa using h
    exact ⟨by omega, hP rfl (by omega)⟩
  · exact ⟨true, rfl, by simp⟩
structure OneP (x : GNode) (i : Int) : Prop where
  leaf : x.Leaf = true → x.Value.length ≤ 64
  fork : x.Leaf = false → 0 ≤ x.Left ∧ x.Left ≤ i ∧ 0 ≤ x.Right ∧ x.Right ≤ i
theorem value_val (n : Nat) (v : List Int) : F171_pairs_value n v = some (decide ((v.length : Int) > 0) && decide ((v.length : Int) ≤ 64)) := by
  unfold F171_pairs_value
  by_cases h : (v.length : Int) > 0
  · simp only [decide_eq_true h, if_true, Option.bind_some, Bool.true_and]
  · simp only [decide_eq_false h, Bool.false_eq_true, if_false, Option.bind_some, Bool.false_and]
theorem check1_val (p : GPair) : ∃ e, F162_pairs_Check 1000 [p] = some e ∧ (e = 0 → p.Value.length ≤ 64) := by
  unfold F162_pairs_Check
  rw [if_neg (by simp)]
  obtain ⟨b, hb, hP⟩ := loop_ok (f := fun z => F162_pairs_Check_s0 1000 [p] z) (fun z => z = 0 ∨ (z = 1 ∧ p.Value.length ≤ 64)) (fun z => (1 - z).toNat) (fun b : Unit ⊕ Unit => b = .inl () → p.Value.length ≤ 64) (by
    intro z hz
    unfold F162_pairs_Check_s0
    rcases hz with rfl | ⟨rfl, hv⟩
    · have h0 : rd [p] 0 = some p := rfl
      rw [if_pos (by simp), h0]
      simp only [Option.bind_some]
      rw [value_val]
      simp only [Option.bind_some]
      cases hc : (decide ((p.Value.length : Int) > 0) && decide ((p.Value.length : Int) ≤ 64)) with
      | false =>
        rw [if_pos (by simp)]
        simp only [Option.bind_some, if_true, StepOk]
        intro h; cases h
      | true =>
        rw [if_neg (by simp), if_neg (by simp)]
        simp only [Option.bind_some, Bool.false_eq_true, if_false, StepOk]
        rw [wi64 (by omega) (by omega)]
        simp only [Bool.and_eq_true, decide_eq_true_eq] at hc
        exact ⟨.inr ⟨by omega, by omega⟩, by decide⟩
    · rw [if_neg (by simp)]
      exact fun _ => hv) 1000 0 (.inl rfl) (by simp)
  rw [hb]
  simp only [Option.bind_some]
  rcases b with ⟨⟩ | ⟨⟩
  · exact ⟨0, rfl, fun _ => hP rfl⟩
  · exact ⟨8, rfl, fun h => by cases h⟩
theorem one_ok (x : GNode) {i : Int} : ∃ b, F143_tree_one 1000 x i = some b ∧ (b = true → OneP x i) := by
  unfold F143_tree_one
  by_cases hl : x.Leaf = true
  · rw [if_pos hl]
    obtain ⟨e, he, hv⟩ := check1_val ⟨x.Key, x.Value⟩
    by_cases h1 : (x.Left == 0) = true
    · rw [if_pos h1]
      by_cases h2 : (x.Right == 0) = true
      · rw [if_pos h2, he]
        refine ⟨_, rfl, fun h => ⟨fun _ => hv (by simpa using h), fun h' => by rw [hl] at h'; cases h'⟩⟩
      · rw [if_neg h2]; exact ⟨false, rfl, by simp⟩
    · rw [if_neg h1]; exact ⟨false, rfl, by simp⟩
  · rw [if_neg hl]
    have hl' : x.Leaf = false := by simpa using hl
    have hr : F145_tree_roads 1000 x = some [x.Left, x.Right] := rfl
    rw [hr]
    simp only [Option.bind_some]
    obtain ⟨b, hb, hP⟩ := loop_ok (f := fun z => F143_tree_one_s0 i [x.Left, x.Right] z) (fun z => z = 0 ∨ (z = 1 ∧ 0 ≤ x.Left ∧ x.Left ≤ i) ∨ (z = 2 ∧ 0 ≤ x.Left ∧ x.Left ≤ i ∧ 0 ≤ x.Right ∧ x.Right ≤ i)) (fun z => (2 - z).toNat) (fun b : Unit ⊕ Unit => b = .inl () → 0 ≤ x.Left ∧ x.Left ≤ i ∧ 0 ≤ x.Right ∧ x.Right ≤ i) (by
      intro z hz
      unfold F143_tree_one_s0
      have r0 : rd [x.Left, x.Right] 0 = some x.Left := rfl
      have r1 : rd [x.Left, x.Right] 1 = some x.Right := rfl
      rcases hz with rfl | ⟨rfl, h1⟩ | ⟨rfl, h1⟩
      · rw [if_pos (by simp), r0]
        simp only [Option.bind_some]
        by_cases h : x.Left < 0
        · rw [if_pos (by simpa using h)]; intro h; cases h
        · rw [if_neg (by simpa using h)]
          simp only [Option.bind_some]
          by_cases h' : x.Left > i
          · rw [if_pos (by simpa using h')]; intro h; cases h
          · rw [if_neg (by simpa using h')]
            simp only [StepOk]
            rw [wi64 (by omega) (by omega)]
            exact ⟨.inr (.inl ⟨by omega, by omega, by omega⟩), by decide⟩
      · rw [if_pos (by simp), r1]
        simp only [Option.bind_some]
        by_cases h : x.Right < 0
        · rw [if_pos (by simpa using h)]; intro h; cases h
        · rw [if_neg (by simpa using h)]
          simp only [Option.bind_some]
          by_cases h' : x.Right > i
          · rw [if_pos (by simpa using h')]; intro h; cases h
          · rw [if_neg (by simpa using h')]
            simp only [StepOk]
            rw [wi64 (by omega) (by omega)]
            exact ⟨.inr (.inr ⟨by omega, h1.1, h1.2, by omega, by omega⟩), by decide⟩
      · rw [if_neg (by simp)]
        exact fun _ => h1) 1000 0 (.inl rfl) (by simp)
    rw [hb]
    simp only [Option.bind_some]
    rcases b with ⟨⟩ | ⟨⟩
    · simp only [Sum.elim_inl]
      have hp := hP rfl
      have key : ∀ o : Option Bool, (∃ b, o = some b) → ∃ b, (o.bind fun o22 => some o22) = some b ∧ (b = true → OneP x i) := fun o ⟨b, e⟩ => ⟨b, by rw [e]; rfl, fun _ => ⟨fun h => (by rw [hl'] at h; cases h), fun _ => hp⟩⟩
      refine key _ ?_
      split
      · split <;> exact ⟨_, rfl⟩
      · exact ⟨_, rfl⟩
    · exact ⟨false, rfl, by simp⟩
def Ones (t : GTree) : Prop := ∀ (i : Nat) x, t.Nodes[i]? = some x → OneP x i
def findF (t : GTree) (k : List Int) (f : Nat) (n d : Int) : Option (Unit ⊕ Int) := loopF (fun z : Int × Int => F111_tree_find_s0 1000 t k z.1 z.2) f (n, d)
structure Good (t : GTree) (n : Int) (d : Nat) (begin_ : List Int) (l : List GPair) : Prop where
  each : eachF t (258 - d) n = some l
  keys : ∀ p ∈ l, Dig p.Key ∧ d ≤ shI p.Key begin_
  nodup : (l.map (·.Key)).Nodup
  mem : ∀ p ∈ l, ∃ x ∈ t.Nodes, x.Key = p.Key
  find : ∀ k, Dig k → ∀ f, 258 - d ≤ f → ∃ r, findF t k f n d = some r ∧ ∀ j, r = .inr j → j = 0 ∨ (0 < j ∧ ∃ x, t.Nodes[(j - 1).toNat]? = some x ∧ j ≤ t.Nodes.length ∧ (⟨x.Key, x.Value⟩ : GPair) ∈ l)
theorem right_ok {t : GTree} (ht : TreeD t) (ho : Ones t) : ∀ (e d : Nat), d + e = 257 → 1 ≤ e → ∀ (n : Int) (b : List Int) (m : Nat), 0 ≤ n → n ≤ t.Nodes.length → Dig b → 1000 ≤ m + d + 60 → ∃ q, F144_tree_right (m + 1) t n d b = some q ∧ (q.1 = true → ∃ l, Good t n d b l)
  | 0, d, _, h1, _, _, _, _, _, _, _ => by omega
  | e + 1, d, hde, _, n, b, m, hn0, hn1, hb, hm => by
    have hlen := ht.len
    unfold F144_tree_right
    by_cases h0 : n = 0
    · subst h0
      rw [if_pos (by simp)]
      refine ⟨_, rfl, fun _ => ⟨[], ?_, by simp, by simp, by simp, fun k _ f hf => ⟨.inl (), ?_, by simp⟩⟩⟩
      · rw [show 258 - d = (257 - d) + 1 from by omega]
        simp [eachF]
      · obtain ⟨f, rfl⟩ : ∃ g, f = g + 1 := ⟨f - 1, by omega⟩
        unfold findF
        simp only [loopF]
        unfold F111_tree_find_s0
        rw [if_neg (by simp)]
    · have hnp : 0 < n := by omega
      rw [if_neg (by simpa using h0), wi64 (by omega) (by omega)]
      obtain ⟨x, hx⟩ : ∃ x, t.Nodes[(n - 1).toNat]? = some x := ⟨_, List.getElem?_eq_getElem (by omega)⟩
      have hrd : rd t.Nodes (n - 1) = some x := by unfold rd; rw [if_pos (by omega), hx]
      rw [hrd]
      simp only [Option.bind_some]
      have hxm := List.mem_of_getElem? hx
      have hxk := (ht.node x hxm).key
      have hone := ho _ x hx
      have h258 : 258 - d = (257 - d) + 1 := by omega
      by_cases hl : x.Leaf = true
      · rw [if_pos hl, shI_val (by omega) hxk hb]
        simp only [Option.bind_some]
        refine ⟨_, rfl, fun hq => ⟨[⟨x.Key, x.Value⟩], ?_, ?_, by simp, ?_, fun k _ f hf => ?_⟩⟩
        · rw [h258]
          simp only [eachF]
          rw [if_neg (by simpa using h0), wi64 (by omega) (by omega), hrd]
          simp only [Option.bind_some]
          rw [if_pos hl]
          unfold F112_Clone
          rw [if_pos (by have := hone.leaf hl; omega)]; rfl
        · intro p hp
          simp only [List.mem_singleton] at hp; subst hp
          have : (d : Int) ≤ (shI x.Key b : Int) := by simpa using hq
          exact ⟨hxk, by show d ≤ shI x.Key b; omega⟩
        · intro p hp
          simp only [List.mem_singleton] at hp; subst hp
          exact ⟨x, hxm, rfl⟩
        · obtain ⟨f, rfl⟩ : ∃ g, f = g + 1 := ⟨f - 1, by omega⟩
          unfold findF
          simp only [loopF]
          unfold F111_tree_find_s0
          rw [if_pos (by simpa using hnp), wi64 (by omega) (by omega), hrd]
          simp only [Option.bind_some]
          rw [if_pos hl]
          by_cases hk : x.Key = k
          · rw [if_pos (by simpa using hk)]
            refine ⟨_, rfl, fun j hj => .inr ?_⟩
            cases hj
            exact ⟨hnp, x, hx, by omega, by simp⟩
          · rw [if_neg (by simpa using hk)]
            refine ⟨_, rfl, fun j hj => .inl ?_⟩
            cases hj; rfl
      · rw [if_neg hl]
        have hl' : x.Leaf = false := by simpa using hl
        by_cases hd : d = 256
        · subst hd
          rw [if_pos (by simp)]
          exact ⟨_, rfl, by simp⟩
        · rw [if_neg (by simp; omega)]
          have hd' : d < 256 := by omega
          rw [turnI_val hb hd']
          simp only [Option.bind_some]
          obtain ⟨o1, o2, o3, o4⟩ := hone.fork hl'
          have htd := turnI_dig hb hd'
          obtain ⟨m, rfl⟩ : ∃ k, m = k + 1 := ⟨m - 1, by omega⟩
          obtain ⟨q0, a1, a2⟩ := right_ok ht ho e (d + 1) (by omega) (by omega) x.Left b m (by omega) (by omega) hb (by omega)
          obtain ⟨q1, b1, b2⟩ := right_ok ht ho e (d + 1) (by omega) (by omega) x.Right (turnI b d) m (by omega) (by omega) htd (by omega)
          have hw : IntKind.i64.wrap ((d : Int) + 1) = ((d + 1 : Nat) : Int) := by rw [wi64 (by omega) (by omega)]; omega
          have hroads : F145_tree_roads (m + 1) x = some [x.Left, x.Right] := rfl
          have r0 : rd [x.Left, x.Right] 0 = some x.Left := rfl
          have r1 : rd [x.Left, x.Right] 1 = some x.Right := rfl
          have k0 : rd [b, turnI b d] 0 = some b := rfl
          have k1 : rd [b, turnI b d] 1 = some (turnI b d) := rfl
          have w1 : IntKind.i64.wrap ((0 : Int) + 1) = 1 := by decide +kernel
          have w2 : IntKind.i64.wrap ((1 : Int) + 1) = 2 := by decide +kernel
          have hgood : q0.1 = true → q1.1 = true → ∃ l, Good t n d b l := fun c0 c1 => by
            obtain ⟨la, ga⟩ := a2 c0
            obtain ⟨lb, gb⟩ := b2 c1
            refine ⟨la ++ lb, ?_, ?_, ?_, ?_, fun k hk f hf => ?_⟩
            · rw [h258]
              simp only [eachF]
              rw [if_neg (by simpa using h0), wi64 (by omega) (by omega), hrd]
              simp only [Option.bind_some]
              rw [if_neg hl]
              have ea := ga.each
              have eb := gb.each
              rw [show 258 - (d + 1) = 257 - d from by omega] at ea eb
              rw [ea]
              simp only [Option.bind_some]
              rw [eb]; rfl
            · intro p hp
              rcases List.mem_append.1 hp with hp | hp
              · obtain ⟨p1, p2⟩ := ga.keys p hp
                exact ⟨p1, by omega⟩
              · obtain ⟨p1, p2⟩ := gb.keys p hp
                have := shI_tri p1 htd hb
                rw [shI_symm (turnI b d) b, shI_turn hb hd'] at this
                exact ⟨p1, by omega⟩
            · rw [List.map_append]
              refine List.nodup_append.2 ⟨ga.nodup, gb.nodup, fun k1 hk1 k2 hk2 e => ?_⟩
              subst e
              obtain ⟨p, hp, rfl⟩ := List.mem_map.1 hk1
              obtain ⟨p', hp', e⟩ := List.mem_map.1 hk2
              obtain ⟨p1, p2⟩ := ga.keys p hp
              obtain ⟨_, p4⟩ := gb.keys p' hp'
              rw [e] at p4
              have := shI_tri hb p1 htd
              rw [shI_symm b p.Key, shI_turn hb hd'] at this
              omega
            · intro p hp
              rcases List.mem_append.1 hp with hp | hp
              · exact ga.mem p hp
              · exact gb.mem p hp
            · obtain ⟨f, rfl⟩ : ∃ g, f = g + 1 := ⟨f - 1, by omega⟩
              have hbit := bitI_lt k d
              unfold findF
              simp only [loopF]
              have hs : F111_tree_find_s0 1000 t k n (d : Int) = some (.inl ((if bitI k d = 0 then x.Left else x.Right), ((d + 1 : Nat) : Int))) := by
                unfold F111_tree_find_s0
                have hr' : F145_tree_roads 1000 x = some [x.Left, x.Right] := rfl
                rw [if_pos (by simpa using hnp), wi64 (by omega) (by omega), hrd]
                simp only [Option.bind_some]
                rw [if_neg hl, hr', bitI_val hk hd']
                simp only [Option.bind_some]
                rw [hw]
                have hb01 : bitI k d = 0 ∨ bitI k d = 1 := by omega
                rcases hb01 with hb0 | hb0
                · rw [hb0]
                  rw [show rd [x.Left, x.Right] ((0 : Nat) : Int) = some x.Left from rfl]; rfl
                · rw [hb0]
                  rw [show rd [x.Left, x.Right] ((1 : Nat) : Int) = some x.Right from rfl]; rfl
              rw [hs]
              simp only
              by_cases hb0 : bitI k d = 0
              · rw [if_pos hb0]
                obtain ⟨r, r1, r2⟩ := ga.find k hk f (by omega)
                refine ⟨r, r1, fun j hj => ?_⟩
                rcases r2 j hj with h | ⟨h1, y, h2, h3, h4⟩
                · exact .inl h
                · exact .inr ⟨h1, y, h2, h3, by simp [h4]⟩
              · rw [if_neg hb0]
                obtain ⟨r, r1, r2⟩ := gb.find k hk f (by omega)
                refine ⟨r, r1, fun j hj => ?_⟩
                rcases r2 j hj with h | ⟨h1, y, h2, h3, h4⟩
                · exact .inl h
                · exact .inr ⟨h1, y, h2, h3, by simp [h4]⟩
          have d0 : decide ((0 : Int) < 2) = true := rfl
          have d1 : decide ((1 : Int) < 2) = true := rfl
          have d2 : decide ((2 : Int) < 2) = false := rfl
          obtain ⟨m, rfl⟩ : ∃ k, m = k + 3 := ⟨m - 3, by omega⟩
          cases c0 : q0.1 with
          | false =>
            refine ⟨(false, false), ?_, by simp⟩
            simp only [loopF, k0, r0, hroads, Option.bind_some, hw, a1, d0, c0, Bool.not_false, if_true, Sum.elim_inr]
          | true =>
            cases c1 : q1.1 with
            | false =>
              refine ⟨(false, false), ?_, by simp⟩
              cases hL : decide (x.Left > 0) <;> cases e0 : q0.2 <;>
                simp only [loopF, k0, k1, r0, r1, hroads, Option.bind_some, hw, a1, b1, d0, d1, w1, c0, c1, hL, e0, Bool.not_false, Bool.not_true, Bool.false_eq_true, if_true, if_false, Sum.elim_inr]
            | true =>
              have hex : ∀ o : Option (Bool × Bool), (∃ q, o = some q) → ∃ q, o = some q ∧ (q.1 = true → ∃ l, Good t n d b l) := fun o ⟨q, e⟩ => ⟨q, e, fun _ => hgood c0 c1⟩
              refine hex _ ?_
              cases hL : decide (x.Left > 0) <;> cases e0 : q0.2 <;> cases hR : decide (x.Right > 0) <;> cases e1 : q1.2 <;>
                simp only [loopF, k0, k1, r0, r1, hroads, Option.bind_some, hw, a1, b1, d0, d1, d2, w1, w2, c0, c1, hL, hR, e0, e1, Bool.not_false, Bool.not_true, Bool.false_eq_true, if_true, if_false, Sum.elim_inl] <;> exact ⟨_, rfl⟩
end Go.Proofs.YtonfljoibcnlgaaGreatDoor
namespace Go.Proofs.YtonfljoibcnlgaaGreatDoor
open Bd Go
def zk : List Int := List.replicate 32 (0 : Int)
theorem zk_dig : Dig zk := ⟨by simp [zk], fun x hx => by have := List.eq_of_mem_replicate hx; subst this; decide⟩
theorem treecheck_val {t : GTree} (ht : TreeD t) : ∃ e, F110_tree_Check 1000 t = some e ∧ (e = 0 → ∃ l, Good t t.Root 0 zk l) := by
  have hlen := ht.len
  unfold F110_tree_Check
  rw [if_neg (by simp; omega)]
  by_cases h1 : t.Root < 0
  · rw [if_pos (by simpa using h1)]
    exact ⟨8, rfl, fun h => by cases h⟩
  rw [if_neg (by simpa using h1)]
  simp only [Option.bind_some]
  by_cases h2 : t.Root > t.Nodes.length
  · rw [if_pos (by simpa using h2)]
    exact ⟨8, rfl, fun h => by cases h⟩
  rw [if_neg (by simpa using h2)]
  obtain ⟨b, hb, hP⟩ := loop_ok (f := fun z => F110_tree_Check_s0 1000 t z) (fun z => ∃ k : Nat, z = (k : Int) ∧ k ≤ t.Nodes.length ∧ ∀ i, i < k → ∀ x, t.Nodes[i]? = some x → OneP x i) (fun z => (t.Nodes.length - z).toNat) (fun b : Unit ⊕ Unit => b = .inl () → Ones t) (by
    rintro z ⟨k, rfl, hk, hall⟩
    unfold F110_tree_Check_s0
    by_cases hi : k < t.Nodes.length
    · rw [if_pos (by simpa using hi), rd_nat]
      obtain ⟨x, hx⟩ : ∃ x, t.Nodes[k]? = some x := ⟨_, List.getElem?_eq_getElem hi⟩
      rw [hx]
      simp only [Option.bind_some]
      obtain ⟨b, hb, ho⟩ := one_ok x (i := (k : Int))
      rw [hb]
      simp only [Option.bind_some]
      cases b with
      | false => rw [if_pos (by simp)]; intro h; cases h
      | true =>
        rw [if_neg (by simp)]
        simp only [StepOk]
        rw [wi64 (by omega) (by omega)]
        refine ⟨⟨k + 1, by simp, by omega, fun i hik y hy => ?_⟩, by omega⟩
        by_cases e : i = k
        · subst e; rw [hx] at hy; cases hy; exact ho rfl
        · exact hall i (by omega) y hy
    · rw [if_neg (by simpa using hi)]
      exact fun _ i x hx => hall i (by have := (List.getElem?_eq_some_iff.1 hx).1; omega) x hx) 1000 0 ⟨0, rfl, by omega, fun i hi => by omega⟩ (by simp; omega)
  rw [hb]
  simp only [Option.bind_some]
  rcases b with ⟨⟩ | ⟨⟩
  · simp only [Sum.elim_inl]
    obtain ⟨q, hq, hg⟩ := right_ok ht (hP rfl) 257 0 (by omega) (by omega) t.Root zk (1000 - 1) (by omega) (by omega) zk_dig (by omega)
    rw [show (1000 - 1 + 1 : Nat) = 1000 from rfl] at hq
    rw [show (List.replicate 32 (0 : Int)) = zk from rfl, show (0 : Int) = ((0 : Nat) : Int) from rfl, hq]
    simp only [Option.bind_some]
    cases hc : q.1 with
    | true => rw [if_neg (by simp)]; exact ⟨0, rfl, fun _ => hg hc⟩
    | false => rw [if_pos (by simp)]; exact ⟨8, rfl, fun h => by cases h⟩
  · exact ⟨8, rfl, fun h => by cases h⟩
theorem each_up {t : GTree} : ∀ (d : Nat) {n : Int} {l : List GPair}, eachF t d n = some l → eachF t (d + 1) n = some l
  | 0, n, l, h => by simp [eachF] at h
  | d + 1, n, l, h => by
    rw [eachF]
    rw [eachF] at h
    by_cases h0 : (n == 0) = true
    · rw [if_pos h0] at h ⊢; exact h
    · rw [if_neg h0] at h ⊢
      obtain ⟨x, hx, h⟩ := bind_some h
      rw [hx]
      simp only [Option.bind_some]
      by_cases hl : x.Leaf = true
      · rw [if_pos hl] at h ⊢; exact h
      · rw [if_neg hl] at h ⊢
        obtain ⟨a, ha, h⟩ := bind_some h
        obtain ⟨b, hb, h⟩ := bind_some h
        rw [each_up d ha]
        simp only [Option.bind_some]
        rw [each_up d hb]
        exact h
theorem each_ups {t : GTree} {d : Nat} {n : Int} {l : List GPair} (h : eachF t d n = some l) : ∀ k, eachF t (d + k) n = some l
  | 0 => h
  | k + 1 => each_up (d + k) (each_ups h k)
theorem nodup_len {α : Type} [DecidableEq α] : ∀ {l m : List α}, l.Nodup → (∀ x ∈ l, x ∈ m) → l.length ≤ m.length
  | [], m, _, _ => by simp
  | x :: l, m, hn, hs => by
    obtain ⟨n1, n2⟩ := List.nodup_cons.1 hn
    have hx := hs x (by simp)
    have := nodup_len (l := l) (m := m.erase x) n2 fun y hy => by
      have hne : y ≠ x := fun e => n1 (e ▸ hy)
      exact (List.mem_erase_of_ne hne).2 (hs y (by simp [hy]))
    rw [List.length_erase_of_mem hx] at this
    have hpos : 0 < m.length := List.length_pos_of_mem hx
    simp only [List.length_cons]
    omega
theorem good_len {t : GTree} {n : Int} {d : Nat} {b : List Int} {l : List GPair} (h : Good t n d b l) : l.length ≤ t.Nodes.length := by
  have := nodup_len (l := l.map (·.Key)) (m := t.Nodes.map (·.Key)) h.nodup fun k hk => by
    obtain ⟨p, hp, rfl⟩ := List.mem_map.1 hk
    obtain ⟨x, hx, e⟩ := h.mem p hp
    exact List.mem_map.2 ⟨x, hx, e⟩
  simpa using this
theorem pairs_val {t : GTree} (ht : TreeD t) : ∃ q : List GPair × Int, F109_tree_Pairs 1000 t = some q ∧ ((q.2 ≠ 0 ∧ F110_tree_Check 1000 t = some q.2) ∨ (q.2 = 0 ∧ F110_tree_Check 1000 t = some 0 ∧ Good t t.Root 0 zk q.1)) := by
  obtain ⟨e, he, hg⟩ := treecheck_val ht
  unfold F109_tree_Pairs
  rw [he]
  simp only [Option.bind_some]
  by_cases h0 : e = 0
  · subst h0
    obtain ⟨l, hl⟩ := hg rfl
    have hlen := good_len hl
    have := ht.len
    have h1 := each_ups hl.each (1000 - 258)
    rw [show 258 - 0 + (1000 - 258) = 1000 from rfl] at h1
    have h2 : F141_api_Pair_bfd 1000 t.Root t = some l := by
      unfold F141_api_Pair_bfd F160_all
      rw [h1]
      simp only [Option.bind_some]
      rw [if_pos (by omega)]; rfl
    rw [if_neg (by simp)]
    refine ⟨(l, 0), ?_, .inr ⟨rfl, rfl, hl⟩⟩
    simp only [F142_tree_each, Option.bind_some, h2]
  · rw [if_pos (by simpa using h0)]
    exact ⟨([], e), rfl, .inl ⟨h0, rfl⟩⟩
theorem take_val {b : List Int} (hb : b.length ≤ 100000) : ∃ q : Int × List Int × Int, F113_num_Take 1000 b 8 = some q ∧ (0 ≤ q.1 ∧ q.1 < 18446744073709551616) ∧ q.2.1.length ≤ b.length := by
  unfold F113_num_Take
  rw [if_neg (by simp)]
  simp only [Option.bind_some]
  rw [if_neg (by simp)]
  by_cases h8 : b.length < 8
  · rw [if_pos (by simp; omega)]
    exact ⟨_, rfl, by simp, by simp⟩
  · rw [if_neg (by simp; omega), if_pos (by omega)]
    obtain ⟨v, hv, hP⟩ := loop_ok (f := fun z : Int × Int => F113_num_Take_s0 b 8 z.1 z.2) (fun z => (0 ≤ z.1 ∧ z.1 < 18446744073709551616) ∧ ∃ k : Nat, z.2 = (k : Int) ∧ k ≤ 8) (fun z => (8 - z.2).toNat) (fun v : Int => 0 ≤ v ∧ v < 18446744073709551616) (by
      rintro ⟨v, z⟩ ⟨hv, k, e, hk⟩
      simp only at hv e
      subst e
      have hl : (b.take (8 : Int).toNat).length = 8 := by rw [List.length_take]; show min 8 b.length = 8; omega
      unfold F113_num_Take_s0
      simp only
      rw [hl]
      by_cases hi : k < 8
      · rw [if_pos (by simp; omega), rd_nat, List.getElem?_eq_getElem (by omega)]
        simp only [Option.bind_some, StepOk]
        rw [wi64 (by omega) (by omega)]
        exact ⟨⟨u64_range _, k + 1, by simp, by omega⟩, by omega⟩
      · rw [if_neg (by simp; omega)]
        exact hv) 1000 ((0 : Int), (0 : Int)) ⟨by decide, 0, rfl, by omega⟩ (by simp)
    rw [hv]
    simp only [Option.bind_some]
    rw [if_pos (by omega)]
    unfold F112_Clone
    rw [if_pos (by rw [List.length_drop]; omega)]
    exact ⟨_, rfl, hP, by simp⟩
theorem read_val {b : List Int} (hb : b.length ≤ 100000) : ∃ a e, F71_acct_Read 1000 b = some (a, e) ∧ (0 ≤ a.Nonce ∧ a.Nonce < 18446744073709551616) := by
  obtain ⟨q, h1, h2, h3⟩ := take_val hb
  obtain ⟨q', g1, g2, g3⟩ := take_val (b := q.2.1) (by omega)
  unfold F71_acct_Read
  rw [h1]
  simp only [Option.bind_some]
  by_cases e1 : (q.2.2 != 0) = true
  · rw [if_pos e1]; exact ⟨_, _, rfl, by decide⟩
  · rw [if_neg e1, g1]
    simp only [Option.bind_some]
    by_cases e2 : (q'.2.2 != 0) = true
    · rw [if_pos e2]; exact ⟨_, _, rfl, by decide⟩
    · rw [if_neg e2]
      unfold F114_num_End
      by_cases e3 : decide ((q'.2.1.length : Int) > 0) = true
      · rw [if_pos e3]; exact ⟨_, _, rfl, by decide⟩
      · rw [if_neg e3]
        simp only [Option.bind_some]
        rw [if_neg (by simp)]
        split
        · exact ⟨_, _, rfl, by decide⟩
        · exact ⟨_, _, rfl, h2⟩
theorem each_values {t : GTree} (hv : ∀ x ∈ t.Nodes, x.Value.length ≤ 100000) : ∀ (d : Nat) {n : Int} {l : List GPair}, eachF t d n = some l → ∀ p ∈ l, p.Value.length ≤ 100000
  | 0, n, l, h, p, hp => by simp [eachF] at h
  | d + 1, n, l, h, p, hp => by
    rw [eachF] at h
    by_cases h0 : (n == 0) = true
    · rw [if_pos h0] at h; cases Option.some.inj h; cases hp
    · rw [if_neg h0] at h
      obtain ⟨x, hx, h⟩ := bind_some h
      by_cases hl : x.Leaf = true
      · rw [if_pos hl] at h
        obtain ⟨v, hv', h⟩ := bind_some h
        have h := Option.some.inj h
        subst h
        simp only [List.mem_singleton] at hp
        subst hp
        unfold F112_Clone at hv'
        obtain ⟨_, hv'⟩ := ifp hv'
        have hv' := Option.some.inj hv'
        subst hv'
        exact hv x (rd_mem hx)
      · rw [if_neg hl] at h
        obtain ⟨a, ha, h⟩ := bind_some h
        obtain ⟨b, hb, h⟩ := bind_some h
        have h := Option.some.inj h
        subst h
        rcases List.mem_append.1 hp with hp | hp
        · exact each_values hv d ha p hp
        · exact each_values hv d hb p hp
structure TreeV (t : GTree) : Prop extends TreeD t where
  vals : ∀ x ∈ t.Nodes, x.Value.length ≤ 100
theorem acheck_val {t : GTree} (ht : TreeV t) : ∃ e, F31_acct_Check 1000 t = some e ∧ (e = 0 → ∃ l, F110_tree_Check 1000 t = some 0 ∧ Good t t.Root 0 zk l ∧ ∀ p ∈ l, ∃ a, F71_acct_Read 1000 p.Value = some (a, 0)) := by
  have hlen := ht.len
  unfold F31_acct_Check F67_acct_each
  simp only [Option.bind_some]
  obtain ⟨⟨l, e⟩, h1, h2⟩ := pairs_val ht.toTreeD
  rw [h1]
  simp only [Option.bind_some]
  simp only at h2
  rcases h2 with ⟨h0, _⟩ | ⟨rfl, hc, hg⟩
  · rw [if_pos (by simpa using h0)]
    exact ⟨8, rfl, fun h => by cases h⟩
  · rw [if_neg (by simp)]
    have hll := good_len hg
    have hvl := each_values (fun x hx => by have := ht.vals x hx; omega) _ hg.each
    obtain ⟨b, hb, hP⟩ := loop_ok (f := fun z => F31_acct_Check_s0 1000 (l, 0) z) (fun z => ∃ k : Nat, z = (k : Int) ∧ k ≤ l.length ∧ ∀ i, i < k → ∀ p, l[i]? = some p → ∃ a, F71_acct_Read 1000 p.Value = some (a, 0)) (fun z => (l.length - z).toNat) (fun b : Unit ⊕ Unit => b = .inl () → ∀ p ∈ l, ∃ a, F71_acct_Read 1000 p.Value = some (a, 0)) (by
      rintro z ⟨k, rfl, hk, hall⟩
      unfold F31_acct_Check_s0
      simp only
      by_cases hi : k < l.length
      · rw [if_pos (by simpa using hi), rd_nat]
        obtain ⟨p, hp⟩ : ∃ p, l[k]? = some p := ⟨_, List.getElem?_eq_getElem hi⟩
        rw [hp]
        simp only [Option.bind_some]
        obtain ⟨a, e, he, _⟩ := read_val (hvl p (List.mem_of_getElem? hp))
        rw [he]
        simp only [Option.bind_some]
        by_cases e0 : e = 0
        · subst e0
          rw [if_neg (by simp)]
          simp only [StepOk]
          rw [wi64 (by omega) (by omega)]
          refine ⟨⟨k + 1, by simp, by omega, fun i hik y hy => ?_⟩, by omega⟩
          by_cases ei : i = k
          · subst ei; rw [hp] at hy; cases hy; exact ⟨a, he⟩
          · exact hall i (by omega) y hy
        · rw [if_pos (by simpa using e0)]
          intro h; cases h
      · rw [if_neg (by simpa using hi)]
        intro _ p hp
        obtain ⟨i, hi'⟩ := List.getElem?_of_mem hp
        exact hall i (by have := (List.getElem?_eq_some_iff.1 hi').1; omega) p hi') 1000 0 ⟨0, rfl, by omega, fun i hi => by omega⟩ (by simp; omega)
    rw [hb]
    simp only [Option.bind_some]
    rcases b with ⟨⟩ | ⟨⟩
    · exact ⟨0, rfl, fun _ => ⟨l, hc, hg, hP rfl⟩⟩
    · exact ⟨8, rfl, fun h => by cases h⟩
theorem get_val {t : GTree} (ht : TreeV t) {k : List Int} (hk : Dig k) : ∃ a e, F33_acct_Get 1000 t k = some (a, e) ∧ (0 ≤ a.Nonce ∧ a.Nonce < 18446744073709551616) ∧ (F31_acct_Check 1000 t = some 0 → e = 0) := by
  obtain ⟨e, he, hg⟩ := acheck_val ht
  unfold F33_acct_Get
  rw [he]
  simp only [Option.bind_some]
  by_cases h0 : e = 0
  · subst h0
    rw [if_neg (by simp)]
    obtain ⟨l, hc, hgood, hread⟩ := hg rfl
    obtain ⟨r, hr, hj⟩ := hgood.find k hk 1000 (by omega)
    have hr' : loopF (fun z : Int × Int => F111_tree_find_s0 1000 t k z.1 z.2) 1000 (t.Root, (0 : Int)) = some r := hr
    have hlen := ht.len
    unfold F70_tree_Get F111_tree_find
    rw [hc, hr']
    simp only [Option.bind_some]
    rw [if_neg (by simp)]
    rcases r with ⟨⟩ | j
    · simp only [Sum.elim_inl, Option.bind_some]
      rw [if_pos (by simp)]
      simp only [Option.bind_some]
      rw [if_pos (by simp)]
      exact ⟨_, _, rfl, by decide, fun _ => rfl⟩
    · simp only [Sum.elim_inr, Option.bind_some]
      rcases hj j rfl with rfl | ⟨h1, x, h2, h3, h4⟩
      · rw [if_pos (by simp)]
        simp only [Option.bind_some]
        rw [if_pos (by simp)]
        exact ⟨_, _, rfl, by decide, fun _ => rfl⟩
      · have hrd : rd t.Nodes (IntKind.i64.wrap (j - 1)) = some x := by
          rw [wi64 (by omega) (by omega)]
          unfold rd; rw [if_pos (by omega), h2]
        rw [if_neg (by simp; omega), hrd]
        simp only [Option.bind_some]
        have hv := ht.vals x (List.mem_of_getElem? h2)
        unfold F112_Clone
        rw [if_pos (by omega)]
        simp only [Option.bind_some]
        rw [if_neg (by simp)]
        obtain ⟨a, ha⟩ := hread _ h4
        obtain ⟨a', e', h5, h6⟩ := read_val (b := x.Value) (by omega)
        have ha' : F71_acct_Read 1000 x.Value = some (a, 0) := ha
        rw [ha'] at h5
        cases h5
        rw [ha']
        exact ⟨_, _, rfl, h6, fun _ => rfl⟩
  · rw [if_pos (by simpa using h0)]
    refine ⟨_, _, rfl, by decide, fun h => ?_⟩
    exact absurd (Option.some.inj h) h0
end Go.Proofs.YtonfljoibcnlgaaGreatDoor
namespace Go.Proofs.YtonfljoibcnlgaaGreatDoor
open Bd Go
def Bet (P Q : List GLine) : Prop := ∀ f, ∀ y ∈ (lineOf P f).Txs, ∃ y' ∈ (lineOf Q f).Txs, y'.Nonce = y.Nonce ∧ (y' = y ∨ y.Fee < y'.Fee)
theorem Bet.refl (P : List GLine) : Bet P P := fun _ y hy => ⟨y, hy, rfl, .inl rfl⟩
theorem Bet.trans {P Q R : List GLine} (h : Bet P Q) (k : Bet Q R) : Bet P R := fun f y hy => by
  obtain ⟨y1, h1, h2, h3⟩ := h f y hy
  obtain ⟨y2, k1, k2, k3⟩ := k f y1 h1
  refine ⟨y2, k1, by rw [k2, h2], ?_⟩
  rcases h3 with rfl | h3
  · exact k3
  · rcases k3 with rfl | k3
    · exact .inr h3
    · exact .inr (by omega)
theorem Bet.has {P Q : List GLine} (h : Bet P Q) {f : List Int} {n fee : Int} (k : ∃ y ∈ (lineOf P f).Txs, y.Nonce = n ∧ fee ≤ y.Fee) : ∃ y ∈ (lineOf Q f).Txs, y.Nonce = n ∧ fee ≤ y.Fee := by
  obtain ⟨y, h1, h2, h3⟩ := k
  obtain ⟨y', g1, g2, g3⟩ := h f y h1
  refine ⟨y', g1, by rw [g2, h2], ?_⟩
  rcases g3 with rfl | g3
  · exact h3
  · omega
theorem back_step {P : List GLine} (hm : MayS P) (hs : ShOk P) (hlen : P.length ≤ 40) (hc : cnt P ≤ 100) {x : GTx} (hx : TxOk x) (hsg : x.Sign = sg x) :
    F45_shard_part_line_4f5 1000 (ky x.Pub) P = some (lineOf P (ky x.Pub)) ∧ ∃ q : GLine × List GTx × Int, F44_queue_Put 1000 (lineOf P (ky x.Pub)) x = some q ∧
      ((q.2.2 = 190 ∧ ∃ y ∈ (lineOf P (ky x.Pub)).Txs, y.Nonce = x.Nonce ∧ x.Fee ≤ y.Fee) ∨
       (q.2.2 = 0 ∧ ∃ P', F36_shard_part_set_08b 1000 q.1 P = some P' ∧ MayS P' ∧ ShOk P' ∧ P'.length ≤ P.length + 1 ∧ cnt P' ≤ cnt P + 1 ∧ Bet P P' ∧ x ∈ (lineOf P' (ky x.Pub)).Txs ∧ ∀ l ∈ P', l.From = ky x.Pub ∨ l ∈ P)) := by
  have hfd : Dig (ky x.Pub) := ky_dig hx.pub
  refine ⟨line_val hs.dig hm.2 hfd (by omega), ?_⟩
  have hl0 := lineOf_ok hs hfd.1
  have hm0 := lineOf_may hm (ky x.Pub)
  have hf0 := lineOf_from P (ky x.Pub)
  have hc0 := lineOf_cnt P (ky x.Pub)
  have ho : own x (lineOf P (ky x.Pub)).From = true := by rw [hf0]; simp [own, hsg]
  rcases put_own hl0 hm0 hx ho (by omega) with ⟨y, y1, y2, y3, he⟩ | ⟨A, S, old, hT⟩
  · exact ⟨_, he, .inl ⟨rfl, y, y1, y2, y3⟩⟩
  · have hmay := takes_may hm0 (by omega) ho hT
    have hline := takes_line hl0 hx hT
    obtain ⟨h1, h2, h3, h4, h5⟩ := hT
    rw [hf0] at h1 hmay hline
    obtain ⟨A1, M1, S1, hA, hset⟩ := set_val hs.dig hm.2 (l := ⟨ky x.Pub, A ++ x :: S⟩) hfd (by omega)
    obtain ⟨n1, n2, n3, n4, n5, n6⟩ := setL_spec hs.dig hm hfd hmay hA
    simp only at n2 n3 n4
    have hlen2 : (lineOf P (ky x.Pub)).Txs.length = A.length + old.length + S.length := by rw [h2]; simp [Nat.add_assoc]
    refine ⟨_, h1, .inr ⟨rfl, _, hset, n1, ⟨fun l hl => ?_, fun l hl => ?_⟩, n5, ?_, fun f y hy => ?_, by rw [n2]; simp, fun l hl => by
      rcases n6 l hl with rfl | h
      · exact .inl rfl
      · exact .inr h⟩⟩
    · rcases n6 l hl with rfl | h
      · exact hline
      · exact hs.line l h
    · rcases n6 l hl with rfl | h
      · exact hfd
      · exact hs.dig l h
    · simp only [List.length_append, List.length_cons] at n4
      omega
    · by_cases hf : f = ky x.Pub
      · subst hf
        rw [n2]
        rw [h2] at hy
        rcases List.mem_append.1 hy with h | h
        · rcases List.mem_append.1 h with h | h
          · exact ⟨y, by simp [h], rfl, .inl rfl⟩
          · rcases h3 with rfl | ⟨z, rfl, z1, z2⟩
            · cases h
            · simp only [List.mem_singleton] at h; subst h
              exact ⟨x, by simp, z1.symm, .inr z2⟩
        · exact ⟨y, by simp [h], rfl, .inl rfl⟩
      · rw [n3 f hf]
        exact ⟨y, hy, rfl, .inl rfl⟩
theorem signed_val {l : List GTx} (hl : ∀ x ∈ l, TxOk x) (h10 : l.length ≤ 10) : ∃ b, F41_api_Tx_537 1000 l = some b ∧ (b = false → ∀ x ∈ l, x.Sign = sg x) := by
  unfold F41_api_Tx_537 F88_api_Tx_78c
  obtain ⟨b, hb, hP⟩ := loop_ok (f := fun z => F88_api_Tx_78c_s0 1000 l z) (fun z => ∃ k : Nat, z = (k : Int) ∧ k ≤ l.length ∧ ∀ x ∈ l.take k, x.Sign = sg x) (fun z => (l.length - z).toNat) (fun b : Unit ⊕ Int => (b = .inl () → ∀ x ∈ l, x.Sign = sg x) ∧ ∀ j, b = .inr j → 0 ≤ j) (by
    rintro z ⟨k, rfl, hk, hall⟩
    unfold F88_api_Tx_78c_s0 F42_shard_Back_1
    by_cases hi : k < l.length
    · rw [if_pos (by simpa using hi), rd_nat]
      obtain ⟨x, hx⟩ : ∃ x, l[k]? = some x := ⟨_, List.getElem?_eq_getElem hi⟩
      rw [hx]
      simp only [Option.bind_some]
      rw [tx_check (hl x (List.mem_of_getElem? hx))]
      simp only [Option.bind_some]
      by_cases hs : x.Sign = sg x
      · rw [if_pos hs, if_neg (by simp)]
        simp only [StepOk]
        rw [wi64 (by omega) (by omega)]
        refine ⟨⟨k + 1, by simp, by omega, fun y hy => ?_⟩, by omega⟩
        rw [take_succ hx] at hy
        rcases List.mem_append.1 hy with hy | hy
        · exact hall y hy
        · simp only [List.mem_singleton] at hy; subst hy; exact hs
      · rw [if_neg hs, if_pos (by simp)]
        exact ⟨by simp, fun j hj => by cases hj; omega⟩
    · rw [if_neg (by simpa using hi)]
      have : k = l.length := by omega
      subst this
      rw [List.take_length] at hall
      exact ⟨fun _ => hall, by simp⟩) 1000 0 ⟨0, rfl, by omega, by simp⟩ (by simp; omega)
  rw [hb]
  simp only [Option.bind_some]
  rcases b with ⟨⟩ | j
  · exact ⟨_, rfl, fun _ => hP.1 rfl⟩
  · refine ⟨_, rfl, fun h => ?_⟩
    have := hP.2 j rfl
    simp at h; omega
structure Ret (ls : List GLine) (t : GTree) (l : List GTx) (k : Nat) (P : List GLine) : Prop where
  may : MayS P
  ok : ShOk P
  len : P.length ≤ ls.length + k
  cnt : cnt P ≤ cnt ls + k
  bet : Bet ls P
  has : ∀ i x, i < k → l[i]? = some x → ∀ a e, F33_acct_Get 1000 t (ky x.Pub) = some (a, e) → a.Nonce ≤ x.Nonce → ∃ y ∈ (lineOf P (ky x.Pub)).Txs, y.Nonce = x.Nonce ∧ x.Fee ≤ y.Fee
  froms : ∀ z ∈ P, (∃ x ∈ l, z.From = ky x.Pub) ∨ ∃ y ∈ ls, y.From = z.From
theorem back_val {ls : List GLine} (hs : ShOk ls) (hlen : ls.length ≤ 6) (hc : cnt ls ≤ 20) {t : GTree} (ht : TreeV t) {l : List GTx} (hl : ∀ x ∈ l, TxOk x) (h10 : l.length ≤ 10) :
    ∃ P e, F11_shard_Back 1000 ⟨ls⟩ t l = some (⟨P⟩, e) ∧ ((e ≠ 0 ∧ P = []) ∨ (e = 0 ∧ MayS ls ∧ F31_acct_Check 1000 t = some 0 ∧ Ret ls t l l.length P)) := by
  unfold F11_shard_Back
  by_cases hm : MayS ls
  case neg =>
    rw [(shcheck_val hs (by omega)).2 hm]
    exact ⟨[], 8, rfl, .inl ⟨by decide, rfl⟩⟩
  rw [(shcheck_val hs (by omega)).1 hm]
  simp only [Option.bind_some]
  rw [if_neg (by simp)]
  obtain ⟨e, he, _⟩ := acheck_val ht
  rw [he]
  simp only [Option.bind_some]
  by_cases h0 : e = 0
  case neg =>
    rw [if_pos (by simpa using h0)]
    exact ⟨[], 8, rfl, .inl ⟨by decide, rfl⟩⟩
  subst h0
  rw [if_neg (by simp)]
  obtain ⟨b, hb, hsg⟩ := signed_val hl h10
  rw [hb]
  simp only [Option.bind_some]
  cases b with
  | true => exact ⟨[], 110, rfl, .inl ⟨by decide, rfl⟩⟩
  | false =>
  have hsg := hsg rfl
  simp only [Bool.false_eq_true, if_false]
  rw [shtwin_val (by omega) (by omega)]
  simp only [Option.bind_some]
  obtain ⟨r, hr, hP⟩ := loop_ok (f := fun z : Int × List GLine => F11_shard_Back_s0 1000 t l z.1 z.2) (fun z => ∃ k : Nat, z.1 = (k : Int) ∧ k ≤ l.length ∧ Ret ls t l k z.2) (fun z => (l.length - z.1).toNat) (fun r : List GLine ⊕ Int => ∃ P, r = .inl P ∧ Ret ls t l l.length P) (by
    rintro ⟨z, P⟩ ⟨k, e, hk, hR⟩
    simp only at e hR
    subst e
    unfold F11_shard_Back_s0
    simp only
    by_cases hi : k < l.length
    · rw [if_pos (by simpa using hi), rd_nat]
      obtain ⟨x, hx⟩ : ∃ x, l[k]? = some x := ⟨_, List.getElem?_eq_getElem hi⟩
      have hxm := List.mem_of_getElem? hx
      have hxo := hl x hxm
      rw [hx]
      simp only [Option.bind_some]
      rw [tx_from hxo]
      simp only [Option.bind_some]
      obtain ⟨a, ea, hga, _, _⟩ := get_val ht (ky_dig hxo.pub)
      rw [hga]
      simp only [Option.bind_some]
      have hl1 := hR.len
      have hl2 := hR.cnt
      have next : ∀ P', MayS P' → ShOk P' → P'.length ≤ P.length + 1 → cnt P' ≤ cnt P + 1 → Bet P P' → (a.Nonce ≤ x.Nonce → ∃ y ∈ (lineOf P' (ky x.Pub)).Txs, y.Nonce = x.Nonce ∧ x.Fee ≤ y.Fee) → (∀ z ∈ P', z.From = ky x.Pub ∨ z ∈ P) →
          StepOk (fun z : Int × List GLine => ∃ k : Nat, z.1 = (k : Int) ∧ k ≤ l.length ∧ Ret ls t l k z.2) (fun z => (l.length - z.1).toNat) (fun r : List GLine ⊕ Int => ∃ P, r = .inl P ∧ Ret ls t l l.length P) ((k : Int), P)
            (some (.inl (IntKind.i64.wrap ((k : Int) + 1), P'))) := fun P' p1 p2 p3 p4 p5 p6 p7 => by
        simp only [StepOk]
        rw [wi64 (by omega) (by omega)]
        refine ⟨⟨k + 1, by simp, by omega, p1, p2, by omega, by omega, hR.bet.trans p5, fun i y hik hy a' e' hg' hn => ?_, fun z hz => by
          rcases p7 z hz with h | h
          · exact .inl ⟨x, hxm, h⟩
          · exact hR.froms z h⟩, by omega⟩
        by_cases e : i = k
        · subst e
          rw [hx] at hy; cases hy
          rw [hga] at hg'; cases hg'
          exact p6 hn
        · exact p5.has (hR.has i y (by omega) hy a' e' hg' hn)
      by_cases hn : x.Nonce < a.Nonce
      · rw [if_pos (by simpa using hn)]
        exact next P hR.may hR.ok (by omega) (by omega) (Bet.refl P) (fun h => by omega) (fun z hz => .inr hz)
      · rw [if_neg (by simpa using hn)]
        obtain ⟨b1, q, b2, b3⟩ := back_step hR.may hR.ok (by omega) (by omega) hxo (hsg x hxm)
        rw [b1]
        simp only [Option.bind_some]
        rw [b2]
        simp only [Option.bind_some]
        rcases b3 with ⟨c1, c2⟩ | ⟨c1, P', c2, c3, c4, c5, c6, c7, c8, c9⟩
        · rw [c1, if_neg (by decide), if_neg (by decide)]
          exact next P hR.may hR.ok (by omega) (by omega) (Bet.refl P) (fun _ => c2) (fun z hz => .inr hz)
        · rw [c1, if_pos (by decide), c2]
          exact next P' c3 c4 c5 c6 c7 (fun _ => ⟨x, c8, rfl, by omega⟩) c9
    · rw [if_neg (by simpa using hi)]
      have : k = l.length := by omega
      subst this
      exact ⟨P, rfl, hR⟩) 1000 ((0 : Int), ls) ⟨0, rfl, by omega, hm, hs, by show ls.length ≤ ls.length + 0; omega, by show cnt ls ≤ cnt ls + 0; omega, Bet.refl ls, fun i x hi => by omega, fun z hz => .inr ⟨z, hz, rfl⟩⟩ (by simp; omega)
  obtain ⟨P, rfl, hR⟩ := hP
  rw [hr]
  exact ⟨P, 0, rfl, .inr ⟨rfl, hm, by first | exact he | trivial, hR⟩⟩
end Go.Proofs.YtonfljoibcnlgaaGreatDoor
namespace Go.Proofs.YtonfljoibcnlgaaGreatDoor
open Bd Go
theorem own_from {x : GTx} {f : List Int} (h : own x f = true) : ky x.Pub = f := by
  unfold own at h
  simp only [Bool.and_eq_true, decide_eq_true_eq] at h
  exact h.2
structure Drawn (ls : List GLine) (t : GTree) (room : Int) (j : Nat) (dr : List GTx) (P : List GLine) : Prop where
  may : MayS P
  ok : ShOk P
  len : P.length ≤ ls.length + j
  cnt : dr.length + cnt P ≤ cnt ls
  left : ∀ f, ∀ z ∈ (lineOf P f).Txs, z ∈ (lineOf ls f).Txs
  done : ∀ l ∈ ls.take j, ∀ a e, F33_acct_Get 1000 t l.From = some (a, e) → ∀ z ∈ (lineOf P l.From).Txs, a.Nonce ≤ z.Nonce
  todo : ∀ l ∈ ls.drop j, lineOf P l.From = l
  from_ : ∀ x ∈ dr, ∃ l ∈ ls.take j, x ∈ l.Txs
  gone : ∀ x ∈ dr, ∀ y ∈ (lineOf P (ky x.Pub)).Txs, y.Nonce ≠ x.Nonce
  nonce : ∀ i x, dr[i]? = some x → ∀ a e, F33_acct_Get 1000 t (ky x.Pub) = some (a, e) →
    (i = 0 → x.Nonce = a.Nonce) ∧ ∀ y, 0 < i → dr[i - 1]? = some y → (ky y.Pub = ky x.Pub → x.Nonce = y.Nonce + 1) ∧ (ky y.Pub ≠ ky x.Pub → x.Nonce = a.Nonce)
  room : (dr.length : Int) ≤ room ∨ dr = []
theorem draw_val {ls : List GLine} (hs : ShOk ls) (hlen : ls.length ≤ 6) (hc : cnt ls ≤ 20) {t : GTree} (ht : TreeV t) {room : Int} (hroom : -9223372036854775808 ≤ room ∧ room ≤ 9223372036854775807) :
    ∃ P dr e, F9_shard_Draw 1000 ⟨ls⟩ t room = some (⟨P⟩, dr, e) ∧ ((e ≠ 0 ∧ P = [] ∧ dr = []) ∨ (e = 0 ∧ MayS ls ∧ F31_acct_Check 1000 t = some 0 ∧ Drawn ls t room ls.length dr P)) := by
  unfold F9_shard_Draw
  by_cases hm : MayS ls
  case neg =>
    rw [(shcheck_val hs (by omega)).2 hm]
    exact ⟨[], [], 8, rfl, .inl ⟨by decide, rfl, rfl⟩⟩
  rw [(shcheck_val hs (by omega)).1 hm]
  simp only [Option.bind_some]
  rw [if_neg (by simp)]
  obtain ⟨e, he, _⟩ := acheck_val ht
  rw [he]
  simp only [Option.bind_some]
  by_cases h0 : e = 0
  case neg =>
    rw [if_pos (by simpa using h0)]
    exact ⟨[], [], 8, rfl, .inl ⟨by decide, rfl, rfl⟩⟩
  subst h0
  rw [if_neg (by simp), shtwin_val (by omega) (by omega)]
  simp only [Option.bind_some]
  obtain ⟨r, hr, hP⟩ := loop_ok (f := fun z : Int × List GTx × List GLine => F9_shard_Draw_s0 1000 ⟨ls⟩ t room z.1 z.2.1 z.2.2) (fun z => ∃ j : Nat, z.1 = (j : Int) ∧ j ≤ ls.length ∧ Drawn ls t room j z.2.1 z.2.2) (fun z => (ls.length - z.1).toNat) (fun r : List GTx × List GLine => Drawn ls t room ls.length r.1 r.2) (by
    rintro ⟨z, dr, P⟩ ⟨j, ez, hj, hD⟩
    simp only at ez hD
    subst ez
    unfold F9_shard_Draw_s0
    simp only
    by_cases hi : j < ls.length
    · rw [if_pos (by simpa using hi), rd_nat]
      obtain ⟨l, hl⟩ : ∃ l, ls[j]? = some l := ⟨_, List.getElem?_eq_getElem hi⟩
      have hlm := List.mem_of_getElem? hl
      have hlo := hs.line l hlm
      have hlmay := (hm.1 l hlm).2
      have hld := hs.dig l hlm
      have hlc := mem_cnt hlm
      rw [hl]
      simp only [Option.bind_some]
      obtain ⟨a, ea, hga, hnr, _⟩ := get_val ht hld
      rw [hga]
      simp only [Option.bind_some]
      obtain ⟨k, hk, hpast, hp1, hp2⟩ := past_ok hlo hlmay a.Nonce
      rw [hpast]
      simp only [Option.bind_some]
      obtain ⟨R, hR⟩ : ∃ R, R = l.Txs.drop k := ⟨_, rfl⟩
      rw [← hR]
      have hRmay : May ⟨l.From, R⟩ := by rw [hR]; exact may_drop hlmay k
      have hRok : LineOk ⟨l.From, R⟩ := ⟨hlo.from_, fun x hx => hlo.txs x (by rw [hR] at hx; exact List.mem_of_mem_drop hx)⟩
      have hRge : ∀ x ∈ R, a.Nonce ≤ x.Nonce := fun x hx => by
        obtain ⟨i, hi⟩ := List.getElem?_of_mem hx
        rw [hR, List.getElem?_drop] at hi
        exact hp2 _ x hi (by omega)
      have hRsub : ∀ x ∈ R, x ∈ l.Txs := fun x hx => by rw [hR] at hx; exact List.mem_of_mem_drop hx
      obtain ⟨k', r, hready, q1, q2, q3, q4, q5, q6⟩ := ready_ok hRok hRmay hnr
      simp only at q1 q2 q3 q4 q5 q6
      have hk0 : k' = 0 := by
        cases k' with
        | zero => rfl
        | succ k' =>
          exfalso
          have hx : R[0]? = some R[0] := List.getElem?_eq_getElem (by omega)
          have := q2 0 _ hx (by omega)
          have := hRge _ (List.mem_of_getElem? hx)
          omega
      subst hk0
      simp only [Nat.zero_add, Nat.sub_zero] at q4 q5 q6
      rw [hready]
      simp only [Option.bind_some]
      have hrlen : r.length ≤ R.length := q4
      have hRlen : R.length ≤ l.Txs.length := by rw [hR, List.length_drop]; omega
      have hdl := hD.cnt
      have hPl := hD.len
      obtain ⟨c, hc'⟩ : ∃ c : Nat, c = (max 0 (min (room - dr.length) r.length)).toNat := ⟨_, rfl⟩
      have hcr : c ≤ r.length := by omega
      have hw : (IntKind.i64.wrap (room - (dr.length : Int)) = room - dr.length) := by
        rcases hD.room with h | h
        · exact wi64 (by omega) (by omega)
        · subst h
          simp only [List.length_nil, Int.natCast_zero, Int.sub_zero]
          simp [IntKind.wrap, IntKind.bits, IntKind.signed]; omega
      have hcv : (if (if IntKind.i64.wrap (room - (dr.length : Int)) < (r.length : Int) then IntKind.i64.wrap (room - (dr.length : Int)) else (r.length : Int)) > 0 then (if IntKind.i64.wrap (room - (dr.length : Int)) < (r.length : Int) then IntKind.i64.wrap (room - (dr.length : Int)) else (r.length : Int)) else 0) = (c : Int) := by
        rw [hw, hc']
        split <;> split at * <;> omega
      rw [hcv]
      have htk : r.take c = R.take c := by
        apply List.ext_getElem?
        intro i
        rw [List.getElem?_take, List.getElem?_take]
        by_cases hic : i < c
        · rw [if_pos hic, if_pos hic, (q5 i (by omega)).1]
        · rw [if_neg hic, if_neg hic]
      have htl : (r.take c).length = c := by rw [List.length_take]; omega
      rw [Int.toNat_natCast, if_pos ⟨by omega, by omega, by omega⟩, if_pos (by rw [List.length_append, htl]; omega), htl, if_pos ⟨by omega, by omega, by omega⟩, Int.toNat_natCast, htk]
      obtain ⟨w, hw'⟩ : ∃ w : GLine, w = ⟨l.From, R.drop c⟩ := ⟨_, rfl⟩
      have hwmay : May w := by rw [hw']; exact may_drop hRmay c
      have hwf : w.From = l.From := by rw [hw']
      have hwt : w.Txs = R.drop c := by rw [hw']
      have hlP : lineOf P l.From = l := hD.todo l (List.mem_of_getElem? (by rw [List.getElem?_drop, Nat.add_zero]; exact hl))
      obtain ⟨A1, M1, S1, hA, hset⟩ := set_val hD.ok.dig hD.may.2 (l := w) (by rw [hwf]; exact hld) (by omega)
      obtain ⟨n1, n2, n3, n4, n5, n6⟩ := setL_spec hD.ok.dig hD.may (by rw [hwf]; exact hld) hwmay hA
      rw [← hw', hset]
      simp only [Option.bind_some, StepOk]
      rw [wi64 (by omega) (by omega)]
      rw [hwf] at n2 n3 n4
      rw [hlP, hwt, List.length_drop] at n4
      have htake := take_succ hl
      have hne : ∀ l' ∈ ls.take j, l'.From ≠ l.From := fun l' hl' e => by
        obtain ⟨i, hi'⟩ := List.getElem?_of_mem hl'
        rw [List.getElem?_take] at hi'
        split at hi'
        · next hij =>
          have := srt_at hm.2 hi' hl hij
          rw [e, lt_self] at this; cases this
        · cases hi'
      have hsub : ∀ x ∈ R.take c, x ∈ l.Txs := fun x hx => hRsub x (List.mem_of_mem_take hx)
      have hown : ∀ x ∈ R.take c, ky x.Pub = l.From := fun x hx => own_from (hlmay.2.1 x (hsub x hx))
      have hnon : ∀ (i : Nat) (x : GTx), (R.take c)[i]? = some x → x.Nonce = a.Nonce + (i : Int) := fun i x hx => by
        rw [List.getElem?_take] at hx
        split at hx
        · next hic =>
          obtain ⟨e1, y, e2, e3⟩ := q5 i (by omega)
          rw [e1, hx] at e2; cases e2; exact e3
        · cases hx
      refine ⟨⟨j + 1, by simp, by omega, n1, ⟨fun q hq => ?_, fun q hq => ?_⟩, by omega, ?_, fun f z hz => ?_, fun l' hl' a' e' hg z hz => ?_, fun l' hl' => ?_, fun x hx => ?_, fun x hx y hy => ?_, fun i x hx a' e' hg => ?_, ?_⟩, by omega⟩
      · rcases n6 q hq with rfl | h
        · exact ⟨by rw [hwf]; exact hlo.from_, fun x hx => hlo.txs x (hRsub x (by rw [hwt] at hx; exact List.mem_of_mem_drop hx))⟩
        · exact hD.ok.line q h
      · rcases n6 q hq with rfl | h
        · rw [hwf]; exact hld
        · exact hD.ok.dig q h
      · rw [List.length_append, List.length_take]
        omega
      · by_cases hf : f = l.From
        · subst hf
          rw [n2, hwt] at hz
          rw [lineOf_mem hm.2 hlm]
          exact hRsub z (List.mem_of_mem_drop hz)
        · rw [n3 f hf] at hz
          exact hD.left f z hz
      · rw [htake] at hl'
        rcases List.mem_append.1 hl' with h | h
        · rw [n3 _ (hne l' h)] at hz
          exact hD.done l' h a' e' hg z hz
        · simp only [List.mem_singleton] at h; subst h
          rw [hga] at hg; cases hg
          rw [n2, hwt] at hz
          exact hRge z (List.mem_of_mem_drop hz)
      · have hl2 : l' ∈ ls.drop j := by
          rw [show j + 1 = j + 1 from rfl, ← List.drop_drop] at hl'
          exact List.mem_of_mem_drop hl'
        have hne' : l'.From ≠ l.From := fun e => by
          obtain ⟨i, hi'⟩ := List.getElem?_of_mem hl'
          rw [List.getElem?_drop] at hi'
          have := srt_at hm.2 hl hi' (by omega)
          rw [e, lt_self] at this; cases this
        rw [n3 _ hne']
        exact hD.todo l' hl2
      · rw [htake]
        rcases List.mem_append.1 hx with h | h
        · obtain ⟨l', h1, h2⟩ := hD.from_ x h
          exact ⟨l', by simp [h1], h2⟩
        · exact ⟨l, by simp, hsub x h⟩
      · rcases List.mem_append.1 hx with h | h
        · obtain ⟨l', h1, h2⟩ := hD.from_ x h
          have hl'm := List.mem_of_mem_take h1
          have hk : ky x.Pub = l'.From := own_from ((hm.1 l' hl'm).2.2.1 x h2)
          rw [hk] at hy
          rw [n3 _ (hne l' h1), ← hk] at hy
          exact hD.gone x h y hy
        · rw [hown x h, n2, hwt] at hy
          obtain ⟨i, hi1⟩ := List.getElem?_of_mem h
          obtain ⟨i', hi2⟩ := List.getElem?_of_mem hy
          rw [List.getElem?_take] at hi1
          rw [List.getElem?_drop] at hi2
          split at hi1
          · have := inc_at hRmay.2.2 hi1 hi2 (by omega)
            omega
          · cases hi1
      · by_cases hid : i < dr.length
        · rw [List.getElem?_append_left hid] at hx
          obtain ⟨g1, g2⟩ := hD.nonce i x hx a' e' hg
          refine ⟨g1, fun y hi0 hy => ?_⟩
          rw [List.getElem?_append_left (by omega)] at hy
          exact g2 y hi0 hy
        · rw [List.getElem?_append_right (by omega)] at hx
          have hxm := List.mem_of_getElem? hx
          have hxk := hown x hxm
          rw [hxk, hga] at hg; cases hg
          have hxn := hnon _ x hx
          refine ⟨fun h0 => ?_, fun y hi0 hy => ?_⟩
          · rw [hxn]; omega
          · by_cases hid2 : i = dr.length
            · rw [List.getElem?_append_left (by omega)] at hy
              obtain ⟨l', h1, h2⟩ := hD.from_ y (List.mem_of_getElem? hy)
              have hl'm := List.mem_of_mem_take h1
              have hk : ky y.Pub = l'.From := own_from ((hm.1 l' hl'm).2.2.1 y h2)
              refine ⟨fun e => ?_, fun _ => by rw [hxn]; omega⟩
              rw [hk, hxk] at e
              exact absurd e (hne l' h1)
            · rw [List.getElem?_append_right (by omega)] at hy
              have hyn := hnon _ y hy
              have hyk := hown y (List.mem_of_getElem? hy)
              exact ⟨fun _ => by rw [hxn, hyn]; omega, fun h => absurd (by rw [hyk, hxk]) h⟩
      · rw [List.length_append, List.length_take]
        by_cases hc0 : c = 0
        · subst hc0
          rcases hD.room with h | h
          · left; omega
          · subst h; right; simp
        · left; omega
    · rw [if_neg (by simpa using hi)]
      have : j = ls.length := by omega
      subst this
      exact hD) 1000 ((0 : Int), ([] : List GTx), ls) ⟨0, rfl, by omega, hm, hs, by show ls.length ≤ ls.length + 0; omega, by show 0 + cnt ls ≤ cnt ls; omega, fun f z hz => hz, by simp, fun l hl => lineOf_mem hm.2 (by simpa using hl), by simp, by simp, by simp, .inr rfl⟩ (by simp; omega)
  rw [hr]
  exact ⟨r.2, r.1, 0, rfl, .inr ⟨rfl, hm, by first | exact he | trivial, hP⟩⟩
end Go.Proofs.YtonfljoibcnlgaaGreatDoor
