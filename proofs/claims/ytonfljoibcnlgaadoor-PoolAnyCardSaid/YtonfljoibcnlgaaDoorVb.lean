/-
  What 'Submit' makes of a pool that has room, as a function on plain data. No machine is in sight.
-/
import Derived.Test.YtonfljoibcnlgaaDoorM2
import Derived.Test.YtonfljoibcnlgaaDoorM3
namespace Go.Proofs.YtonfljoibcnlgaaDoor
open Bd Go

theorem len_cnt : ∀ {ls : List GLine}, (∀ l ∈ ls, l.Txs ≠ []) → ls.length ≤ cnt ls
  | [], _ => Nat.le_refl _
  | l :: r, h => by
    have h1 := List.length_pos_iff.2 (h l (by simp))
    have h2 := len_cnt (ls := r) fun x hx => h x (by simp [hx])
    have : cnt (l :: r) = l.Txs.length + cnt r := by simp [cnt]
    simp only [List.length_cons]
    omega

/-- a shard with room -/
theorem submit_free {L : GLine} {x : GTx} (hx : TxOk x) (nonce : Int) (hf0 : L.From = ky x.Pub) (hl0 : LineOk L) (hm0 : May L) (hc0 : L.Txs.length ≤ 20) :
    ∃ gone e L', gone.length ≤ 1 ∧ (e ≠ 0 → gone = []) ∧ ∀ ls, ShOk ls → MayS ls → cnt ls ≤ 20 → lineOf ls (ky x.Pub) = L →
      ∃ a, F50_shard_Submit 1000 ⟨ls⟩ 64 nonce x = some (⟨a⟩, gone, e) ∧ (e = 0 → MayS a ∧ ShOk a ∧ lineOf a (ky x.Pub) = L' ∧ (∀ g, g ≠ ky x.Pub → lineOf a g = lineOf ls g) ∧ cnt a + gone.length = cnt ls + 1 ∧ ∀ l ∈ a, l.From = ky x.Pub ∨ l ∈ ls) := by
  have hfd : Dig (ky x.Pub) := ky_dig hx.pub
  by_cases hsg : x.Sign = sg x
  case neg =>
    refine ⟨[], 110, L, by simp, by simp, fun ls hs hm hc hL => ?_⟩
    have hlen := Nat.le_trans (len_cnt fun l hl => (hm.1 l hl).1) hc
    unfold F50_shard_Submit
    rw [(shcheck_val hs (by omega)).1 hm]
    simp only [Option.bind_some]
    rw [if_neg (by simp), tx_check hx]
    simp only [Option.bind_some]
    rw [if_neg hsg]
    exact ⟨_, rfl, fun h => absurd h (by decide)⟩
  by_cases hst : x.Nonce < nonce
  · refine ⟨[], 200, L, by simp, by simp, fun ls hs hm hc hL => ?_⟩
    have hlen := Nat.le_trans (len_cnt fun l hl => (hm.1 l hl).1) hc
    unfold F50_shard_Submit
    rw [(shcheck_val hs (by omega)).1 hm]
    simp only [Option.bind_some]
    rw [if_neg (by simp), tx_check hx]
    simp only [Option.bind_some]
    rw [if_pos hsg, if_neg (by simp), if_pos (by simpa using hst)]
    exact ⟨_, rfl, fun h => absurd h (by decide)⟩
  obtain ⟨far, hfar⟩ : ∃ far, (if (decide ((IntKind.u64.wrap (x.Nonce - nonce)) ≥ (16 : Int))) = true then some true else some (x.Nonce == (18446744073709551615 : Int))) = some far := by
    split <;> exact ⟨_, rfl⟩
  have ho : own x L.From = true := by rw [hf0]; simp [own, hsg]
  cases far with
  | true =>
    refine ⟨[], 201, L, by simp, by simp, fun ls hs hm hc hL => ?_⟩
    have hlen := Nat.le_trans (len_cnt fun l hl => (hm.1 l hl).1) hc
    unfold F50_shard_Submit
    rw [(shcheck_val hs (by omega)).1 hm]
    simp only [Option.bind_some]
    rw [if_neg (by simp), tx_check hx]
    simp only [Option.bind_some]
    rw [if_pos hsg, if_neg (by simp), if_neg (by simpa using hst), hfar]
    exact ⟨_, rfl, fun h => absurd h (by decide)⟩
  | false =>
  rcases put_own hl0 hm0 hx ho (by omega) with ⟨y, _, _, _, he⟩ | ⟨P, S, old, hT⟩
  · refine ⟨[], 190, L, by simp, by simp, fun ls hs hm hc hL => ?_⟩
    have hlen := Nat.le_trans (len_cnt fun l hl => (hm.1 l hl).1) hc
    unfold F50_shard_Submit
    rw [(shcheck_val hs (by omega)).1 hm]
    simp only [Option.bind_some]
    rw [if_neg (by simp), tx_check hx]
    simp only [Option.bind_some]
    rw [if_pos hsg, if_neg (by simp), if_neg (by simpa using hst), hfar]
    simp only [Option.bind_some, Bool.false_eq_true, if_false]
    rw [shtwin_val (by omega) (by omega), tx_from hx]
    simp only [Option.bind_some]
    rw [line_val hs.dig hm.2 hfd (by omega), hL]
    simp only [Option.bind_some]
    rw [he]
    exact ⟨_, rfl, fun h => absurd h (by decide)⟩
  have hmay := takes_may hm0 (by omega) ho hT
  have hline := takes_line hl0 hx hT
  obtain ⟨h1, h2, h3, h4, h5⟩ := hT
  rw [hf0] at hmay hline h1
  have hold : old.length ≤ 1 := by rcases h3 with rfl | ⟨y, rfl, _⟩ <;> simp
  have hl0len : L.Txs.length = P.length + old.length + S.length := by rw [h2]; simp [Nat.add_assoc]
  refine ⟨old, 0, ⟨ky x.Pub, P ++ x :: S⟩, hold, by simp, fun ls hs hm hc hL => ?_⟩
  have hlen := Nat.le_trans (len_cnt fun l hl => (hm.1 l hl).1) hc
  unfold F50_shard_Submit
  rw [(shcheck_val hs (by omega)).1 hm]
  simp only [Option.bind_some]
  rw [if_neg (by simp), tx_check hx]
  simp only [Option.bind_some]
  rw [if_pos hsg, if_neg (by simp), if_neg (by simpa using hst), hfar]
  simp only [Option.bind_some, Bool.false_eq_true, if_false]
  rw [shtwin_val (by omega) (by omega), tx_from hx]
  simp only [Option.bind_some]
  rw [line_val hs.dig hm.2 hfd (by omega), hL]
  simp only [Option.bind_some]
  rw [h1]
  simp only [Option.bind_some]
  rw [if_neg (by simp)]
  simp only [Option.bind_some]
  rw [if_neg (by simp), if_neg (by simp)]
  have e : ((if (((old.length : Int)) == (0 : Int)) = true then (F53_shard_Count 1000 ⟨ls⟩).bind fun y24 => some (decide (y24 ≥ (64 : Int))) else some false) : Option Bool) = some false := by
    by_cases h0 : old = []
    · rw [if_pos (by simp [h0]), count_val (by omega) (by omega)]
      simp; omega
    · rw [if_neg (by simpa using h0)]
  rw [e]
  simp only [Option.bind_some, Bool.false_eq_true, if_false]
  obtain ⟨P2, M2, S2, hA2, hset2⟩ := set_val hs.dig hm.2 (l := ⟨ky x.Pub, P ++ x :: S⟩) hfd (by omega)
  obtain ⟨n1, n2, n3, n4, n5, n6⟩ := setL_spec hs.dig hm hfd hmay hA2
  rw [hset2]
  simp only [Option.bind_some]
  simp only at n2 n3 n4
  rw [hL] at n4
  refine ⟨_, rfl, fun _ => ⟨n1, ⟨fun l hl => ?_, fun l hl => ?_⟩, n2, n3, ?_, fun l hl => ?_⟩⟩
  · rcases n6 l hl with rfl | h
    · exact hline
    · exact hs.line l h
  · rcases n6 l hl with rfl | h
    · exact hfd
    · exact hs.dig l h
  · simp only [List.length_append, List.length_cons] at n4
    omega
  · rcases n6 l hl with rfl | h
    · exact .inl rfl
    · exact .inr h

/-! ### pools -/
/-- the place of a sender's shard -/
def pl (f : List Int) (n : Nat) : Nat := ((f[31]?).getD 0).toNat % n
theorem at_val {f : List Int} (hf : Dig f) {n : Nat} (h1 : 1 ≤ n) (h8 : n ≤ 8) : F23_pool_At 1000 f (n : Int) = some ((pl f n : Int), 0) := by
  obtain ⟨v, hv⟩ : ∃ v, f[31]? = some v := ⟨_, List.getElem?_eq_getElem (by rw [hf.1]; decide)⟩
  have hb := hf.2 v (List.mem_of_getElem? hv)
  unfold F23_pool_At pl
  rw [if_neg (by simp; omega)]
  simp only [Option.bind_some]
  rw [if_neg (by simp; omega), show (31 : Int) = ((31 : Nat) : Int) from rfl, rd_nat, hv]
  simp only [Option.bind_some, Option.getD_some]
  rw [if_neg (by omega), wi64 (by omega) (by omega), Int.tmod_eq_emod_of_nonneg (by omega)]
  congr 2
  rw [Int.natCast_emod, Int.toNat_of_nonneg (by omega)]
theorem pl_lt (f : List Int) {n : Nat} (h : 1 ≤ n) : pl f n < n := Nat.mod_lt _ h

def pcnt (A : List GShard) : Nat := (A.map fun s => cnt s.Lines).sum
/-- a pool -/
structure PoolG (A : List GShard) : Prop where
  len : 1 ≤ A.length
  len8 : A.length ≤ 8
  ok : ∀ s ∈ A, ShOk s.Lines
  may : ∀ s ∈ A, MayS s.Lines
  at_ : ∀ (i : Nat) s, A[i]? = some s → ∀ l ∈ s.Lines, pl l.From A.length = i
def shAt (A : List GShard) (i : Nat) : List GLine := ((A[i]?).map (·.Lines)).getD []
def lineAt (A : List GShard) (f : List Int) : GLine := lineOf (shAt A (pl f A.length)) f

theorem mem_pcnt {s : GShard} : ∀ {A : List GShard}, s ∈ A → cnt s.Lines ≤ pcnt A
  | [], h => by cases h
  | a :: A, h => by
    have e : pcnt (a :: A) = cnt a.Lines + pcnt A := by simp [pcnt]
    rcases List.mem_cons.1 h with rfl | h
    · omega
    · have := mem_pcnt h; omega
theorem pcnt_set : ∀ {A : List GShard} {i : Nat} {s s' : GShard}, A[i]? = some s → pcnt (A.set i s') + cnt s.Lines = pcnt A + cnt s'.Lines
  | [], i, s, s', h => by simp at h
  | a :: A, 0, s, s', h => by
    simp only [List.getElem?_cons_zero, Option.some.injEq] at h
    subst h
    simp [pcnt]; omega
  | a :: A, i + 1, s, s', h => by
    have := pcnt_set (A := A) (i := i) (s := s) (s' := s') (by simpa using h)
    simp only [pcnt, List.set_cons_succ, List.map_cons, List.sum_cons] at this ⊢
    omega
theorem pcount_val {A : List GShard} (h : PoolG A) (hc : pcnt A ≤ 290) : F30_pool_Count 1000 A = some (pcnt A : Int) := by
  have h8 := h.len8
  unfold F30_pool_Count
  obtain ⟨b, hb, rfl⟩ : ∃ b, loopF (fun z : Int × Int => F30_pool_Count_s0 1000 A z.1 z.2) 1000 ((0 : Int), (0 : Int)) = some b ∧ b = (pcnt A : Int) := by
    refine loop_ok (fun z => ∃ k : Nat, z = ((pcnt (A.take k) : Int), (k : Int)) ∧ k ≤ A.length) (fun z => (A.length - z.2).toNat) (fun b : Int => b = (pcnt A : Int)) ?_ 1000 _ ⟨0, rfl, by omega⟩ (by simp; omega)
    rintro z ⟨k, rfl, hk⟩
    unfold F30_pool_Count_s0
    simp only
    by_cases hi : k < A.length
    · rw [if_pos (by simpa using hi), rd_nat]
      obtain ⟨s, hs⟩ : ∃ s, A[k]? = some s := ⟨_, List.getElem?_eq_getElem hi⟩
      have hsm := List.mem_of_getElem? hs
      have hcs := mem_pcnt hsm
      have hln := len_cnt fun l hl => ((h.may s hsm).1 l hl).1
      rw [hs]
      simp only [Option.bind_some]
      rw [show s = ⟨s.Lines⟩ from rfl, count_val (by omega) (by omega)]
      have e : pcnt (A.take (k + 1)) = pcnt (A.take k) + cnt s.Lines := by rw [take_succ hs]; simp [pcnt]
      have le : pcnt (A.take (k + 1)) ≤ pcnt A := by
        conv => rhs; rw [← List.take_append_drop (k + 1) A]
        simp only [pcnt, List.map_append, List.sum_append]
        omega
      simp only [Option.bind_some, StepOk]
      rw [wi64 (by omega) (by omega), wi64 (by omega) (by omega)]
      exact ⟨⟨k + 1, by rw [e]; simp, by omega⟩, by omega⟩
    · rw [if_neg (by simpa using hi)]
      have hk' : k = A.length := by omega
      subst hk'
      simp only [StepOk, List.take_length]
  rw [hb]; rfl
theorem ptwin_val {A : List GShard} (h : PoolG A) (hc : pcnt A ≤ 290) : F33_pool_Twin 1000 A = some A := by
  have h8 := h.len8
  unfold F33_pool_Twin
  obtain ⟨b, hb, rfl⟩ : ∃ b, loopF (fun z : Int × List GShard => F33_pool_Twin_s0 1000 A z.1 z.2) 1000 ((0 : Int), ([] : List GShard)) = some b ∧ b = A := by
    refine loop_ok (fun z => ∃ k : Nat, z = ((k : Int), A.take k) ∧ k ≤ A.length) (fun z => (A.length - z.1).toNat) (fun b : List GShard => b = A) ?_ 1000 _ ⟨0, by simp, by omega⟩ (by simp; omega)
    rintro z ⟨k, rfl, hk⟩
    unfold F33_pool_Twin_s0
    simp only
    by_cases hi : k < A.length
    · rw [if_pos (by simpa using hi), rd_nat]
      obtain ⟨s, hs⟩ : ∃ s, A[k]? = some s := ⟨_, List.getElem?_eq_getElem hi⟩
      have hsm := List.mem_of_getElem? hs
      have hcs := mem_pcnt hsm
      have hln := len_cnt fun l hl => ((h.may s hsm).1 l hl).1
      rw [hs]
      simp only [Option.bind_some]
      rw [show s = ⟨s.Lines⟩ from rfl, shtwin_val (by omega) (by omega)]
      simp only [Option.bind_some]
      rw [if_pos (by simp; omega)]
      simp only [StepOk]
      rw [wi64 (by omega) (by omega)]
      exact ⟨⟨k + 1, by rw [take_succ hs]; simp, by omega⟩, by omega⟩
    · rw [if_neg (by simpa using hi)]
      have hk' : k = A.length := by omega
      subst hk'
      simp only [StepOk, List.take_length]
  rw [hb]; rfl
theorem misplaced_val {A : List GShard} (h : PoolG A) {i : Nat} {s : GShard} (hs : A[i]? = some s) (hc : s.Lines.length ≤ 290) : F79_api_Line_c11 1000 s.Lines A (i : Int) = some false := by
  have h8 := h.len8
  have h1 := h.len
  have hsm := List.mem_of_getElem? hs
  unfold F79_api_Line_c11 F112_api_Line_dd1
  obtain ⟨b, hb, rfl⟩ : ∃ b, loopF (fun z => F112_api_Line_dd1_s0 1000 s.Lines A (i : Int) z) 1000 (0 : Int) = some b ∧ b = .inl () := by
    refine loop_ok (fun z => ∃ k : Nat, z = (k : Int) ∧ k ≤ s.Lines.length) (fun z => (s.Lines.length - z).toNat) (fun b : Unit ⊕ Int => b = .inl ()) ?_ 1000 _ ⟨0, rfl, by omega⟩ (by simp; omega)
    rintro z ⟨k, rfl, hk⟩
    unfold F112_api_Line_dd1_s0 F80_pool_Check_1_264
    by_cases hi : k < s.Lines.length
    · rw [if_pos (by simpa using hi), rd_nat]
      obtain ⟨l, hl⟩ : ∃ l, s.Lines[k]? = some l := ⟨_, List.getElem?_eq_getElem hi⟩
      have hlm := List.mem_of_getElem? hl
      rw [hl]
      simp only [Option.bind_some]
      rw [at_val ((h.ok s hsm).dig l hlm) h1 h8, h.at_ i s hs l hlm]
      simp only [Option.bind_some, bne_self_eq_false, Bool.false_eq_true, if_false, StepOk]
      rw [wi64 (by omega) (by omega)]
      exact ⟨⟨k + 1, by simp, by omega⟩, by omega⟩
    · rw [if_neg (by simpa using hi)]
      simp only [StepOk]
  rw [hb]; rfl
theorem pcheck_val {A : List GShard} (h : PoolG A) (hc : pcnt A ≤ 290) : F28_pool_Check 1000 A = some 0 := by
  have h8 := h.len8
  have h1 := h.len
  unfold F28_pool_Check
  rw [if_neg (by simp; omega)]
  simp only [Option.bind_some]
  rw [if_neg (by simp; omega)]
  obtain ⟨b, hb, rfl⟩ : ∃ b, loopF (fun z => F28_pool_Check_s0 1000 A z) 1000 (0 : Int) = some b ∧ b = .inl () := by
    refine loop_ok (fun z => ∃ k : Nat, z = (k : Int) ∧ k ≤ A.length) (fun z => (A.length - z).toNat) (fun b : Unit ⊕ Unit => b = .inl ()) ?_ 1000 _ ⟨0, rfl, by omega⟩ (by simp; omega)
    rintro z ⟨k, rfl, hk⟩
    unfold F28_pool_Check_s0
    by_cases hi : k < A.length
    · rw [if_pos (by simpa using hi), rd_nat]
      obtain ⟨s, hs⟩ : ∃ s, A[k]? = some s := ⟨_, List.getElem?_eq_getElem hi⟩
      have hsm := List.mem_of_getElem? hs
      have hcs := mem_pcnt hsm
      have hln := len_cnt fun l hl => ((h.may s hsm).1 l hl).1
      have hck := (shcheck_val (h.ok s hsm) (by omega)).1 (h.may s hsm)
      rw [hs]
      simp only [Option.bind_some]
      rw [show (⟨s.Lines⟩ : GShard) = s from rfl] at hck
      rw [hck]
      simp only [Option.bind_some]
      rw [if_neg (by simp), misplaced_val h hs (by omega)]
      simp only [Option.bind_some, Bool.false_eq_true, if_false, StepOk]
      rw [wi64 (by omega) (by omega)]
      exact ⟨⟨k + 1, by simp, by omega⟩, by omega⟩
    · rw [if_neg (by simpa using hi)]
      simp only [StepOk]
  rw [hb]; rfl
end Go.Proofs.YtonfljoibcnlgaaDoor
