/-
  What 'Submit' makes of a shard, as a function on plain data. No machine is in sight.
-/
import Derived.Test.YtonfljoibcnlgaaDoorQc
namespace Go.Proofs.YtonfljoibcnlgaaDoor
open Bd Go

theorem lineOf_mem {ls : List GLine} (hs : Srt ls) {l : GLine} (hl : l ∈ ls) : lineOf ls l.From = l := by
  unfold lineOf
  cases hf : ls.find? fun y => decide (y.From = l.From) with
  | none => exact absurd (List.find?_eq_none.1 hf l hl) (by simp)
  | some y =>
    have h1 := List.mem_of_find?_eq_some hf
    have h2 : y.From = l.From := by simpa using List.find?_some hf
    obtain ⟨i, hi⟩ := List.getElem?_of_mem h1
    obtain ⟨j, hj⟩ := List.getElem?_of_mem hl
    rcases Nat.lt_trichotomy i j with h | h | h
    · have := srt_at hs hi hj h; rw [h2, lt_self] at this; cases this
    · subst h; rw [hi] at hj; cases hj; rfl
    · have := srt_at hs hj hi h; rw [h2, lt_self] at this; cases this
theorem lineOf_or (ls : List GLine) (f : List Int) : (lineOf ls f = ⟨f, []⟩ ∧ ∀ l ∈ ls, l.From ≠ f) ∨ (lineOf ls f ∈ ls ∧ (lineOf ls f).From = f) := by
  unfold lineOf
  cases hf : ls.find? fun y => decide (y.From = f) with
  | none => exact .inl ⟨rfl, fun l hl => by simpa using List.find?_eq_none.1 hf l hl⟩
  | some y => exact .inr ⟨List.mem_of_find?_eq_some hf, by simpa using List.find?_some hf⟩
theorem lineOf_from (ls : List GLine) (f : List Int) : (lineOf ls f).From = f := by
  rcases lineOf_or ls f with ⟨h, _⟩ | ⟨_, h⟩
  · rw [h]
  · exact h
theorem lineOf_cnt (ls : List GLine) (f : List Int) : (lineOf ls f).Txs.length ≤ cnt ls := by
  rcases lineOf_or ls f with ⟨h, _⟩ | ⟨h, _⟩
  · rw [h]; simp
  · exact mem_cnt h
theorem lineOf_may {ls : List GLine} (hm : MayS ls) (f : List Int) : May (lineOf ls f) := by
  rcases lineOf_or ls f with ⟨h, _⟩ | ⟨h, _⟩
  · rw [h]; exact ⟨by simp, by simp, List.Pairwise.nil⟩
  · exact (hm.1 _ h).2
theorem lineOf_ok {ls : List GLine} (hs : ShOk ls) {f : List Int} (hf : f.length = 32) : LineOk (lineOf ls f) := by
  rcases lineOf_or ls f with ⟨h, _⟩ | ⟨h, _⟩
  · rw [h]; exact ⟨hf, by simp⟩
  · exact hs.line _ h

/-- a sender's transaction of a nonce -/
theorem shfind_val {ls : List GLine} (hs : Srt ls) (hlen : ls.length ≤ 290) (hc : cnt ls ≤ 290) (f : List Int) (n : Int) :
    ∃ q : GTx × Bool, F51_beadrolllaw20_find 300 ⟨ls⟩ f n = some q ∧ (q.2 = true → q.1 ∈ (lineOf ls f).Txs ∧ q.1.Nonce = n) ∧ (q.2 = false → ∀ x ∈ (lineOf ls f).Txs, x.Nonce ≠ n) := by
  unfold F51_beadrolllaw20_find
  refine bP (S := fun o => ∃ q : GTx × Bool, o = some q ∧ (q.2 = true → q.1 ∈ (lineOf ls f).Txs ∧ q.1.Nonce = n) ∧ (q.2 = false → ∀ x ∈ (lineOf ls f).Txs, x.Nonce ≠ n))
    (Q := fun r : Unit ⊕ GTx => (∀ x, r = .inr x → x ∈ (lineOf ls f).Txs ∧ x.Nonce = n) ∧ (r = .inl () → ∀ x ∈ (lineOf ls f).Txs, x.Nonce ≠ n)) ?_ fun r hr => ?_
  · refine loop_ok (fun z => ∃ k : Nat, z = (k : Int) ∧ k ≤ ls.length ∧ ∀ l ∈ ls.take k, l.From = f → ∀ x ∈ l.Txs, x.Nonce ≠ n) (fun z => (ls.length - z).toNat) _ ?_ 300 _ ⟨0, rfl, by omega, by simp⟩ (by simp; omega)
    rintro z ⟨k, rfl, hk, ht⟩
    unfold F51_beadrolllaw20_find_s0
    by_cases hi : k < ls.length
    · rw [if_pos (by simpa using hi)]
      obtain ⟨l, hl⟩ : ∃ l, ls[k]? = some l := ⟨_, List.getElem?_eq_getElem hi⟩
      have hlm := List.mem_of_getElem? hl
      have hlc := mem_cnt hlm
      obtain ⟨b, hb, hP⟩ : ∃ b, loopF (fun z => F51_beadrolllaw20_find_s1 ⟨ls⟩ f n (k : Int) z) 300 (0 : Int) = some b ∧ ((∀ x, b = .inr x → l.From = f ∧ x ∈ l.Txs ∧ x.Nonce = n) ∧ (b = .inl () → l.From = f → ∀ x ∈ l.Txs, x.Nonce ≠ n)) := by
        refine loop_ok (fun z => ∃ j : Nat, z = (j : Int) ∧ j ≤ l.Txs.length ∧ ∀ x ∈ l.Txs.take j, x.Nonce ≠ n) (fun z => (l.Txs.length - z).toNat) (fun b : Unit ⊕ GTx => (∀ x, b = .inr x → l.From = f ∧ x ∈ l.Txs ∧ x.Nonce = n) ∧ (b = .inl () → l.From = f → ∀ x ∈ l.Txs, x.Nonce ≠ n)) ?_ 300 _ ⟨0, rfl, by omega, by simp⟩ (by simp; omega)
        rintro z ⟨j, rfl, hj, hx⟩
        unfold F51_beadrolllaw20_find_s1
        rw [rd_nat, hl]
        simp only [Option.bind_some]
        by_cases hj2 : j < l.Txs.length
        · rw [if_pos (by simpa using hj2)]
          simp only [Option.bind_some]
          by_cases hf : l.From = f
          · rw [if_pos (by simpa using hf), rd_nat]
            obtain ⟨x, hxj⟩ : ∃ x, l.Txs[j]? = some x := ⟨_, List.getElem?_eq_getElem hj2⟩
            rw [hxj]
            simp only [Option.bind_some]
            by_cases he : x.Nonce = n
            · rw [if_pos (by simpa using he)]
              simp only [StepOk]
              exact ⟨fun y e => by cases e; exact ⟨hf, List.mem_of_getElem? hxj, he⟩, by simp⟩
            · rw [if_neg (by simpa using he)]
              simp only [StepOk]
              rw [wi64 (by omega) (by omega)]
              refine ⟨⟨j + 1, by omega, by omega, fun y hy => ?_⟩, by omega⟩
              rw [take_succ hxj] at hy
              rcases List.mem_append.1 hy with hy | hy
              · exact hx y hy
              · simp only [List.mem_singleton] at hy; subst hy; exact he
          · rw [if_neg (by simpa using hf)]
            simp only [StepOk]
            exact ⟨by simp, fun _ h => absurd h hf⟩
        · rw [if_neg (by simpa using hj2)]
          simp only [Option.bind_some, Bool.false_eq_true, if_false, StepOk]
          have : j = l.Txs.length := by omega
          subst this
          rw [List.take_length] at hx
          exact ⟨by simp, fun _ _ => hx⟩
      rw [hb]
      simp only [Option.bind_some]
      rcases b with ⟨⟩ | x
      · simp only [Sum.elim_inl, StepOk]
        rw [wi64 (by omega) (by omega)]
        refine ⟨⟨k + 1, by omega, by omega, fun y hy => ?_⟩, by omega⟩
        rw [take_succ hl] at hy
        rcases List.mem_append.1 hy with hy | hy
        · exact ht y hy
        · simp only [List.mem_singleton] at hy; subst hy; exact hP.2 rfl
      · simp only [Sum.elim_inr, StepOk]
        obtain ⟨h1, h2, h3⟩ := hP.1 x rfl
        refine ⟨fun y e => ?_, by simp⟩
        cases e
        rw [← h1, lineOf_mem hs hlm]
        exact ⟨h2, h3⟩
    · rw [if_neg (by simpa using hi)]
      have hk' : k = ls.length := by omega
      subst hk'
      rw [List.take_length] at ht
      simp only [StepOk]
      refine ⟨by simp, fun _ x hx => ?_⟩
      rcases lineOf_or ls f with ⟨h, _⟩ | ⟨h1, h2⟩
      · rw [h] at hx; cases hx
      · exact ht _ h1 h2 x hx
  · rcases r with ⟨⟩ | x
    · exact ⟨_, rfl, by simp, fun _ => hr.2 rfl⟩
    · exact ⟨_, rfl, fun _ => hr.1 x rfl, by simp⟩
theorem shfind_in {ls : List GLine} (hm : MayS ls) (hlen : ls.length ≤ 290) (hc : cnt ls ≤ 290) {f : List Int} {x : GTx} (hx : x ∈ (lineOf ls f).Txs) : F51_beadrolllaw20_find 300 ⟨ls⟩ f x.Nonce = some (x, true) := by
  obtain ⟨⟨q, b⟩, h1, h2, h3⟩ := shfind_val hm.2 hlen hc f x.Nonce
  rw [h1]
  cases b with
  | false => exact absurd rfl (h3 rfl x hx)
  | true =>
    have e : q = x := inc_uniq (lineOf_may hm f).2.2 (h2 rfl).1 hx (h2 rfl).2
    rw [e]

/-! ### the worst line -/
def lastFee (l : GLine) : Int := (l.Txs.getLast?.map (·.Fee)).getD 0
def wst (f : List Int) : List GLine → Int → Int → Int → Int
  | [], _, at_, _ => at_
  | l :: r, i, at_, least => if l.From ≠ f ∧ lastFee l < least then wst f r (i + 1) i (lastFee l) else wst f r (i + 1) at_ least
theorem last_val {ls : List GLine} {k : Nat} {l : GLine} (hl : ls[k]? = some l) (h0 : l.Txs ≠ []) (hc : l.Txs.length ≤ 100000) : F120_shard_part_worst_1_e00 300 (k : Int) ls = some (lastFee l) := by
  have hpos : 0 < l.Txs.length := List.length_pos_iff.2 h0
  unfold F120_shard_part_worst_1_e00
  rw [rd_nat, hl]
  simp only [Option.bind_some]
  rw [wi64 (by omega) (by omega), show (l.Txs.length : Int) - 1 = ((l.Txs.length - 1 : Nat) : Int) from by omega, rd_nat]
  unfold lastFee
  rw [List.getLast?_eq_getElem?]
  rw [List.getElem?_eq_getElem (show l.Txs.length - 1 < l.Txs.length from by omega)]
  rfl
theorem worst_val {ls : List GLine} (h0 : ∀ l ∈ ls, l.Txs ≠ []) (hlen : ls.length ≤ 290) (hc : cnt ls ≤ 100000) {x : GTx} (hx : x.Pub.length = 32) : F94_shard_part_worst_647 300 x ls = some (wst (ky x.Pub) ls 0 (-1) x.Fee) := by
  unfold F94_shard_part_worst_647 F39_tx_From
  rw [(ky_val hx).1]
  simp only [Option.bind_some]
  obtain ⟨b, hb, rfl⟩ : ∃ b, loopF (fun z : Int × Int => F94_shard_part_worst_647_s0 300 x ls (ky x.Pub) z.1 z.2) 300 ((-1 : Int), (0 : Int)) = some b ∧ b = wst (ky x.Pub) ls 0 (-1) x.Fee := by
    refine loop_ok (fun z : Int × Int => ∃ (k : Nat) (least : Int), z.2 = (k : Int) ∧ k ≤ ls.length ∧ wst (ky x.Pub) (ls.drop k) k z.1 least = wst (ky x.Pub) ls 0 (-1) x.Fee ∧ ((z.1 = -1 ∧ least = x.Fee) ∨ ∃ (j : Nat) (y : GLine), z.1 = (j : Int) ∧ ls[j]? = some y ∧ least = lastFee y ∧ least < x.Fee))
      (fun z : Int × Int => (ls.length - z.2).toNat) (fun b : Int => b = wst (ky x.Pub) ls 0 (-1) x.Fee) ?_ 300 _ ⟨0, x.Fee, rfl, by omega, rfl, .inl ⟨rfl, rfl⟩⟩ (by simp; omega)
    rintro ⟨a, i⟩ ⟨k, least, e, hk, hw, hat⟩
    simp only at e hw hat
    subst e
    unfold F94_shard_part_worst_647_s0
    simp only
    by_cases hi : k < ls.length
    · rw [if_pos (by simpa using hi), rd_nat]
      obtain ⟨l, hl⟩ : ∃ l, ls[k]? = some l := ⟨_, List.getElem?_eq_getElem hi⟩
      have hlm := List.mem_of_getElem? hl
      have hlc := mem_cnt hlm
      rw [drop_cons' hl, wst] at hw
      rw [hl]
      simp only [Option.bind_some]
      rw [last_val hl (h0 l hlm) (by omega)]
      simp only [Option.bind_some]
      by_cases hf : l.From = ky x.Pub
      · rw [if_neg (by simp [hf])]
        rw [if_neg (by simp [hf])] at hw
        simp only [Option.bind_some, Bool.false_eq_true, if_false, StepOk]
        rw [wi64 (by omega) (by omega)]
        exact ⟨⟨k + 1, least, by simp, by omega, by rw [← hw]; simp, hat⟩, by omega⟩
      · rw [if_pos (by simp [hf])]
        rcases hat with ⟨rfl, rfl⟩ | ⟨j, y, rfl, hy, rfl, hlt⟩
        · by_cases hfee : lastFee l < x.Fee
          · rw [if_pos (by simpa using hfee), if_pos (by simp)]
            rw [if_pos ⟨hf, hfee⟩] at hw
            simp only [Option.bind_some, if_true, StepOk]
            rw [wi64 (by omega) (by omega)]
            exact ⟨⟨k + 1, lastFee l, by simp, by omega, by rw [← hw]; simp, .inr ⟨k, l, rfl, hl, rfl, hfee⟩⟩, by omega⟩
          · rw [if_neg (by simpa using hfee)]
            rw [if_neg fun h => hfee h.2] at hw
            simp only [Option.bind_some, Bool.false_eq_true, if_false, StepOk]
            rw [wi64 (by omega) (by omega)]
            exact ⟨⟨k + 1, x.Fee, by simp, by omega, by rw [← hw]; simp, .inl (by simp)⟩, by omega⟩
        · have hyc := mem_cnt (List.mem_of_getElem? hy)
          rw [last_val hy (h0 y (List.mem_of_getElem? hy)) (by omega)]
          simp only [Option.bind_some]
          by_cases hfee : lastFee l < lastFee y
          · rw [if_pos (by simp; omega), if_neg (by simp)]
            rw [if_pos ⟨hf, hfee⟩] at hw
            simp only [Option.bind_some, hfee, decide_true, if_true, StepOk]
            rw [wi64 (by omega) (by omega)]
            exact ⟨⟨k + 1, lastFee l, by simp, by omega, by rw [← hw]; simp, .inr ⟨k, l, rfl, hl, rfl, by omega⟩⟩, by omega⟩
          · rw [if_neg fun h => hfee h.2] at hw
            have hnext : ∃ (k' : Nat) (least : Int), ((k : Int) + 1) = (k' : Int) ∧ k' ≤ ls.length ∧ wst (ky x.Pub) (ls.drop k') k' (j : Int) least = wst (ky x.Pub) ls 0 (-1) x.Fee ∧ (((j : Int) = -1 ∧ least = x.Fee) ∨ ∃ (j' : Nat) (y : GLine), (j : Int) = (j' : Int) ∧ ls[j']? = some y ∧ least = lastFee y ∧ least < x.Fee) :=
              ⟨k + 1, lastFee y, by simp, by omega, by rw [← hw]; simp, .inr ⟨j, y, rfl, hy, rfl, hlt⟩⟩
            by_cases hfx : lastFee l < x.Fee
            · rw [if_pos (by simpa using hfx), if_neg (by simp)]
              simp only [Option.bind_some, hfee, decide_false, Bool.false_eq_true, if_false, StepOk]
              rw [wi64 (by omega) (by omega)]
              exact ⟨hnext, by omega⟩
            · rw [if_neg (by simpa using hfx)]
              simp only [Option.bind_some, Bool.false_eq_true, if_false, StepOk]
              rw [wi64 (by omega) (by omega)]
              exact ⟨hnext, by omega⟩
    · rw [if_neg (by simpa using hi)]
      have hk' : k = ls.length := by omega
      subst hk'
      rw [List.drop_length] at hw
      exact hw
  rw [hb]; rfl
theorem wst_spec {f : List Int} : ∀ (ls : List GLine) (i : Nat) (at_ least : Int), wst f ls i at_ least = at_ ∨ ∃ (k : Nat) (w : GLine), wst f ls i at_ least = ((i + k : Nat) : Int) ∧ ls[k]? = some w ∧ w.From ≠ f
  | [], _, _, _ => .inl rfl
  | l :: r, i, at_, least => by
    unfold wst
    split
    · next h =>
      have := wst_spec (f := f) r (i + 1) i (lastFee l)
      rw [show ((i + 1 : Nat) : Int) = (i : Int) + 1 from by simp] at this
      rcases this with h1 | ⟨k, w, h1, h2, h3⟩
      · exact .inr ⟨0, l, h1, rfl, h.1⟩
      · exact .inr ⟨k + 1, w, by rw [h1]; congr 1; omega, by simpa using h2, h3⟩
    · have := wst_spec (f := f) r (i + 1) at_ least
      rw [show ((i + 1 : Nat) : Int) = (i : Int) + 1 from by simp] at this
      rcases this with h1 | ⟨k, w, h1, h2, h3⟩
      · exact .inl h1
      · exact .inr ⟨k + 1, w, by rw [h1]; congr 1; omega, by simpa using h2, h3⟩

/-! ### Submit -/
/-- a shard that has taken a transaction in -/
structure Sub (ls : List GLine) (cap : Int) (x : GTx) (a : List GLine) (gone : List GTx) : Prop where
  may : MayS a
  ok : ShOk a
  len : a.length ≤ ls.length + 2
  has : x ∈ (lineOf a (ky x.Pub)).Txs
  one : gone.length ≤ 1
  count : cnt a + gone.length = cnt ls + 1
  kept : ∀ f, ∀ z ∈ (lineOf ls f).Txs, z ∈ (lineOf a f).Txs ∨ gone = [z]
  room : gone = [] → (cnt ls : Int) < cap

theorem submit_val {ls : List GLine} (hs : ShOk ls) (hlen : ls.length ≤ 6) (hc : cnt ls ≤ 20) {x : GTx} (hx : TxOk x) (cap nonce : Int) :
    ∃ a gone e, F50_shard_Submit 300 ⟨ls⟩ cap nonce x = some (⟨a⟩, gone, e) ∧ ((e ≠ 0 ∧ a = [] ∧ gone = []) ∨ (e = 0 ∧ Sub ls cap x a gone)) := by
  unfold F50_shard_Submit
  by_cases hm : MayS ls
  case neg =>
    rw [(shcheck_val hs (by omega)).2 hm]
    exact ⟨[], [], 8, rfl, .inl ⟨by decide, rfl, rfl⟩⟩
  rw [(shcheck_val hs (by omega)).1 hm]
  simp only [Option.bind_some]
  rw [if_neg (by simp), tx_check hx]
  simp only [Option.bind_some]
  by_cases hsg : x.Sign = sg x
  case neg =>
    rw [if_neg hsg]
    exact ⟨[], [], 110, rfl, .inl ⟨by decide, rfl, rfl⟩⟩
  rw [if_pos hsg, if_neg (by simp)]
  by_cases hst : x.Nonce < nonce
  · rw [if_pos (by simpa using hst)]
    exact ⟨[], [], 200, rfl, .inl ⟨by decide, rfl, rfl⟩⟩
  rw [if_neg (by simpa using hst)]
  refine bP (S := fun o => ∃ a gone e, o = some ((⟨a⟩ : GShard), gone, e) ∧ ((e ≠ 0 ∧ a = [] ∧ gone = []) ∨ (e = 0 ∧ Sub ls cap x a gone))) (Q := fun _ => True) ?_ fun far _ => ?_
  · split <;> exact ⟨_, rfl, trivial⟩
  cases far with
  | true => exact ⟨[], [], 201, rfl, .inl ⟨by decide, rfl, rfl⟩⟩
  | false =>
  simp only [Bool.false_eq_true, if_false]
  have hfd : Dig (ky x.Pub) := ky_dig hx.pub
  rw [shtwin_val (by omega) (by omega), tx_from hx]
  simp only [Option.bind_some]
  rw [line_val hs.dig hm.2 hfd (by omega)]
  simp only [Option.bind_some]
  have hl0 := lineOf_ok hs hfd.1
  have hm0 := lineOf_may hm (ky x.Pub)
  have hf0 := lineOf_from ls (ky x.Pub)
  have hc0 := lineOf_cnt ls (ky x.Pub)
  have ho : own x (lineOf ls (ky x.Pub)).From = true := by rw [hf0]; simp [own, hsg]
  rcases put_own hl0 hm0 hx ho (by omega) with ⟨y, _, _, _, he⟩ | ⟨P, S, old, hT⟩
  · rw [he]
    exact ⟨[], [], 190, rfl, .inl ⟨by decide, rfl, rfl⟩⟩
  have hmay := takes_may hm0 (by omega) ho hT
  have hline := takes_line hl0 hx hT
  obtain ⟨h1, h2, h3, h4, h5⟩ := hT
  rw [h1]
  rw [hf0] at hmay hline ⊢
  simp only [Option.bind_some]
  rw [if_neg (by simp)]
  simp only [Option.bind_some]
  rw [if_neg (by simp), if_neg (by simp)]
  have hl0len : (lineOf ls (ky x.Pub)).Txs.length = P.length + old.length + S.length := by rw [h2]; simp [Nat.add_assoc]
  have hold : old.length ≤ 1 := by rcases h3 with rfl | ⟨y, rfl, _⟩ <;> simp
  by_cases hfull : old = [] ∧ (cnt ls : Int) ≥ cap
  · obtain ⟨rfl, hfull⟩ := hfull
    rw [if_pos (by simp), count_val (by omega) (by omega)]
    simp only [Option.bind_some]
    rw [if_pos (by simpa using hfull), worst_val (fun l hl => (hm.1 l hl).1) (by omega) (by omega) hx.pub]
    simp only [Option.bind_some]
    rcases wst_spec (f := ky x.Pub) ls 0 (-1) x.Fee with hw | ⟨k, w, hw, hwk, hwf⟩
    · rw [show ((0 : Nat) : Int) = 0 from rfl] at hw
      rw [hw]
      exact ⟨[], [], 9, rfl, .inl ⟨by decide, rfl, rfl⟩⟩
    rw [Nat.zero_add, show ((0 : Nat) : Int) = 0 from rfl] at hw
    have hwm := List.mem_of_getElem? hwk
    have hw0 := (hm.1 w hwm).1
    have hwpos : 0 < w.Txs.length := List.length_pos_iff.2 hw0
    have hwc := mem_cnt hwm
    rw [hw, if_neg (by simp), rd_nat, hwk]
    simp only [Option.bind_some]
    rw [wi64 (by omega) (by omega), show (w.Txs.length : Int) - 1 = ((w.Txs.length - 1 : Nat) : Int) from by omega, rd_nat]
    obtain ⟨z, hz⟩ : ∃ z, w.Txs[w.Txs.length - 1]? = some z := ⟨_, List.getElem?_eq_getElem (by omega)⟩
    rw [hz]
    simp only [Option.bind_some]
    rw [if_pos (by omega)]
    -- the line that gives way
    obtain ⟨w', hw'⟩ : ∃ w' : GLine, w' = { w with Txs := w.Txs.take (w.Txs.length - 1) } := ⟨_, rfl⟩
    rw [Int.toNat_natCast, ← hw']
    have hwfrom : w'.From = w.From := by rw [hw']
    have hwtxs : w'.Txs = w.Txs.take (w.Txs.length - 1) := by rw [hw']
    have hwsplit : w.Txs = w'.Txs ++ [z] := by
      rw [hwtxs]
      have := take_succ hz
      rw [show w.Txs.length - 1 + 1 = w.Txs.length from by omega, List.take_length] at this
      exact this
    have hwmay : May w' := ⟨by rw [hwtxs, List.length_take]; omega, fun q hq => by rw [hwfrom]; rw [hwtxs] at hq; exact ((hm.1 w hwm).2).2.1 q (List.mem_of_mem_take hq), by rw [hwtxs]; exact inc_take ((hm.1 w hwm).2).2.2 _⟩
    have hwlen : w'.Txs.length + 1 = w.Txs.length := by rw [hwsplit]; simp
    obtain ⟨P1, M1, S1, hA1, hset1⟩ := set_val hs.dig hm.2 (l := w') (by rw [hwfrom]; exact hs.dig w hwm) (by omega)
    obtain ⟨m1, m2, m3, m4, m5, m6⟩ := setL_spec hs.dig hm (by rw [hwfrom]; exact hs.dig w hwm) hwmay hA1
    rw [hset1]
    simp only [Option.bind_some]
    obtain ⟨b, hb⟩ : ∃ b, b = setL P1 w' S1 := ⟨_, rfl⟩
    rw [← hb] at m1 m2 m3 m4 m5 m6 ⊢
    have hlw : lineOf ls w'.From = w := by rw [hwfrom]; exact lineOf_mem hm.2 hwm
    rw [hlw] at m4
    have hbok : ShOk b := ⟨fun l hl => by
        rcases m6 l hl with rfl | h
        · exact ⟨by rw [hwfrom]; exact (hs.line w hwm).from_, fun q hq => (hs.line w hwm).txs q (by rw [hwsplit]; simp [hq])⟩
        · exact hs.line l h, fun l hl => by
        rcases m6 l hl with rfl | h
        · rw [hwfrom]; exact hs.dig w hwm
        · exact hs.dig l h⟩
    have hbx : lineOf b (ky x.Pub) = lineOf ls (ky x.Pub) := m3 _ (by rw [hwfrom]; exact hwf.symm)
    obtain ⟨P2, M2, S2, hA2, hset2⟩ := set_val hbok.dig m1.2 (l := ⟨ky x.Pub, P ++ x :: S⟩) hfd (by omega)
    obtain ⟨n1, n2, n3, n4, n5, n6⟩ := setL_spec hbok.dig m1 hfd hmay hA2
    rw [hset2]
    simp only [Option.bind_some]
    simp only at n2 n3 n4
    refine ⟨_, _, _, rfl, .inr ⟨rfl, ⟨n1, ⟨fun l hl => ?_, fun l hl => ?_⟩, by omega, by rw [n2]; simp, by simp, ?_, fun f q hq => ?_, by simp⟩⟩⟩
    · rcases n6 l hl with rfl | h
      · exact hline
      · exact hbok.line l h
    · rcases n6 l hl with rfl | h
      · exact hfd
      · exact hbok.dig l h
    · rw [hbx] at n4
      simp only [List.length_append, List.length_cons, List.length_nil] at n4 hl0len ⊢
      omega
    · by_cases hfx : f = ky x.Pub
      · subst hfx
        rw [n2]
        rw [h2] at hq
        simp at hq
        left
        rcases hq with h | h <;> simp [h]
      · rw [n3 f hfx]
        by_cases hfw : f = w'.From
        · subst hfw
          rw [hlw, hwsplit] at hq
          rw [m2]
          rcases List.mem_append.1 hq with h | h
          · exact .inl h
          · simp only [List.mem_singleton] at h; subst h; exact .inr rfl
        · rw [m3 f hfw]; exact .inl hq
  · have hroom : old = [] → (cnt ls : Int) < cap := fun h => by
      by_cases h' : (cnt ls : Int) ≥ cap
      · exact absurd ⟨h, h'⟩ hfull
      · omega
    have e : ((if (((old.length : Int)) == (0 : Int)) = true then (F53_shard_Count 300 ⟨ls⟩).bind fun y24 => some (decide (y24 ≥ cap)) else some false) : Option Bool) = some false := by
      by_cases h0 : old = []
      · rw [if_pos (by simp [h0]), count_val (by omega) (by omega)]
        have := hroom h0
        simp; omega
      · rw [if_neg (by simpa using h0)]
    rw [e]
    simp only [Option.bind_some, Bool.false_eq_true, if_false]
    obtain ⟨P2, M2, S2, hA2, hset2⟩ := set_val hs.dig hm.2 (l := ⟨ky x.Pub, P ++ x :: S⟩) hfd (by omega)
    obtain ⟨n1, n2, n3, n4, n5, n6⟩ := setL_spec hs.dig hm hfd hmay hA2
    rw [hset2]
    simp only [Option.bind_some]
    simp only at n2 n3 n4
    refine ⟨_, _, _, rfl, .inr ⟨rfl, ⟨n1, ⟨fun l hl => ?_, fun l hl => ?_⟩, by omega, by rw [n2]; simp, hold, ?_, fun f q hq => ?_, hroom⟩⟩⟩
    · rcases n6 l hl with rfl | h
      · exact hline
      · exact hs.line l h
    · rcases n6 l hl with rfl | h
      · exact hfd
      · exact hs.dig l h
    · simp only [List.length_append, List.length_cons] at n4
      omega
    · by_cases hfx : f = ky x.Pub
      · subst hfx
        rw [n2]
        rw [h2] at hq
        rcases List.mem_append.1 hq with h | h
        · rcases List.mem_append.1 h with h | h
          · left; simp [h]
          · rcases h3 with rfl | ⟨y, rfl, _⟩
            · cases h
            · simp only [List.mem_singleton] at h; subst h; exact .inr rfl
        · left; simp [h]
      · rw [n3 f hfx]; exact .inl hq
end Go.Proofs.YtonfljoibcnlgaaDoor
