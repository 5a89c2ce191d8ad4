/-
  ShardReturns answers true, as a function on plain data. No machine is in sight.
-/
import Derived.Test.YtonfljoibcnlgaaDoorM2
import Derived.Test.YtonfljoibcnlgaaDoorM3
import Derived.Test.YtonfljoibcnlgaaDoorQv
namespace Go.Proofs.YtonfljoibcnlgaaDoor
open Bd Go

/-- what was there is there, or a better one -/
def Bet (P Q : List GLine) : Prop := ∀ f, ∀ y ∈ (lineOf P f).Txs, ∃ y' ∈ (lineOf Q f).Txs, y'.Nonce = y.Nonce ∧ (y' = y ∨ y.Fee < y'.Fee)
theorem Bet.refl (P : List GLine) : Bet P P := fun _ y hy => ⟨y, hy, rfl, .inl rfl⟩
theorem Bet.trans {P Q R : List GLine} (h : Bet P Q) (k : Bet Q R) : Bet P R := fun f y hy => by
  obtain ⟨y1, h1, h2, h3⟩ := h f y hy
  obtain ⟨y2, k1, k2, k3⟩ := k f y1 h1
  refine ⟨y2, k1, by rw [k2, h2], ?_⟩
  rcases h3 with rfl | h3
  · exact k3
  · rcases k3 with rfl | k3
    · exact .inr h3
    · exact .inr (by omega)
theorem Bet.has {P Q : List GLine} (h : Bet P Q) {f : List Int} {n fee : Int} (k : ∃ y ∈ (lineOf P f).Txs, y.Nonce = n ∧ fee ≤ y.Fee) : ∃ y ∈ (lineOf Q f).Txs, y.Nonce = n ∧ fee ≤ y.Fee := by
  obtain ⟨y, h1, h2, h3⟩ := k
  obtain ⟨y', g1, g2, g3⟩ := h f y h1
  refine ⟨y', g1, by rw [g2, h2], ?_⟩
  rcases g3 with rfl | g3
  · exact h3
  · omega

theorem back_step {P : List GLine} (hm : MayS P) (hs : ShOk P) (hlen : P.length ≤ 40) (hc : cnt P ≤ 100) {x : GTx} (hx : TxOk x) (hsg : x.Sign = sg x) :
    F93_shard_part_line_ec6 1000 (ky x.Pub) P = some (lineOf P (ky x.Pub)) ∧ ∃ q : GLine × List GTx × Int, F34_queue_Put 1000 (lineOf P (ky x.Pub)) x = some q ∧
      ((q.2.2 = 190 ∧ ∃ y ∈ (lineOf P (ky x.Pub)).Txs, y.Nonce = x.Nonce ∧ x.Fee ≤ y.Fee) ∨
       (q.2.2 = 0 ∧ ∃ P', F95_shard_part_set_ddb 1000 q.1 P = some P' ∧ MayS P' ∧ ShOk P' ∧ P'.length ≤ P.length + 1 ∧ cnt P' ≤ cnt P + 1 ∧ Bet P P' ∧ x ∈ (lineOf P' (ky x.Pub)).Txs)) := by
  have hfd : Dig (ky x.Pub) := ky_dig hx.pub
  refine ⟨line_val hs.dig hm.2 hfd (by omega), ?_⟩
  have hl0 := lineOf_ok hs hfd.1
  have hm0 := lineOf_may hm (ky x.Pub)
  have hf0 := lineOf_from P (ky x.Pub)
  have hc0 := lineOf_cnt P (ky x.Pub)
  have ho : own x (lineOf P (ky x.Pub)).From = true := by rw [hf0]; simp [own, hsg]
  rcases put_own hl0 hm0 hx ho (by omega) with ⟨y, y1, y2, y3, he⟩ | ⟨A, S, old, hT⟩
  · exact ⟨_, he, .inl ⟨rfl, y, y1, y2, y3⟩⟩
  · have hmay := takes_may hm0 (by omega) ho hT
    have hline := takes_line hl0 hx hT
    obtain ⟨h1, h2, h3, h4, h5⟩ := hT
    rw [hf0] at h1 hmay hline
    obtain ⟨A1, M1, S1, hA, hset⟩ := set_val hs.dig hm.2 (l := ⟨ky x.Pub, A ++ x :: S⟩) hfd (by omega)
    obtain ⟨n1, n2, n3, n4, n5, n6⟩ := setL_spec hs.dig hm hfd hmay hA
    simp only at n2 n3 n4
    have hlen2 : (lineOf P (ky x.Pub)).Txs.length = A.length + old.length + S.length := by rw [h2]; simp [Nat.add_assoc]
    refine ⟨_, h1, .inr ⟨rfl, _, hset, n1, ⟨fun l hl => ?_, fun l hl => ?_⟩, n5, ?_, fun f y hy => ?_, by rw [n2]; simp⟩⟩
    · rcases n6 l hl with rfl | h
      · exact hline
      · exact hs.line l h
    · rcases n6 l hl with rfl | h
      · exact hfd
      · exact hs.dig l h
    · simp only [List.length_append, List.length_cons] at n4
      omega
    · by_cases hf : f = ky x.Pub
      · subst hf
        rw [n2]
        rw [h2] at hy
        rcases List.mem_append.1 hy with h | h
        · rcases List.mem_append.1 h with h | h
          · exact ⟨y, by simp [h], rfl, .inl rfl⟩
          · rcases h3 with rfl | ⟨z, rfl, z1, z2⟩
            · cases h
            · simp only [List.mem_singleton] at h; subst h
              exact ⟨x, by simp, z1.symm, .inr z2⟩
        · exact ⟨y, by simp [h], rfl, .inl rfl⟩
      · rw [n3 f hf]
        exact ⟨y, hy, rfl, .inl rfl⟩

/-- are all transactions signed? -/
theorem signed_val {l : List GTx} (hl : ∀ x ∈ l, TxOk x) (h10 : l.length ≤ 10) : ∃ b, F101_api_Tx_76e 1000 l = some b ∧ (b = false → ∀ x ∈ l, x.Sign = sg x) := by
  unfold F101_api_Tx_76e F128_api_Tx_687
  obtain ⟨b, hb, hP⟩ := loop_ok (f := fun z => F128_api_Tx_687_s0 1000 l z) (fun z => ∃ k : Nat, z = (k : Int) ∧ k ≤ l.length ∧ ∀ x ∈ l.take k, x.Sign = sg x) (fun z => (l.length - z).toNat) (fun b : Unit ⊕ Int => (b = .inl () → ∀ x ∈ l, x.Sign = sg x) ∧ ∀ j, b = .inr j → 0 ≤ j) (by
    rintro z ⟨k, rfl, hk, hall⟩
    unfold F128_api_Tx_687_s0 F102_shard_Back_1
    by_cases hi : k < l.length
    · rw [if_pos (by simpa using hi), rd_nat]
      obtain ⟨x, hx⟩ : ∃ x, l[k]? = some x := ⟨_, List.getElem?_eq_getElem hi⟩
      rw [hx]
      simp only [Option.bind_some]
      rw [tx_check (hl x (List.mem_of_getElem? hx))]
      simp only [Option.bind_some]
      by_cases hs : x.Sign = sg x
      · rw [if_pos hs, if_neg (by simp)]
        simp only [StepOk]
        rw [wi64 (by omega) (by omega)]
        refine ⟨⟨k + 1, by simp, by omega, fun y hy => ?_⟩, by omega⟩
        rw [take_succ hx] at hy
        rcases List.mem_append.1 hy with hy | hy
        · exact hall y hy
        · simp only [List.mem_singleton] at hy; subst hy; exact hs
      · rw [if_neg hs, if_pos (by simp)]
        exact ⟨by simp, fun j hj => by cases hj; omega⟩
    · rw [if_neg (by simpa using hi)]
      have : k = l.length := by omega
      subst this
      rw [List.take_length] at hall
      exact ⟨fun _ => hall, by simp⟩) 1000 0 ⟨0, rfl, by omega, by simp⟩ (by simp; omega)
  rw [hb]
  simp only [Option.bind_some]
  rcases b with ⟨⟩ | j
  · exact ⟨_, rfl, fun _ => hP.1 rfl⟩
  · refine ⟨_, rfl, fun h => ?_⟩
    have := hP.2 j rfl
    simp at h; omega

/-- what 'Back' makes of a shard -/
structure Ret (ls : List GLine) (t : GTree) (l : List GTx) (k : Nat) (P : List GLine) : Prop where
  may : MayS P
  ok : ShOk P
  len : P.length ≤ ls.length + k
  cnt : cnt P ≤ cnt ls + k
  bet : Bet ls P
  has : ∀ i x, i < k → l[i]? = some x → ∀ a e, F64_acct_Get 1000 t (ky x.Pub) = some (a, e) → a.Nonce ≤ x.Nonce → ∃ y ∈ (lineOf P (ky x.Pub)).Txs, y.Nonce = x.Nonce ∧ x.Fee ≤ y.Fee
theorem back_val {ls : List GLine} (hs : ShOk ls) (hlen : ls.length ≤ 6) (hc : cnt ls ≤ 20) {t : GTree} (ht : TreeV t) {l : List GTx} (hl : ∀ x ∈ l, TxOk x) (h10 : l.length ≤ 10) :
    ∃ P e, F63_shard_Back 1000 ⟨ls⟩ t l = some (⟨P⟩, e) ∧ ((e ≠ 0 ∧ P = []) ∨ (e = 0 ∧ MayS ls ∧ F67_acct_Check 1000 t = some 0 ∧ Ret ls t l l.length P)) := by
  unfold F63_shard_Back
  by_cases hm : MayS ls
  case neg =>
    rw [(shcheck_val hs (by omega)).2 hm]
    exact ⟨[], 8, rfl, .inl ⟨by decide, rfl⟩⟩
  rw [(shcheck_val hs (by omega)).1 hm]
  simp only [Option.bind_some]
  rw [if_neg (by simp)]
  obtain ⟨e, he, _⟩ := acheck_val ht
  rw [he]
  simp only [Option.bind_some]
  by_cases h0 : e = 0
  case neg =>
    rw [if_pos (by simpa using h0)]
    exact ⟨[], 8, rfl, .inl ⟨by decide, rfl⟩⟩
  subst h0
  rw [if_neg (by simp)]
  obtain ⟨b, hb, hsg⟩ := signed_val hl h10
  rw [hb]
  simp only [Option.bind_some]
  cases b with
  | true => exact ⟨[], 110, rfl, .inl ⟨by decide, rfl⟩⟩
  | false =>
  have hsg := hsg rfl
  simp only [Bool.false_eq_true, if_false]
  rw [shtwin_val (by omega) (by omega)]
  simp only [Option.bind_some]
  obtain ⟨r, hr, hP⟩ := loop_ok (f := fun z : Int × List GLine => F63_shard_Back_s0 1000 t l z.1 z.2) (fun z => ∃ k : Nat, z.1 = (k : Int) ∧ k ≤ l.length ∧ Ret ls t l k z.2) (fun z => (l.length - z.1).toNat) (fun r : List GLine ⊕ Int => ∃ P, r = .inl P ∧ Ret ls t l l.length P) (by
    rintro ⟨z, P⟩ ⟨k, e, hk, hR⟩
    simp only at e hR
    subst e
    unfold F63_shard_Back_s0
    simp only
    by_cases hi : k < l.length
    · rw [if_pos (by simpa using hi), rd_nat]
      obtain ⟨x, hx⟩ : ∃ x, l[k]? = some x := ⟨_, List.getElem?_eq_getElem hi⟩
      have hxm := List.mem_of_getElem? hx
      have hxo := hl x hxm
      rw [hx]
      simp only [Option.bind_some]
      rw [tx_from hxo]
      simp only [Option.bind_some]
      obtain ⟨a, ea, hga, _, _⟩ := get_val ht (ky_dig hxo.pub)
      rw [hga]
      simp only [Option.bind_some]
      have hl1 := hR.len
      have hl2 := hR.cnt
      -- the next state
      have next : ∀ P', MayS P' → ShOk P' → P'.length ≤ P.length + 1 → cnt P' ≤ cnt P + 1 → Bet P P' → (a.Nonce ≤ x.Nonce → ∃ y ∈ (lineOf P' (ky x.Pub)).Txs, y.Nonce = x.Nonce ∧ x.Fee ≤ y.Fee) →
          StepOk (fun z : Int × List GLine => ∃ k : Nat, z.1 = (k : Int) ∧ k ≤ l.length ∧ Ret ls t l k z.2) (fun z => (l.length - z.1).toNat) (fun r : List GLine ⊕ Int => ∃ P, r = .inl P ∧ Ret ls t l l.length P) ((k : Int), P)
            (some (.inl (IntKind.i64.wrap ((k : Int) + 1), P'))) := fun P' p1 p2 p3 p4 p5 p6 => by
        simp only [StepOk]
        rw [wi64 (by omega) (by omega)]
        refine ⟨⟨k + 1, by simp, by omega, p1, p2, by omega, by omega, hR.bet.trans p5, fun i y hik hy a' e' hg' hn => ?_⟩, by omega⟩
        by_cases e : i = k
        · subst e
          rw [hx] at hy; cases hy
          rw [hga] at hg'; cases hg'
          exact p6 hn
        · exact p5.has (hR.has i y (by omega) hy a' e' hg' hn)
      by_cases hn : x.Nonce < a.Nonce
      · rw [if_pos (by simpa using hn)]
        exact next P hR.may hR.ok (by omega) (by omega) (Bet.refl P) (fun h => by omega)
      · rw [if_neg (by simpa using hn)]
        obtain ⟨b1, q, b2, b3⟩ := back_step hR.may hR.ok (by omega) (by omega) hxo (hsg x hxm)
        rw [b1]
        simp only [Option.bind_some]
        rw [b2]
        simp only [Option.bind_some]
        rcases b3 with ⟨c1, c2⟩ | ⟨c1, P', c2, c3, c4, c5, c6, c7, c8⟩
        · rw [c1, if_neg (by decide), if_neg (by decide)]
          exact next P hR.may hR.ok (by omega) (by omega) (Bet.refl P) (fun _ => c2)
        · rw [c1, if_pos (by decide), c2]
          exact next P' c3 c4 c5 c6 c7 (fun _ => ⟨x, c8, rfl, by omega⟩)
    · rw [if_neg (by simpa using hi)]
      have : k = l.length := by omega
      subst this
      exact ⟨P, rfl, hR⟩) 1000 ((0 : Int), ls) ⟨0, rfl, by omega, hm, hs, by show ls.length ≤ ls.length + 0; omega, by show cnt ls ≤ cnt ls + 0; omega, Bet.refl ls, fun i x hi => by omega⟩ (by simp; omega)
  obtain ⟨P, rfl, hR⟩ := hP
  rw [hr]
  exact ⟨P, 0, rfl, .inr ⟨rfl, hm, by first | exact he | trivial, hR⟩⟩

theorem returns_val {ls : List GLine} (hs : ShOk ls) {t : GTree} (ht : ∀ x ∈ t.Nodes, NodeD x) {l : List GTx} (hl : ∀ x ∈ l, TxOk x) : F10_beadrolllaw20_ShardReturns 1000 ⟨ls⟩ t l = some true := by
  unfold F10_beadrolllaw20_ShardReturns
  rw [shalive_val]
  simp only [Option.bind_some]
  obtain ⟨b, hb, hg⟩ := great_val ls
  rw [hb]
  simp only [Option.bind_some]
  cases b with
  | true => simp
  | false =>
  obtain ⟨hlen, hc⟩ := hg rfl
  simp only [Bool.false_eq_true, if_false]
  obtain ⟨b, hb, hg⟩ := great06_val t
  rw [hb]
  simp only [Option.bind_some]
  cases b with
  | true => simp
  | false =>
  obtain ⟨t1, t2⟩ := hg rfl
  have htv : TreeV t := ⟨⟨ht, t1⟩, t2⟩
  simp only [Bool.false_eq_true, if_false]
  by_cases h10 : (l.length : Int) > 10
  · rw [if_pos (by simpa using h10)]; simp
  rw [if_neg (by simpa using h10)]
  simp only [Bool.not_true, Option.bind_some, Bool.false_eq_true, if_false]
  obtain ⟨P, e, hB, hcase⟩ := back_val hs hlen hc htv hl (by omega)
  rw [hB]
  simp only [Option.bind_some]
  rcases hcase with ⟨h0, rfl⟩ | ⟨rfl, hm, hchk, hR⟩
  · rw [if_pos (by simpa using h0)]; simp
  · rw [if_neg (by simp)]
    have hl1 := hR.len
    have hl2 := hR.cnt
    obtain ⟨r, hr, rfl⟩ : ∃ r, loopF (fun z => F10_beadrolllaw20_ShardReturns_s0 1000 t l (⟨P⟩, 0) z) 1000 (0 : Int) = some r ∧ r = .inl () := by
      refine loop_ok (fun z => ∃ k : Nat, z = (k : Int) ∧ k ≤ l.length) (fun z => (l.length - z).toNat) (fun r : Unit ⊕ Unit => r = .inl ()) ?_ 1000 _ ⟨0, rfl, by omega⟩ (by simp; omega)
      rintro z ⟨k, rfl, hk⟩
      unfold F10_beadrolllaw20_ShardReturns_s0
      by_cases hi : k < l.length
      · rw [if_pos (by simpa using hi), rd_nat]
        obtain ⟨x, hx⟩ : ∃ x, l[k]? = some x := ⟨_, List.getElem?_eq_getElem hi⟩
        have hxo := hl x (List.mem_of_getElem? hx)
        rw [hx]
        simp only [Option.bind_some]
        rw [tx_from hxo]
        simp only [Option.bind_some]
        obtain ⟨a, ea, hga, _, hea⟩ := get_val htv (ky_dig hxo.pub)
        have hea := hea hchk
        subst hea
        rw [hga]
        simp only [Option.bind_some]
        obtain ⟨⟨q, qb⟩, hq, hq1, hq2⟩ := shfind_val hR.may.2 (ls := P) (by omega) (by omega) (ky x.Pub) x.Nonce
        rw [hq]
        simp only [Option.bind_some]
        rw [if_neg (by simp)]
        have hgo : StepOk (fun z : Int => ∃ k : Nat, z = (k : Int) ∧ k ≤ l.length) (fun z => (l.length - z).toNat) (fun r : Unit ⊕ Unit => r = .inl ()) (k : Int) (some (.inl (IntKind.i64.wrap ((k : Int) + 1)))) := by
          simp only [StepOk]
          rw [wi64 (by omega) (by omega)]
          exact ⟨⟨k + 1, by simp, by omega⟩, by omega⟩
        by_cases hn : x.Nonce ≥ a.Nonce
        · rw [if_pos (by simpa using hn)]
          obtain ⟨y, y1, y2, y3⟩ := hR.has k x hi hx a 0 hga hn
          cases qb with
          | false => exact absurd y2 (hq2 rfl y y1)
          | true =>
            obtain ⟨q1, q2⟩ := hq1 rfl
            have : q = y := inc_uniq (lineOf_may hR.may _).2.2 q1 y1 (by rw [q2, y2])
            subst this
            rw [if_neg (by simp)]
            have : decide (q.Fee < x.Fee) = false := by simp; omega
            rw [this]
            exact hgo
        · rw [if_neg (by simpa using hn)]
          exact hgo
      · rw [if_neg (by simpa using hi)]
        exact rfl
    rw [hr]
    simp only [Option.bind_some, Sum.elim_inl]
    obtain ⟨r, hr, rfl⟩ : ∃ r, loopF (fun z => F10_beadrolllaw20_ShardReturns_s1 1000 ⟨ls⟩ (⟨P⟩, 0) z) 1000 (0 : Int) = some r ∧ r = .inl () := by
      refine loop_ok (fun z => ∃ k : Nat, z = (k : Int) ∧ k ≤ ls.length) (fun z => (ls.length - z).toNat) (fun r : Unit ⊕ Unit => r = .inl ()) ?_ 1000 _ ⟨0, rfl, by omega⟩ (by simp; omega)
      rintro z ⟨k, rfl, hk⟩
      unfold F10_beadrolllaw20_ShardReturns_s1
      simp only
      by_cases hi : k < ls.length
      · rw [if_pos (by simpa using hi)]
        obtain ⟨ln, hln⟩ : ∃ ln, ls[k]? = some ln := ⟨_, List.getElem?_eq_getElem hi⟩
        have hlm := List.mem_of_getElem? hln
        have hlc := mem_cnt hlm
        obtain ⟨r2, hr2, rfl⟩ : ∃ r, loopF (fun z => F10_beadrolllaw20_ShardReturns_s2 1000 ⟨ls⟩ (⟨P⟩, 0) (k : Int) z) 1000 (0 : Int) = some r ∧ r = .inl () := by
          refine loop_ok (fun z => ∃ j : Nat, z = (j : Int) ∧ j ≤ ln.Txs.length) (fun z => (ln.Txs.length - z).toNat) (fun r : Unit ⊕ Unit => r = .inl ()) ?_ 1000 _ ⟨0, rfl, by omega⟩ (by simp; omega)
          rintro z ⟨j, rfl, hj⟩
          unfold F10_beadrolllaw20_ShardReturns_s2
          rw [rd_nat, hln]
          simp only [Option.bind_some]
          by_cases hj2 : j < ln.Txs.length
          · rw [if_pos (by simpa using hj2), rd_nat]
            obtain ⟨z, hz⟩ : ∃ z, ln.Txs[j]? = some z := ⟨_, List.getElem?_eq_getElem hj2⟩
            have hzm := List.mem_of_getElem? hz
            rw [hz]
            simp only [Option.bind_some]
            obtain ⟨y, y1, y2, y3⟩ := hR.bet ln.From z (by rw [lineOf_mem hm.2 hlm]; exact hzm)
            have hfind := shfind_in hR.may (by omega) (by omega) y1
            rw [y2] at hfind
            rw [hfind]
            simp only [Option.bind_some]
            rw [if_neg (by simp)]
            have hgo : StepOk (fun z : Int => ∃ j : Nat, z = (j : Int) ∧ j ≤ ln.Txs.length) (fun z => (ln.Txs.length - z).toNat) (fun r : Unit ⊕ Unit => r = .inl ()) (j : Int) (some (.inl (IntKind.i64.wrap ((j : Int) + 1)))) := by
              simp only [StepOk]
              rw [wi64 (by omega) (by omega)]
              exact ⟨⟨j + 1, by simp, by omega⟩, by omega⟩
            by_cases hyz : y = z
            · rw [if_neg (by simp [hyz])]
              exact hgo
            · rw [if_pos (by simp [hyz])]
              have : decide (y.Fee ≤ z.Fee) = false := by
                rcases y3 with h | h
                · exact absurd h hyz
                · simp; omega
              rw [this]
              exact hgo
          · rw [if_neg (by simpa using hj2)]
            exact rfl
        rw [hr2]
        simp only [Option.bind_some, Sum.elim_inl, StepOk]
        rw [wi64 (by omega) (by omega)]
        exact ⟨⟨k + 1, by simp, by omega⟩, by omega⟩
      · rw [if_neg (by simpa using hi)]
        exact rfl
    rw [hr]
    simp only [Option.bind_some, Sum.elim_inl, if_true]
    rw [(shcheck_val hR.ok (by omega)).1 hR.may]
    rfl
end Go.Proofs.YtonfljoibcnlgaaDoor
