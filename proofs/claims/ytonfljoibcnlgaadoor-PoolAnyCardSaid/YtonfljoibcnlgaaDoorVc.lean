/-
  PoolAny answers true. No machine is in sight.
-/
import Derived.Test.YtonfljoibcnlgaaDoorVb
import Derived.Test.YtonfljoibcnlgaaDoorVa
namespace Go.Proofs.YtonfljoibcnlgaaDoor
open Bd Go

theorem lineAt_ok {A : List GShard} (h : PoolG A) {f : List Int} (hf : Dig f) : ∃ s, A[pl f A.length]? = some s ∧ s ∈ A ∧ lineAt A f = lineOf s.Lines f := by
  obtain ⟨s, hs⟩ : ∃ s, A[pl f A.length]? = some s := ⟨_, List.getElem?_eq_getElem (pl_lt f h.len)⟩
  exact ⟨s, hs, List.mem_of_getElem? hs, by unfold lineAt shAt; rw [hs]; rfl⟩
/-- a pool with room -/
theorem psubmit_free {t : GTree} (ht : TreeV t) (hchk : F67_acct_Check 1000 t = some 0) {x : GTx} (hx : TxOk x) {L : GLine} (hf0 : L.From = ky x.Pub) (hl0 : LineOk L) (hm0 : May L) (hc0 : L.Txs.length ≤ 20) :
    ∃ gone e L', gone.length ≤ 1 ∧ ∀ A, PoolG A → pcnt A ≤ 20 → lineAt A (ky x.Pub) = L →
      ∃ B, F68_pool_Submit 1000 A 64 t x = some (B, gone, e) ∧ (e = 0 → PoolG B ∧ lineAt B (ky x.Pub) = L' ∧ (∀ g, Dig g → g ≠ ky x.Pub → lineAt B g = lineAt A g) ∧ pcnt B + gone.length = pcnt A + 1) := by
  have hfd : Dig (ky x.Pub) := ky_dig hx.pub
  obtain ⟨a, ea, hga, _, hea⟩ := get_val ht hfd
  have hea := hea hchk
  subst hea
  obtain ⟨gone, e, L', h1, h2, h3⟩ := submit_free hx a.Nonce hf0 hl0 hm0 hc0
  refine ⟨gone, e, L', h1, fun A hA hc hL => ?_⟩
  have hlen := hA.len
  have hlen8 := hA.len8
  obtain ⟨s, hs, hsm, hls⟩ := lineAt_ok hA hfd
  have hcs := mem_pcnt hsm
  obtain ⟨b, hb, hq⟩ := h3 s.Lines (hA.ok s hsm) (hA.may s hsm) (by omega) (by rw [← hls, hL])
  have hpl := pl_lt (ky x.Pub) hlen
  unfold F68_pool_Submit F106_pool_asked
  rw [pcheck_val hA (by omega), hchk]
  simp only [Option.bind_some]
  rw [if_neg (by simp), tx_from hx]
  simp only [Option.bind_some]
  rw [at_val hfd hlen hlen8, hga]
  simp only [Option.bind_some]
  unfold F107_api_Tx_1f2 F108_pool_Submit_1_5b5
  rw [if_neg (by simp)]
  simp only [Option.bind_some]
  rw [if_neg (by simp; omega), rd_nat, hs]
  simp only [Option.bind_some]
  rw [show s = ⟨s.Lines⟩ from rfl, hb]
  simp only [Option.bind_some]
  by_cases he : e = 0
  case neg =>
    rw [if_pos (by simpa using he)]
    have hgone := h2 he
    subst hgone
    exact ⟨_, rfl, fun h => absurd h he⟩
  subst he
  rw [if_neg (by simp), ptwin_val hA (by omega)]
  simp only [Option.bind_some]
  rw [rd_nat, hs]
  simp only [Option.bind_some]
  obtain ⟨q1, q2, q3, q4, q5, q6⟩ := hq rfl
  have e1 : (0 + ((pl (ky x.Pub) A.length : Nat) : Int).toNat) = pl (ky x.Pub) A.length := by omega
  rw [e1]
  refine ⟨_, rfl, fun _ => ?_⟩
  obtain ⟨i, hi⟩ : ∃ i, i = pl (ky x.Pub) A.length := ⟨_, rfl⟩
  rw [← hi] at hs hpl ⊢
  have hset : ∀ j, (A.set i (⟨b⟩ : GShard))[j]? = if j = i then some ⟨b⟩ else A[j]? := fun j => by
    rw [List.getElem?_set]
    by_cases h : i = j
    · subst h; simp [hpl]
    · rw [if_neg h, if_neg (Ne.symm h)]
  have hmem : ∀ z ∈ A.set i (⟨b⟩ : GShard), z = ⟨b⟩ ∨ z ∈ A := fun z hz => by
    rcases List.mem_or_eq_of_mem_set hz with h | h
    · exact .inr h
    · exact .inl h
  have hlen' : (A.set i (⟨b⟩ : GShard)).length = A.length := by simp
  refine ⟨⟨by rw [hlen']; exact hlen, by rw [hlen']; exact hlen8, fun z hz => ?_, fun z hz => ?_, fun j z hz l hl => ?_⟩, ?_, fun g hg hne => ?_, ?_⟩
  · rcases hmem z hz with rfl | h
    · exact q2
    · exact hA.ok z h
  · rcases hmem z hz with rfl | h
    · exact q1
    · exact hA.may z h
  · rw [hset] at hz
    rw [hlen']
    by_cases hj : j = i
    · rw [if_pos hj] at hz
      cases hz
      rcases q6 l hl with h | h
      · rw [h, hj, hi]
      · rw [hj]; exact hA.at_ i s hs l h
    · rw [if_neg hj] at hz
      exact hA.at_ j z hz l hl
  · unfold lineAt shAt
    rw [hlen', ← hi, hset, if_pos rfl]
    exact q3
  · unfold lineAt shAt
    rw [hlen', hset]
    by_cases hj : pl g A.length = i
    · rw [if_pos hj, hj, hs]
      exact q4 g hne
    · rw [if_neg hj]
  · have := pcnt_set (s' := (⟨b⟩ : GShard)) hs
    simp only at this
    omega

theorem pline_val {A : List GShard} (h : PoolG A) (hc : pcnt A ≤ 290) {f : List Int} (hf : Dig f) : F69_beadrolllaw21_line 1000 A f = some (lineAt A f).Txs := by
  have h8 := h.len8
  obtain ⟨s0, hs0, hsm0, hls0⟩ := lineAt_ok h hf
  unfold F69_beadrolllaw21_line
  obtain ⟨b, hb, hP⟩ : ∃ b, loopF (fun z => F69_beadrolllaw21_line_s0 1000 A f z) 1000 (0 : Int) = some b ∧ ((∀ x, b = .inr x → x = (lineAt A f).Txs) ∧ (b = .inl () → (lineAt A f).Txs = [])) := by
    refine loop_ok (fun z => ∃ k : Nat, z = (k : Int) ∧ k ≤ A.length ∧ ∀ s ∈ A.take k, ∀ l ∈ s.Lines, l.From ≠ f) (fun z => (A.length - z).toNat) (fun b : Unit ⊕ List GTx => (∀ x, b = .inr x → x = (lineAt A f).Txs) ∧ (b = .inl () → (lineAt A f).Txs = [])) ?_ 1000 _ ⟨0, rfl, by omega, by simp⟩ (by simp; omega)
    rintro z ⟨k, rfl, hk, hno⟩
    unfold F69_beadrolllaw21_line_s0
    by_cases hi : k < A.length
    · rw [if_pos (by simpa using hi)]
      obtain ⟨s, hs⟩ : ∃ s, A[k]? = some s := ⟨_, List.getElem?_eq_getElem hi⟩
      have hsm := List.mem_of_getElem? hs
      have hcs := mem_pcnt hsm
      have hln := len_cnt fun l hl => ((h.may s hsm).1 l hl).1
      obtain ⟨r, hr, hR⟩ : ∃ r, loopF (fun z => F69_beadrolllaw21_line_s1 A f (k : Int) z) 1000 (0 : Int) = some r ∧ ((∀ x, r = .inr x → x = (lineAt A f).Txs) ∧ (r = .inl () → ∀ l ∈ s.Lines, l.From ≠ f)) := by
        refine loop_ok (fun z => ∃ j : Nat, z = (j : Int) ∧ j ≤ s.Lines.length ∧ ∀ l ∈ s.Lines.take j, l.From ≠ f) (fun z => (s.Lines.length - z).toNat) (fun r : Unit ⊕ List GTx => (∀ x, r = .inr x → x = (lineAt A f).Txs) ∧ (r = .inl () → ∀ l ∈ s.Lines, l.From ≠ f)) ?_ 1000 _ ⟨0, rfl, by omega, by simp⟩ (by simp; omega)
        rintro z ⟨j, rfl, hj, hx⟩
        unfold F69_beadrolllaw21_line_s1
        rw [rd_nat, hs]
        simp only [Option.bind_some]
        by_cases hj2 : j < s.Lines.length
        · rw [if_pos (by simpa using hj2), rd_nat]
          obtain ⟨l, hl⟩ : ∃ l, s.Lines[j]? = some l := ⟨_, List.getElem?_eq_getElem hj2⟩
          have hlm := List.mem_of_getElem? hl
          rw [hl]
          simp only [Option.bind_some]
          by_cases he : l.From = f
          · rw [if_pos (by simpa using he)]
            simp only [StepOk]
            refine ⟨fun y e => ?_, by simp⟩
            cases e
            have hk' := h.at_ k s hs l hlm
            rw [he] at hk'
            rw [hk', hs] at hs0
            rw [hls0, ← Option.some.inj hs0, ← he, lineOf_mem (h.may s hsm).2 hlm]
          · rw [if_neg (by simpa using he)]
            simp only [StepOk]
            rw [wi64 (by omega) (by omega)]
            refine ⟨⟨j + 1, by omega, by omega, fun y hy => ?_⟩, by omega⟩
            rw [take_succ hl] at hy
            rcases List.mem_append.1 hy with hy | hy
            · exact hx y hy
            · simp only [List.mem_singleton] at hy; subst hy; exact he
        · rw [if_neg (by simpa using hj2)]
          simp only [StepOk]
          have : j = s.Lines.length := by omega
          subst this
          rw [List.take_length] at hx
          exact ⟨by simp, fun _ => hx⟩
      rw [hr]
      simp only [Option.bind_some]
      rcases r with ⟨⟩ | y
      · simp only [Sum.elim_inl, StepOk]
        rw [wi64 (by omega) (by omega)]
        refine ⟨⟨k + 1, by omega, by omega, fun y hy => ?_⟩, by omega⟩
        rw [take_succ hs] at hy
        rcases List.mem_append.1 hy with hy | hy
        · exact hno y hy
        · simp only [List.mem_singleton] at hy; subst hy; exact hR.2 rfl
      · simp only [Sum.elim_inr, StepOk]
        exact ⟨fun w e => by cases e; exact hR.1 y rfl, by simp⟩
    · rw [if_neg (by simpa using hi)]
      have hk' : k = A.length := by omega
      subst hk'
      rw [List.take_length] at hno
      simp only [StepOk]
      refine ⟨by simp, fun _ => ?_⟩
      rw [hls0]
      rcases lineOf_or s0.Lines f with ⟨h, _⟩ | ⟨h1, h2⟩
      · rw [h]
      · exact absurd h2 (hno s0 hsm0 _ h1)
  rw [hb]
  rcases b with ⟨⟩ | y
  · simp only [Option.bind_some, Sum.elim_inl]; rw [hP.2 rfl]
  · simp only [Option.bind_some, Sum.elim_inr]; rw [hP.1 y rfl]

theorem new_val (m : Int) : (F25_pool_New 1000 m = some ([], 2)) ∨ (1 ≤ m ∧ m ≤ 8 ∧ F25_pool_New 1000 m = some (List.replicate m.toNat ⟨[]⟩, 0)) := by
  unfold F25_pool_New
  by_cases h1 : m < 1
  · left; rw [if_pos (by simpa using h1)]; rfl
  · rw [if_neg (by simpa using h1)]
    simp only [Option.bind_some]
    by_cases h8 : m > 8
    · left; rw [if_pos (by simpa using h8)]
    · right
      refine ⟨by omega, by omega, ?_⟩
      rw [if_neg (by simpa using h8), if_pos (by omega)]
theorem new_pool {n : Nat} (h1 : 1 ≤ n) (h8 : n ≤ 8) : PoolG (List.replicate n (⟨[]⟩ : GShard)) ∧ pcnt (List.replicate n (⟨[]⟩ : GShard)) = 0 ∧ ∀ f, lineAt (List.replicate n (⟨[]⟩ : GShard)) f = ⟨f, []⟩ := by
  refine ⟨⟨by simpa using h1, by simpa using h8, fun s hs => ?_, fun s hs => ?_, fun i s hs l hl => ?_⟩, ?_, fun f => ?_⟩
  · rw [List.eq_of_mem_replicate hs]; exact ⟨by simp, by simp⟩
  · rw [List.eq_of_mem_replicate hs]; exact ⟨by simp, List.Pairwise.nil⟩
  · rw [List.eq_of_mem_replicate (List.mem_of_getElem? hs)] at hl; cases hl
  · simp [pcnt, cnt]
  · unfold lineAt shAt
    rw [List.length_replicate, List.getElem?_replicate, if_pos (pl_lt f h1)]
    rfl

theorem poany_val {t : GTree} (ht : ∀ x ∈ t.Nodes, NodeD x) {l : List GTx} (hl : ∀ x ∈ l, TxOk x) (many : Int) : F12_beadrolllaw21_PoolAny 1000 t l many = some true := by
  unfold F12_beadrolllaw21_PoolAny
  rw [poalive_val]
  simp only [Option.bind_some]
  obtain ⟨b, hb, hg⟩ := great06_val t
  rcases new_val 1 with hn1 | ⟨_, _, hn1⟩
  · exact absurd (hn1.symm.trans (show F25_pool_New 1000 1 = some ([⟨[]⟩], 0) from rfl)) (by simp)
  rcases new_val many with hn | ⟨m1, m8, hn⟩
  · rw [hn, hn1, hb]
    simp only [Option.bind_some]
    cases b with
    | true => simp
    | false =>
    simp only [Bool.false_eq_true, if_false]
    obtain ⟨t1, t2⟩ := hg rfl
    obtain ⟨e, he, _⟩ := acheck_val (t := t) ⟨⟨ht, t1⟩, t2⟩
    rw [he]
    simp only [Option.bind_some]
    by_cases h8 : (l.length : Int) > 8
    · rw [if_pos (by simpa using h8)]; simp
    rw [if_neg (by simpa using h8)]
    by_cases h0 : e = 0
    · rw [if_neg (by simpa using h0), if_pos (by simp)]; simp
    · rw [if_pos (by simpa using h0)]; simp
  rw [hn, hn1, hb]
  simp only [Option.bind_some]
  cases b with
  | true => simp
  | false =>
  simp only [Bool.false_eq_true, if_false]
  obtain ⟨t1, t2⟩ := hg rfl
  have htv : TreeV t := ⟨⟨ht, t1⟩, t2⟩
  obtain ⟨e, he, _⟩ := acheck_val htv
  rw [he]
  simp only [Option.bind_some]
  by_cases h8 : (l.length : Int) > 8
  · rw [if_pos (by simpa using h8)]; simp
  rw [if_neg (by simpa using h8)]
  by_cases h0 : e = 0
  case neg => rw [if_pos (by simpa using h0)]; simp
  subst h0
  rw [if_neg (by simp), if_neg (by simp), if_neg (by simp)]
  simp only [Bool.not_true, Option.bind_some, Bool.false_eq_true, if_false]
  obtain ⟨n, rfl⟩ : ∃ n : Nat, many = (n : Int) := ⟨many.toNat, by omega⟩
  simp only [Int.toNat_natCast]
  obtain ⟨a1, a2, a3⟩ := new_pool (n := n) (by omega) (by omega)
  obtain ⟨b1, b2, b3⟩ := new_pool (n := 1) (by omega) (by omega)
  obtain ⟨r, hr, A, B, rfl, hA, hB, hL, hcA, hcB⟩ : ∃ r, loopF (fun z : List GShard × List GShard × Int => F12_beadrolllaw21_PoolAny_s0 1000 t l z.1 z.2.1 z.2.2) 1000 (List.replicate n (⟨[]⟩ : GShard), List.replicate (1 : Int).toNat (⟨[]⟩ : GShard), (0 : Int)) = some r ∧ ∃ A B, r = .inl (A, B) ∧ PoolG A ∧ PoolG B ∧ (∀ f, Dig f → lineAt A f = lineAt B f) ∧ pcnt A ≤ 8 ∧ pcnt B = pcnt A := by
    refine loop_ok (fun z : List GShard × List GShard × Int => ∃ k : Nat, z.2.2 = (k : Int) ∧ k ≤ l.length ∧ PoolG z.1 ∧ PoolG z.2.1 ∧ (∀ f, Dig f → lineAt z.1 f = lineAt z.2.1 f) ∧ pcnt z.1 ≤ k ∧ pcnt z.2.1 = pcnt z.1) (fun z => (l.length - z.2.2).toNat)
      (fun r : (List GShard × List GShard) ⊕ Unit => ∃ A B, r = .inl (A, B) ∧ PoolG A ∧ PoolG B ∧ (∀ f, Dig f → lineAt A f = lineAt B f) ∧ pcnt A ≤ 8 ∧ pcnt B = pcnt A) ?_ 1000 _ ⟨0, rfl, by omega, a1, b1, fun f _ => by rw [a3 f]; exact (b3 f).symm, by rw [a2]; simp, by rw [a2]; exact b2⟩ (by simp; omega)
    rintro ⟨A, B, z⟩ ⟨k, e, hk, hA, hB, hL, hcA, hcB⟩
    simp only at e hA hB hL hcA hcB
    subst e
    unfold F12_beadrolllaw21_PoolAny_s0
    simp only
    by_cases hi : k < l.length
    · rw [if_pos (by simpa using hi), rd_nat]
      obtain ⟨x, hx⟩ : ∃ x, l[k]? = some x := ⟨_, List.getElem?_eq_getElem hi⟩
      have hxo := hl x (List.mem_of_getElem? hx)
      have hfd : Dig (ky x.Pub) := ky_dig hxo.pub
      rw [hx]
      simp only [Option.bind_some]
      obtain ⟨s, hs, hsm, hls⟩ := lineAt_ok hA hfd
      have hcs := mem_pcnt hsm
      have hc0 := lineOf_cnt s.Lines (ky x.Pub)
      obtain ⟨gone, e, L', g1, g2⟩ := psubmit_free htv he hxo (L := lineAt A (ky x.Pub)) (by rw [hls]; exact lineOf_from _ _) (by rw [hls]; exact lineOf_ok (hA.ok s hsm) hfd.1) (by rw [hls]; exact lineOf_may (hA.may s hsm) _) (by rw [hls]; omega)
      obtain ⟨A', hA1, hA2⟩ := g2 A hA (by omega) rfl
      obtain ⟨B', hB1, hB2⟩ := g2 B hB (by omega) (hL _ hfd).symm
      rw [hA1, hB1]
      simp only [Option.bind_some]
      rw [if_neg (by simp), same_val (by omega)]
      simp only [decide_true, Bool.not_true, Option.bind_some, Bool.false_eq_true, if_false]
      by_cases h0 : e = 0
      · subst h0
        rw [if_pos (by simp)]
        obtain ⟨p1, p2, p3, p4⟩ := hA2 rfl
        obtain ⟨q1, q2, q3, q4⟩ := hB2 rfl
        simp only [Option.bind_some, Sum.elim_inl, StepOk]
        rw [wi64 (by omega) (by omega)]
        refine ⟨⟨k + 1, by simp, by omega, p1, q1, fun f hf => ?_, by omega, by omega⟩, by omega⟩
        by_cases hfe : f = ky x.Pub
        · subst hfe; rw [p2, q2]
        · rw [p3 f hf hfe, q3 f hf hfe, hL f hf]
      · rw [if_neg (by simpa using h0)]
        simp only [Option.bind_some, Sum.elim_inl, StepOk]
        rw [wi64 (by omega) (by omega)]
        exact ⟨⟨k + 1, by simp, by omega, hA, hB, hL, by omega, hcB⟩, by omega⟩
    · rw [if_neg (by simpa using hi)]
      simp only [StepOk]
      exact ⟨A, B, rfl, hA, hB, hL, by omega, hcB⟩
  rw [hr]
  simp only [Option.bind_some, Sum.elim_inl]
  obtain ⟨r, hr, rfl⟩ : ∃ r, loopF (fun z => F12_beadrolllaw21_PoolAny_s1 1000 l (A, B) z) 1000 (0 : Int) = some r ∧ r = .inl () := by
    refine loop_ok (fun z => ∃ k : Nat, z = (k : Int) ∧ k ≤ l.length) (fun z => (l.length - z).toNat) (fun r : Unit ⊕ Unit => r = .inl ()) ?_ 1000 _ ⟨0, rfl, by omega⟩ (by simp; omega)
    rintro z ⟨k, rfl, hk⟩
    unfold F12_beadrolllaw21_PoolAny_s1
    simp only
    by_cases hi : k < l.length
    · rw [if_pos (by simpa using hi), rd_nat]
      obtain ⟨x, hx⟩ : ∃ x, l[k]? = some x := ⟨_, List.getElem?_eq_getElem hi⟩
      have hxo := hl x (List.mem_of_getElem? hx)
      have hfd : Dig (ky x.Pub) := ky_dig hxo.pub
      rw [hx]
      simp only [Option.bind_some]
      rw [tx_from hxo]
      simp only [Option.bind_some]
      obtain ⟨s, hs, hsm, hls⟩ := lineAt_ok hA hfd
      have hcs := mem_pcnt hsm
      have hc0 := lineOf_cnt s.Lines (ky x.Pub)
      rw [pline_val hA (by omega) hfd, pline_val hB (by omega) hfd, ← hL _ hfd]
      simp only [Option.bind_some]
      rw [same_val (by rw [hls]; omega)]
      simp only [decide_true, Bool.not_true, Option.bind_some, Bool.false_eq_true, if_false, StepOk]
      rw [wi64 (by omega) (by omega)]
      exact ⟨⟨k + 1, by simp, by omega⟩, by omega⟩
    · rw [if_neg (by simpa using hi)]
      exact rfl
  rw [hr]
  simp only [Option.bind_some, Sum.elim_inl, if_true]
  rw [pcount_val hA (by omega), pcount_val hB (by omega), hcB]
  simp
end Go.Proofs.YtonfljoibcnlgaaDoor
