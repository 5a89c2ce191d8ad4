import Derived.Test.YtonfljoibcnlgaaGreatDoorBo
import Derived.ProofKit
import Derived.OpenShut
namespace Bd
open Go Go.ChangeShapes Go.RowKit
def AllBlk (W : World) (b : Nat) : Prop := ∃ c, blk W b = some c
section
variable {H : Type} {enc : TypeId × Value → H} {P : Program} {W : World}
abbrev Trod0 (enc : TypeId × Value → H) (P : Program) (W : World) (fuel : Nat) (t : TypeId) (cs : List Value) (x : DataW H × List MemPlace) : Prop :=
 DataW.trod enc P W 0 (fun _ => true) true fuel t cs = some x
def Reads (enc : TypeId × Value → H) (P : Program) (W : World) (t : TypeId) {α : Type} (f : α → D) (ok : α → Prop) : Prop :=
 ∀ fuel cs x, Trod0 enc P W fuel t cs x → ∃ a, Rep (AllBlk W) W (f a) cs ∧ ok a
theorem in_int {t : TypeId} {k : IntKind} (ht : P.underlying t = some (.int k)) : Reads enc P W t (fun n : Int => .val (.int k n)) (fun n => k.min ≤ n ∧ n ≤ k.max) := by
 intro fuel cs x h
 obtain ⟨n, rfl, _, hw⟩ := DataW.trod_int ht h
 simp only [Lit.wf, Bool.and_eq_true, decide_eq_true_eq] at hw
 exact ⟨n, by simp [Rep, leafV], hw⟩
theorem in_bool {t : TypeId} (ht : P.underlying t = some .bool) : Reads enc P W t (fun b : Bool => .val (.bool b)) (fun _ => True) := by
 intro fuel cs x h
 obtain ⟨b, rfl, _⟩ := DataW.trod_bool ht h
 exact ⟨b, by simp [Rep, leafV], trivial⟩
theorem repEach_mk {α : Type} {f : α → D} {ok : α → Prop} {sz : Nat} : ∀ (n : Nat) (cs : List Value), cs.length = n * sz →
  (∀ i, i < n → ∃ a, Rep (AllBlk W) W (f a) ((cs.drop (i * sz)).take sz) ∧ ok a) → ∃ l : List α, RepEach (AllBlk W) W sz (l.map f) cs ∧ l.length = n ∧ ∀ a ∈ l, ok a
 | 0, cs, hl, _ => ⟨[], by simp only [List.map_nil, RepEach]; exact List.length_eq_zero_iff.1 (by simpa using hl), rfl, by simp⟩
 | n + 1, cs, hl, h => by
  obtain ⟨a, h1, h2⟩ := h 0 (by omega)
  obtain ⟨l, k1, k2, k3⟩ := repEach_mk (f := f) (ok := ok) (sz := sz) n (cs.drop sz) (by rw [List.length_drop, hl, Nat.add_mul]; omega) fun i hi => by
   have := h (i + 1) (by omega)
   rw [List.drop_drop]
   rwa [show sz + i * sz = (i + 1) * sz from by rw [Nat.add_mul]; omega]
  refine ⟨a :: l, ?_, by simp [k2], fun b hb => by
   rcases List.mem_cons.1 hb with rfl | hb
   ·exact h2
   ·exact k3 _ hb⟩
  simp only [List.map_cons, RepEach]
  refine ⟨cs.take sz, cs.drop sz, (List.take_append_drop _ _).symm, ?_, by simpa using h1, k1⟩
  rw [List.length_take, hl, Nat.add_mul]; omega
theorem in_array {α : Type} {f : α → D} {ok : α → Prop} {t e : TypeId} {n sz : Nat} (ht : P.underlying t = some (.array n e)) (hc : P.cellsOf e = sz) (hct : P.cellsOf t = n * sz) (hel : Reads enc P W e f ok) :
  Reads enc P W t (fun l : List α => .arr sz n (l.map f)) (fun l => l.length = n ∧ ∀ a ∈ l, ok a) := by
 intro fuel cs x h
 obtain ⟨xs, m, _, _, hl, hlen, hi⟩ := DataW.trod_array ht h
 rw [hc] at hi
 obtain ⟨l, h1, h2, h3⟩ := repEach_mk (W := W) (f := f) (ok := ok) (sz := sz) n cs (by rw [hl, hct]) fun i hi' => by
  have := hi i hi'
  rw [List.getElem?_eq_getElem (by omega)] at this
  exact hel _ _ _ this
 exact ⟨l, by simp only [Rep]; exact ⟨by simp [h2], h1⟩, h2, h3⟩
theorem ra_of {t : TypeId} {α : Type} {f : α → D} {ok : α → Prop} (h : Reads enc P W t f ok) {v : Value} {d : DataW H} {ps : List MemPlace} (hd : DataW.Trod enc P W 0 (fun _ => true) true t v d ps) : ∃ a, ok a ∧ Rep (AllBlk W) W (f a) v.cells.toList := by
 obtain ⟨fuel, hf⟩ := hd
 obtain ⟨a, h1, h2⟩ := h fuel _ _ hf
 exact ⟨a, h2, h1⟩
theorem agg_st {t : TypeId} {r : Reach} {b0 : Nat} {v : Value} {fs : Array Field} (ht : P.underlying t = some (.struct fs)) (h : Value.okWide P W r b0 t v) : aggV v = true := by
 simp only [Value.okWide, ht] at h
 obtain ⟨cs, rfl, _⟩ := h
 rfl
theorem inv_start : Inv (AllBlk W) (fun _ => none) (fun b => W.heap.size ≤ b) [] W :=
 ⟨fun _ h => h, fun o c h => by simp [Heap.get] at h, fun o o' b base tot base' tot' c c' h => by simp [Heap.get] at h, fun _ _ => rfl⟩
theorem below_of_fr {W' : World} (h : Fr (fun b => W.heap.size ≤ b) W W') : Below W.heap.size W W' :=
 ⟨h.os, h.tape, h.output, h.size, fun k hk => h.block k (by omega)⟩
theorem trodAll_stays {sp' : Nat → Bool} {W' : World} (hl : laidOutB P = true) (hsame : ∀ p : MemPlace, p.block < W.heap.size → W.sameAt W' p) : ∀ {ts : List TypeId} {vs : List Value} {ds : List (DataW H)} {ps : List MemPlace},
  (∀ t ∈ ts, P.readableRec t = true ∧ t < P.types.size) → DataW.TrodAll enc P W 0 (fun _ => true) true ts vs ds ps → (∀ p ∈ ps, p.block < W.heap.size) → (∀ p ∈ ps, sp' p.block = true) → DataW.TrodAll enc P W' 0 sp' true ts vs ds ps
 | [], vs, ds, ps, _, h, _, _ => by
  obtain ⟨rfl, rfl, rfl⟩ := trodAll_nil h; rfl
 | t :: ts, vs, ds, ps, hr, h, hlt, hs => by
  obtain ⟨v, vs1, d, ds1, a, b, rfl, rfl, rfl, h1, h2⟩ := trodAll_cons h
  refine ⟨a, b, WideElems.Trod_stays hl (hr t (by simp)).1 (hr t (by simp)).2 h1 (fun p hp => hsame p (hlt p (by simp [hp]))) (fun p hp => hs p (by simp [hp])), ?_, rfl⟩
  exact trodAll_stays hl hsame (fun t' h' => hr t' (by simp [h'])) h2 (fun p hp => hlt p (by simp [hp])) (fun p hp => hs p (by simp [hp]))
theorem post_law {f : Func} {s : ChangeSpec} {apart fresh handsOn again : Bool} {W' : World} {args : Array Value} {ds gs : List (DataW H)} {before : List MemPlace} {t : TypeId}
  (hl : laidOutB P = true) (hr : ∀ t ∈ f.params.toList, P.readableRec t = true ∧ t < P.types.size) (hrt : f.resultTypes = #[t]) (ht : P.underlying t = some .bool) (hv : s.vars = [])
  (hW : DataW.Whole enc P f.params.toList s.vars apart W args.toList ds gs before)
  (hfn : (s.fn H (ds ++ gs)).results = [.lit (.bool true)] ∧ (s.fn H (ds ++ gs)).args = ds ∧ (s.fn H (ds ++ gs)).vars = [])
  (hb : Below W.heap.size W W') : s.post enc P f apart fresh handsOn again W args (.bool true) W' := by
 have hlt := hW.lt
 have hW0 := hW
 obtain ⟨p, q, h1, h2, rfl, h3, h4⟩ := hW
 have hq : q = [] ∧ gs = [] := by
  rw [hv] at h2
  cases gs with
  | nil => exact ⟨h2, rfl⟩
  | cons _ _ => exact h2.elim
 obtain ⟨rfl, rfl⟩ := hq
 obtain ⟨f1, f2, f3⟩ := hfn
 simp only [List.append_nil] at *
 have hargs : ∀ sp : Nat → Bool, (∀ x ∈ p, sp x.block = true) → DataW.TrodAll enc P W' 0 sp true f.params.toList args.toList ds p := fun sp hsp =>
  trodAll_stays hl (fun x hx => hb.same hx) hr h1 hlt hsp
 have hres : ∀ (b : Nat) (sp : Nat → Bool) (hd : Bool), DataW.TrodAll enc P W' b sp hd f.resultTypes.toList ((Value.bool true).resultList f.resultTypes.size) [.lit (.bool true)] [] := fun b sp hd => by
  rw [hrt]; exact trodAll_mk1 (shut_bool ht true)
 refine ⟨ds, [], p, [], p, [], hW0, by rw [List.append_nil, f1]; exact hres _ _ _, by rw [List.append_nil, f2]; exact hargs _ (fun x hx => by simpa using hlt x hx), by rw [List.append_nil, f3, hv]; rfl, hb.frame _, fun _ => ⟨?_, ?_⟩⟩
 ·exact ok_one hrt rfl (okWide_bool_mk ht true)
 ·refine ⟨[.lit (.bool true)] ++ ds, [], [] ++ p, ⟨[] ++ p, [], trodAll_append (hargs _ (fun _ _ => rfl)) (hres _ _ _), by rw [hv]; rfl, by simp, ?_, ?_⟩, ?_⟩
  ·intro b off hp
   have hp' : MemPlace.cell b off ∈ p := by simpa using hp
   rw [hb.frozen (hlt _ hp')]
   exact h3 b off hp'
  ·intro ha
   simpa using h4 ha
  ·intro x hx _
   simpa using hx
end
end Bd
