/-
  PathOrder holds: of two keys that are not the same one is ahead, it goes through, and two share what both share with a third one.
-/
import Derived.Test.YtkhfhljfplflbaaBp
import Derived.Test.YtkhfhljfplflbaaWq
namespace Go.Proofs.Ytkhfhljfplflbaa
open Bd Go.ChangeShapes Go.WideShapes Go.ChangeAt Go.RowKit

theorem alive_val : F7_beadrolllaw04_alive 300 = some true := by kernel_rfl

theorem toI_inj {a b : List Nat} : toI a = toI b ↔ a = b := by
  constructor
  · intro h
    exact List.map_inj_right (f := Int.ofNat) (fun x y h => Int.ofNat.inj h) |>.1 h
  · rintro rfl; rfl

theorem order_val {a b c : List Nat} (ha : Bys a) (hb : Bys b) (hc : Bys c) (la : a.length = 32) (lb : b.length = 32) (lc : c.length = 32) : F3_beadrolllaw04_PathOrder 300 (toI a) (toI b) (toI c) = some true := by
  have e1 := ahead_val (n := 300) (by omega) ha hb la lb
  have e2 := ahead_val (n := 300) (by omega) hb ha lb la
  have e3 := ahead_val (n := 300) (by omega) hb hc lb lc
  have e4 := ahead_val (n := 300) (by omega) ha hc la lc
  have s1 := shared_val (n := 300) (by omega) ha hb la lb
  have s2 := shared_val (n := 300) (by omega) hb ha lb la
  have s3 := shared_val (n := 300) (by omega) hb hc lb lc
  have s4 := shared_val (n := 300) (by omega) ha hc la lc
  have hanti := @ah_anti a b
  have heq := @ah_eq a b (by omega)
  have htr := @ah_trans a b c (by omega) (by omega)
  have hsy := sh_symm a b
  have hle := sh_le ha hb
  have htri := sh_tri ha hb hc (by omega) (by omega)
  have hdec : decide (toI a = toI b) = (!(ah a b) && !(ah b a)) := by
    by_cases e : a = b
    · have := heq.1 e
      subst e
      simp [this.1]
    · rw [decide_eq_false (by rw [toI_inj]; exact e)]
      have := mt heq.2 e
      cases h1 : ah a b <;> cases h2 : ah b a <;> simp_all
  have h256 : ((Int.ofNat (sh a b)) == (256 : Int)) = (!(ah a b) && !(ah b a)) := by
    rw [← hdec]
    have h2 := hle.2 (by omega)
    rw [la] at h2
    have : (Int.ofNat (sh a b) = 256) ↔ (toI a = toI b) := by rw [toI_inj, ← h2]; simp; omega
    by_cases e : toI a = toI b
    · rw [decide_eq_true e, this.2 e]; rfl
    · rw [decide_eq_false e]; simpa using mt this.1 e
  have hge : decide (Int.ofNat (sh a c) ≥ (if Int.ofNat (sh b c) < Int.ofNat (sh a b) then Int.ofNat (sh b c) else Int.ofNat (sh a b))) = true := by
    refine decide_eq_true ?_
    simp only [Int.ofNat_eq_natCast]
    split <;> omega
  have hse : (Int.ofNat (sh a b) == Int.ofNat (sh b a)) = true := by rw [hsy]; simp
  unfold F3_beadrolllaw04_PathOrder
  simp only [alive_val, e1, e2, e3, e4, s1, s2, s3, s4, Option.bind_some, hdec, h256, hge, hse, if_true]
  cases h1 : ah a b <;> cases h2 : ah b a <;> cases h3 : ah b c <;> cases h4 : ah a c <;> simp_all

theorem own : ownKnob Try.prog.godebug = none := by kernel_rfl
theorem laidOut : laidOutB Try.prog = true := by kernel_rfl
theorem ret4 : Try.prog.underlying 4 = some .bool := by kernel_rfl
theorem ud5 : Try.prog.underlying 5 = some (.int .u8) := by kernel_rfl
theorem ud3 : Try.prog.underlying 3 = some (.int .i64) := by kernel_rfl
theorem ud23 : Try.prog.underlying 23 = some (.array 32 5) := by kernel_rfl
theorem read23 : Try.prog.readableRec 23 = true ∧ 23 < Try.prog.types.size := ⟨by kernel_rfl, of_decide_eq_true (by kernel_rfl)⟩
theorem read3 : Try.prog.readableRec 3 = true ∧ 3 < Try.prog.types.size := ⟨by kernel_rfl, of_decide_eq_true (by kernel_rfl)⟩

/-- an argument that is a key -/
theorem arg_key {H : Type} {enc : TypeId × Value → H} {W : World} {r : Reach} {b0 : Nat} {v : Value} {d : DataW H} {ps : List MemPlace} (hd : DataW.Trod enc Try.prog W 0 (fun _ => true) true 23 v d ps) (hv : Value.okWide Try.prog W r b0 23 v) :
    ∃ a : List Nat, Bys a ∧ a.length = 32 ∧ RA (AllBlk W) (fun _ => none) W (.d (eA22 (toI a))) v.cells.toList ∧ aggV v = true := by
  obtain ⟨l, ⟨h1, h2⟩, h3⟩ := ra_of (in_array (sz := 1) ud23 (by kernel_rfl) (by kernel_rfl) (in_int ud5)) hd
  have hl : toI (l.map Int.toNat) = l := by
    have : ∀ x ∈ l, (Int.ofNat ∘ Int.toNat) x = id x := fun x hx => by
      have := (h2 x hx).1
      have h0 : IntKind.min .u8 = 0 := rfl
      simp only [Function.comp, id, Int.ofNat_eq_natCast]; omega
    rw [toI, List.map_map, List.map_congr_left this, List.map_id]
  refine ⟨l.map Int.toNat, ?_, by simpa using h1, by simp only [RA]; rw [hl]; exact h3, agg_of ud23 hv⟩
  intro x hx
  obtain ⟨y, hy, rfl⟩ := List.mem_map.1 hx
  have := (h2 y hy)
  have h0 : IntKind.min .u8 = 0 := rfl
  have h0 : IntKind.max .u8 = 255 := rfl
  omega
/-- an argument that is a whole number -/
theorem arg_int {H : Type} {enc : TypeId × Value → H} {W : World} {r : Reach} {b0 : Nat} {v : Value} {d : DataW H} {ps : List MemPlace} (hd : DataW.Trod enc Try.prog W 0 (fun _ => true) true 3 v d ps) (hv : Value.okWide Try.prog W r b0 3 v) :
    ∃ i : Int, RA (AllBlk W) (fun _ => none) W (.d (.val (.int .i64 i))) v.cells.toList ∧ aggV v = false ∧ -9223372036854775808 ≤ i ∧ i ≤ 9223372036854775807 := by
  obtain ⟨i, ⟨h1, h2⟩, h3⟩ := ra_of (in_int ud3) hd
  have hi : IntKind.min .i64 = -9223372036854775808 := rfl
  have hj : IntKind.max .i64 = 9223372036854775807 := rfl
  refine ⟨i, by simp only [RA]; exact h3, ?_, by omega, by omega⟩
  obtain ⟨n, rfl⟩ := okWide_int ud3 hv
  rfl

set_option maxRecDepth 100000 in
theorem order_lifted (os : Os) (started : os.Started) (H : Type) (enc : TypeId × Value → H) :
    ReturnsInHanded {} Try.checked os 3 .any (Rows.pathOrderSpec.pre6 enc Try.prog Try.f3 Rows.pathOrderRow.domain false) (Rows.pathOrderSpec.post enc Try.prog Try.f3 false true false false) := by
  refine returnsInHanded_of_change (C := Try.checked) own started (by kernel_rfl) Try.func3
    (ChangeSpec.witness6 (enc := enc) (C := Try.checked) false ⟨#[], #[.agg (Array.replicate 32 (.int .u8 0)), .agg (Array.replicate 32 (.int .u8 0)), .agg (Array.replicate 32 (.int .u8 0))], []⟩ 8 (by kernel_rfl) (by kernel_rfl) (by kernel_rfl) (by kernel_rfl)) ?_
  intro W base args ds gs before hval0 hW _ _
  have hval : ∀ (j : Nat) t v, Try.f3.params[j]? = some t → args[j]? = some v → Value.okWide Try.prog W .any base t v := hval0
  have hW0 : DataW.Whole enc Try.prog Try.f3.params.toList Rows.pathOrderSpec.vars false W args.toList ds gs before := hW
  obtain ⟨p, q, hA0, hV, rfl, hfz, hnd⟩ := hW
  have hA : DataW.TrodAll enc Try.prog W 0 (fun _ => true) true [23, 23, 23] args.toList ds p := hA0
  obtain ⟨v0, v1, v2, d0, d1, d2, p0, p1, p2, rfl, rfl, rfl, h0, h1, h2⟩ := trodAll_three hA
  obtain ⟨a, a1, a2, a3, a4⟩ := arg_key h0 (hval 0 23 v0 rfl rfl)
  obtain ⟨b, b1, b2, b3, b4⟩ := arg_key h1 (hval 1 23 v1 rfl rfl)
  obtain ⟨c, c1, c2, c3, c4⟩ := arg_key h2 (hval 2 23 v2 rfl rfl)
  refine (calls_true (F3_beadrolllaw04_PathOrder_ok (order_val a1 b1 c1 a2 b2 c2)) ⟨_, _, rfl, a3, a4, _, _, rfl, b3, b4, _, _, rfl, c3, c4, rfl⟩).mono fun e W' ⟨he, hb⟩ => ⟨_, he, ?_⟩
  obtain ⟨rfl, rfl⟩ := trodVars_none hV
  exact post_law laidOut (by intro t ht; rw [show Try.f3.params.toList = [23, 23, 23] from rfl] at ht; simp at ht; subst ht; exact read23) rfl ret4 rfl hW0 ⟨rfl, rfl, rfl⟩ hb

theorem order_holds : Rows.PathOrderSaid :=
  OpenClaim.holds_of_wide 3 Try.f3 rfl rfl rfl rfl rfl rfl rfl ⟨rfl, rfl, rfl, rfl, rfl⟩ rfl rfl rfl rfl rfl (by kernel_rfl) Try.func3 (by kernel_rfl)
    (of_decide_eq_true (by kernel_rfl)) (by unfold Func.isWrapper; rw [if_neg (by decide +kernel)]; exact ⟨rfl, rfl⟩)
    (fun os started H enc _ => order_lifted os started H enc)
#print axioms order_holds
end Go.Proofs.Ytkhfhljfplflbaa
