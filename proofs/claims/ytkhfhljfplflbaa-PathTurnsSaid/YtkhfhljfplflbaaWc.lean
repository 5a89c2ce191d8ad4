/-
  PRINTED by wip/pr.py: the laws' functions.
-/
import Derived.Test.YtkhfhljfplflbaaWb
namespace Go.Proofs.Ytkhfhljfplflbaa
open Bd
set_option maxRecDepth 10000



theorem en9 : enterB Try.prog 9 = true := by kernel_rfl
theorem pl23_0 : placeB Try.prog 23 0 = some (0, 1) := by kernel_rfl
theorem en16 : enterB Try.prog 16 = true := by kernel_rfl
theorem eq_eI_u8 (a b : Int) : D.eqB (eI_u8 a) (eI_u8 b) = decide (a = b) := by simp only [D.eqB]; rfl
theorem fit5 {d : Nat} (a : Int) : Fits Try.prog (d + 1) 5 (eI_u8 a) := .int un5
theorem eq_eA22 (a b : (List Int)) : D.eqB (eA22 a) (eA22 b) = decide (a = b) := by simp only [D.eqB]; exact eqBs_map eq_eI_u8 a b
theorem uda23 : Try.prog.underlying 23 = some (.array 32 5) := by kernel_rfl
theorem fit23 {d : Nat} (a : (List Int)) : Fits Try.prog (d + 2) 23 (eA22 a) := .arr uda23 ty5 (by intro x hx; obtain ⟨y, _, rfl⟩ := List.mem_map.1 hx; rfl) (by intro x hx; obtain ⟨y, _, rfl⟩ := List.mem_map.1 hx; exact fit5 y)
theorem gd23 : Try.prog.eqGuardType Try.prog.depth 23 = false := by kernel_rfl
theorem un4 : Try.prog.underlying 4 = some (.bool) := by kernel_rfl
theorem en8 : enterB Try.prog 8 = true := by kernel_rfl
theorem en7 : enterB Try.prog 7 = true := by kernel_rfl
theorem en11 : enterB Try.prog 11 = true := by kernel_rfl
theorem en15 : enterB Try.prog 15 = true := by kernel_rfl
theorem en13 : enterB Try.prog 13 = true := by kernel_rfl
theorem en12 : enterB Try.prog 12 = true := by kernel_rfl

/- 7: beadroll/beadrolllaw04.alive -/
def F7_beadrolllaw04_alive (n : Nat)  : Option (Bool) :=
  ((F16_beadrolllaw04_bit n ((List.replicate 32 (0 : Int)).set 0 (129 : Int)) (0 : Int) (1 : Int)).bind fun (y1 : Bool) => (if y1 = true then ((F16_beadrolllaw04_bit n ((List.replicate 32 (0 : Int)).set 0 (129 : Int)) (1 : Int) (0 : Int)).bind fun (y4 : Bool) => (if y4 = true then ((F16_beadrolllaw04_bit n ((List.replicate 32 (0 : Int)).set 0 (129 : Int)) (7 : Int) (1 : Int)).bind fun (y7 : Bool) => (if y7 = true then ((F9_path_Shared n ((List.replicate 32 (0 : Int)).set 0 (128 : Int)) ((List.replicate 32 (0 : Int)).set 0 (192 : Int))).bind fun (y10 : Int) => some ((y10 == (1 : Int)))) else some (false))) else some (false))) else some (false)))
theorem F7_beadrolllaw04_alive_ok {n : Nat}  {r : Bool} (h : F7_beadrolllaw04_alive n  = some r) :
    ACall Try.prog [] 7 [] [] (fun r' hp' => r' = .d (.val (.bool r)) ∧ hp' = []) := by
  refine acall_of_body mixed Try.func7 rfl (by rfl) ?_
  intro C hro hgl hb0
  unfold F7_beadrolllaw04_alive at h
  refine aw_rs ?_
  refine .v (f_assign (by rfl)) rfl (.c rfl .nil) .nil ?_
  refine .nil (aq_then ?_)
  refine aw_rs ?_
  refine .v (f_build (xs := [(0, .d (.val (.int .u8 (129 : Int))))]) (z' := .d (eA22 ((List.replicate 32 (0 : Int)).set 0 (129 : Int)))) (by rfl) zr23 ag23 rfl (by rfl) ⟨_, _, _, rfl, pl23_0, rfl, rfl, trivial⟩ (by rfl) (by rfl)) rfl (.c rfl .nil) .nil ?_
  refine .n (f_alloc 1 (by rfl) zr23) rfl .nil rfl ?_
  refine .s (f_store (n := 0) (o := 1) (off := 0) (p := []) (c := .d (eA22 (List.replicate 32 (0 : Int)))) (old := .d (eA22 (List.replicate 32 (0 : Int)))) (z := .d (eA22 ((List.replicate 32 (0 : Int)).set 0 (129 : Int)))) (c' := .d (eA22 ((List.replicate 32 (0 : Int)).set 0 (129 : Int)))) rfl rfl (by rfl) ty23 (by rfl)) rfl (.c rfl (.c rfl .nil)) (.cons rfl .nil) ?_
  refine .nil (aq_then ?_)
  refine aw_rs ?_
  refine .v (f_load (n := 0) (o := 1) (off := 0) (p := []) (c := .d (eA22 ((List.replicate 32 (0 : Int)).set 0 (129 : Int)))) (z := .d (eA22 ((List.replicate 32 (0 : Int)).set 0 (129 : Int)))) (by rfl) rfl ty23 (by rfl)) rfl (.c rfl .nil) (.cons rfl .nil) ?_
  obtain ⟨y1, hy2, h⟩ := bind_some h
  refine .v (f_callP hgl (by rfl) en16 rfl (by rfl) (by rfl) (by rfl) (F16_beadrolllaw04_bit_ok hy2)) rfl (.c rfl (.c rfl (.c rfl .nil))) .nil ?_
  refine .v (f_move (by rfl)) rfl (.c rfl .nil) .nil ?_
  rcases Bool.eq_false_or_eq_true y1 with hc3 | hc3
  · replace h := ite_t hc3 h
    refine .gv (f_load (n := 0) (o := 1) (off := 0) (p := []) (c := .d (eA22 ((List.replicate 32 (0 : Int)).set 0 (129 : Int)))) (z := .d (eA22 ((List.replicate 32 (0 : Int)).set 0 (129 : Int)))) (by rfl) rfl ty23 (by rfl)) rfl rfl rfl hc3 (.c rfl .nil) (.cons rfl .nil) ?_
    obtain ⟨y4, hy5, h⟩ := bind_some h
    refine .gv (f_callP hgl (by rfl) en16 rfl (by rfl) (by rfl) (by rfl) (F16_beadrolllaw04_bit_ok hy5)) rfl rfl rfl hc3 (.c rfl (.c rfl (.c rfl .nil))) .nil ?_
    refine .v (f_pick_true (by rfl) hc3) rfl (.c rfl (.c rfl .nil)) .nil ?_
    refine .v (f_move (by rfl)) rfl (.c rfl .nil) .nil ?_
    rcases Bool.eq_false_or_eq_true y4 with hc6 | hc6
    · replace h := ite_t hc6 h
      refine .gv (f_load (n := 0) (o := 1) (off := 0) (p := []) (c := .d (eA22 ((List.replicate 32 (0 : Int)).set 0 (129 : Int)))) (z := .d (eA22 ((List.replicate 32 (0 : Int)).set 0 (129 : Int)))) (by rfl) rfl ty23 (by rfl)) rfl rfl rfl hc6 (.c rfl .nil) (.cons rfl .nil) ?_
      obtain ⟨y7, hy8, h⟩ := bind_some h
      refine .gv (f_callP hgl (by rfl) en16 rfl (by rfl) (by rfl) (by rfl) (F16_beadrolllaw04_bit_ok hy8)) rfl rfl rfl hc6 (.c rfl (.c rfl (.c rfl .nil))) .nil ?_
      refine .v (f_pick_true (by rfl) hc6) rfl (.c rfl (.c rfl .nil)) .nil ?_
      refine .v (f_move (by rfl)) rfl (.c rfl .nil) .nil ?_
      rcases Bool.eq_false_or_eq_true y7 with hc9 | hc9
      · replace h := ite_t hc9 h
        refine .gv (f_build (xs := [(0, .d (.val (.int .u8 (128 : Int))))]) (z' := .d (eA22 ((List.replicate 32 (0 : Int)).set 0 (128 : Int)))) (by rfl) zr23 ag23 rfl (by rfl) ⟨_, _, _, rfl, pl23_0, rfl, rfl, trivial⟩ (by rfl) (by rfl)) rfl rfl rfl hc9 (.c rfl .nil) .nil ?_
        refine .gv (f_build (xs := [(0, .d (.val (.int .u8 (192 : Int))))]) (z' := .d (eA22 ((List.replicate 32 (0 : Int)).set 0 (192 : Int)))) (by rfl) zr23 ag23 rfl (by rfl) ⟨_, _, _, rfl, pl23_0, rfl, rfl, trivial⟩ (by rfl) (by rfl)) rfl rfl rfl hc9 (.c rfl .nil) .nil ?_
        obtain ⟨y10, hy11, h⟩ := bind_some h
        refine .gv (f_callP hgl (by rfl) en9 rfl (by rfl) (by rfl) (by rfl) (F9_path_Shared_ok hy11)) rfl rfl rfl hc9 (.c rfl (.c rfl .nil)) .nil ?_
        refine .gv (f_binI (by rfl) rfl (by rfl)) rfl rfl rfl hc9 (.c rfl (.c rfl .nil)) .nil ?_
        refine .v (f_pick_true (by rfl) hc9) rfl (.c rfl (.c rfl .nil)) .nil ?_
        refine .v (f_assign (by rfl)) rfl (.c rfl .nil) .nil ?_
        refine .nil (aq_then ?_)
        refine aw_ret ?_
        obtain rfl := Option.some.inj h
        exact aq_finp hb0 rfl (.tmp rfl (by rfl) .nil) (by rfl) rfl ⟨rfl, rfl⟩
      · replace h := ite_f hc9 h
        refine .off rfl rfl rfl hc9 rfl (by rfl) ?_
        refine .off rfl rfl rfl hc9 rfl (by rfl) ?_
        refine .off rfl rfl rfl hc9 rfl (by rfl) ?_
        refine .off rfl rfl rfl hc9 rfl (by rfl) ?_
        refine .v (f_pick_false (by rfl) hc9) rfl (.c rfl (.c rfl .nil)) .nil ?_
        refine .v (f_assign (by rfl)) rfl (.c rfl .nil) .nil ?_
        refine .nil (aq_then ?_)
        refine aw_ret ?_
        obtain rfl := Option.some.inj h
        exact aq_finp hb0 rfl (.tmp rfl (by rfl) .nil) (by rfl) rfl ⟨rfl, rfl⟩
    · replace h := ite_f hc6 h
      refine .off rfl rfl rfl hc6 rfl (by rfl) ?_
      refine .off rfl rfl rfl hc6 rfl (by rfl) ?_
      refine .v (f_pick_false (by rfl) hc6) rfl (.c rfl (.c rfl .nil)) .nil ?_
      refine .v (f_move (by rfl)) rfl (.c rfl .nil) .nil ?_
      refine .off rfl rfl rfl rfl rfl (by rfl) ?_
      refine .off rfl rfl rfl rfl rfl (by rfl) ?_
      refine .off rfl rfl rfl rfl rfl (by rfl) ?_
      refine .off rfl rfl rfl rfl rfl (by rfl) ?_
      refine .v (f_pick_false (by rfl) rfl) rfl (.c rfl (.c rfl .nil)) .nil ?_
      refine .v (f_assign (by rfl)) rfl (.c rfl .nil) .nil ?_
      refine .nil (aq_then ?_)
      refine aw_ret ?_
      obtain rfl := Option.some.inj h
      exact aq_finp hb0 rfl (.tmp rfl (by rfl) .nil) (by rfl) rfl ⟨rfl, rfl⟩
  · replace h := ite_f hc3 h
    refine .off rfl rfl rfl hc3 rfl (by rfl) ?_
    refine .off rfl rfl rfl hc3 rfl (by rfl) ?_
    refine .v (f_pick_false (by rfl) hc3) rfl (.c rfl (.c rfl .nil)) .nil ?_
    refine .v (f_move (by rfl)) rfl (.c rfl .nil) .nil ?_
    refine .off rfl rfl rfl rfl rfl (by rfl) ?_
    refine .off rfl rfl rfl rfl rfl (by rfl) ?_
    refine .v (f_pick_false (by rfl) rfl) rfl (.c rfl (.c rfl .nil)) .nil ?_
    refine .v (f_move (by rfl)) rfl (.c rfl .nil) .nil ?_
    refine .off rfl rfl rfl rfl rfl (by rfl) ?_
    refine .off rfl rfl rfl rfl rfl (by rfl) ?_
    refine .off rfl rfl rfl rfl rfl (by rfl) ?_
    refine .off rfl rfl rfl rfl rfl (by rfl) ?_
    refine .v (f_pick_false (by rfl) rfl) rfl (.c rfl (.c rfl .nil)) .nil ?_
    refine .v (f_assign (by rfl)) rfl (.c rfl .nil) .nil ?_
    refine .nil (aq_then ?_)
    refine aw_ret ?_
    obtain rfl := Option.some.inj h
    exact aq_finp hb0 rfl (.tmp rfl (by rfl) .nil) (by rfl) rfl ⟨rfl, rfl⟩

/- 3: beadroll/beadrolllaw04.PathOrder -/
def F3_beadrolllaw04_PathOrder (n : Nat) (a0 : (List Int)) (a1 : (List Int)) (a2 : (List Int)) : Option (Bool) :=
  ((F7_beadrolllaw04_alive n ).bind fun (y1 : Bool) => ((F8_path_Ahead n a0 a1).bind fun (y3 : Bool) => (if y3 = true then ((F8_path_Ahead n a1 a0).bind fun (y6 : Bool) => (if y6 = true then some (false) else ((F8_path_Ahead n a0 a1).bind fun (y9 : Bool) => (if y9 = true then (if ((decide (a0 = a1)) == true) = true then some (false) else ((F8_path_Ahead n a0 a1).bind fun (y13 : Bool) => (if y13 = true then ((F8_path_Ahead n a1 a2).bind fun (y16 : Bool) => (if y16 = true then ((F8_path_Ahead n a0 a2).bind fun (y19 : Bool) => (if (!y19) = true then some (false) else (if y1 = true then ((F9_path_Shared n a0 a2).bind fun (y23 : Int) => ((F9_path_Shared n a0 a1).bind fun (y25 : Int) => ((F9_path_Shared n a1 a2).bind fun (y27 : Int) => (if (decide (y23 ≥ (if y27 < y25 then y27 else y25))) = true then ((F9_path_Shared n a0 a1).bind fun (y30 : Int) => ((F9_path_Shared n a1 a0).bind fun (y32 : Int) => (if (y30 == y32) = true then ((F9_path_Shared n a0 a1).bind fun (y35 : Int) => some (((y35 == (256 : Int)) == (decide (a0 = a1))))) else some (false)))) else some (false))))) else some (false)))) else (if y1 = true then ((F9_path_Shared n a0 a2).bind fun (y38 : Int) => ((F9_path_Shared n a0 a1).bind fun (y40 : Int) => ((F9_path_Shared n a1 a2).bind fun (y42 : Int) => (if (decide (y38 ≥ (if y42 < y40 then y42 else y40))) = true then ((F9_path_Shared n a0 a1).bind fun (y45 : Int) => ((F9_path_Shared n a1 a0).bind fun (y47 : Int) => (if (y45 == y47) = true then ((F9_path_Shared n a0 a1).bind fun (y50 : Int) => some (((y50 == (256 : Int)) == (decide (a0 = a1))))) else some (false)))) else some (false))))) else some (false)))) else (if y1 = true then ((F9_path_Shared n a0 a2).bind fun (y53 : Int) => ((F9_path_Shared n a0 a1).bind fun (y55 : Int) => ((F9_path_Shared n a1 a2).bind fun (y57 : Int) => (if (decide (y53 ≥ (if y57 < y55 then y57 else y55))) = true then ((F9_path_Shared n a0 a1).bind fun (y60 : Int) => ((F9_path_Shared n a1 a0).bind fun (y62 : Int) => (if (y60 == y62) = true then ((F9_path_Shared n a0 a1).bind fun (y65 : Int) => some (((y65 == (256 : Int)) == (decide (a0 = a1))))) else some (false)))) else some (false))))) else some (false))))) else ((F8_path_Ahead n a1 a0).bind fun (y67 : Bool) => (if ((decide (a0 = a1)) == y67) = true then some (false) else ((F8_path_Ahead n a0 a1).bind fun (y70 : Bool) => (if y70 = true then ((F8_path_Ahead n a1 a2).bind fun (y73 : Bool) => (if y73 = true then ((F8_path_Ahead n a0 a2).bind fun (y76 : Bool) => (if (!y76) = true then some (false) else (if y1 = true then ((F9_path_Shared n a0 a2).bind fun (y80 : Int) => ((F9_path_Shared n a0 a1).bind fun (y82 : Int) => ((F9_path_Shared n a1 a2).bind fun (y84 : Int) => (if (decide (y80 ≥ (if y84 < y82 then y84 else y82))) = true then ((F9_path_Shared n a0 a1).bind fun (y87 : Int) => ((F9_path_Shared n a1 a0).bind fun (y89 : Int) => (if (y87 == y89) = true then ((F9_path_Shared n a0 a1).bind fun (y92 : Int) => some (((y92 == (256 : Int)) == (decide (a0 = a1))))) else some (false)))) else some (false))))) else some (false)))) else (if y1 = true then ((F9_path_Shared n a0 a2).bind fun (y95 : Int) => ((F9_path_Shared n a0 a1).bind fun (y97 : Int) => ((F9_path_Shared n a1 a2).bind fun (y99 : Int) => (if (decide (y95 ≥ (if y99 < y97 then y99 else y97))) = true then ((F9_path_Shared n a0 a1).bind fun (y102 : Int) => ((F9_path_Shared n a1 a0).bind fun (y104 : Int) => (if (y102 == y104) = true then ((F9_path_Shared n a0 a1).bind fun (y107 : Int) => some (((y107 == (256 : Int)) == (decide (a0 = a1))))) else some (false)))) else some (false))))) else some (false)))) else (if y1 = true then ((F9_path_Shared n a0 a2).bind fun (y110 : Int) => ((F9_path_Shared n a0 a1).bind fun (y112 : Int) => ((F9_path_Shared n a1 a2).bind fun (y114 : Int) => (if (decide (y110 ≥ (if y114 < y112 then y114 else y112))) = true then ((F9_path_Shared n a0 a1).bind fun (y117 : Int) => ((F9_path_Shared n a1 a0).bind fun (y119 : Int) => (if (y117 == y119) = true then ((F9_path_Shared n a0 a1).bind fun (y122 : Int) => some (((y122 == (256 : Int)) == (decide (a0 = a1))))) else some (false)))) else some (false))))) else some (false)))))))))) else ((F8_path_Ahead n a0 a1).bind fun (y124 : Bool) => (if y124 = true then (if ((decide (a0 = a1)) == true) = true then some (false) else ((F8_path_Ahead n a0 a1).bind fun (y128 : Bool) => (if y128 = true then ((F8_path_Ahead n a1 a2).bind fun (y131 : Bool) => (if y131 = true then ((F8_path_Ahead n a0 a2).bind fun (y134 : Bool) => (if (!y134) = true then some (false) else (if y1 = true then ((F9_path_Shared n a0 a2).bind fun (y138 : Int) => ((F9_path_Shared n a0 a1).bind fun (y140 : Int) => ((F9_path_Shared n a1 a2).bind fun (y142 : Int) => (if (decide (y138 ≥ (if y142 < y140 then y142 else y140))) = true then ((F9_path_Shared n a0 a1).bind fun (y145 : Int) => ((F9_path_Shared n a1 a0).bind fun (y147 : Int) => (if (y145 == y147) = true then ((F9_path_Shared n a0 a1).bind fun (y150 : Int) => some (((y150 == (256 : Int)) == (decide (a0 = a1))))) else some (false)))) else some (false))))) else some (false)))) else (if y1 = true then ((F9_path_Shared n a0 a2).bind fun (y153 : Int) => ((F9_path_Shared n a0 a1).bind fun (y155 : Int) => ((F9_path_Shared n a1 a2).bind fun (y157 : Int) => (if (decide (y153 ≥ (if y157 < y155 then y157 else y155))) = true then ((F9_path_Shared n a0 a1).bind fun (y160 : Int) => ((F9_path_Shared n a1 a0).bind fun (y162 : Int) => (if (y160 == y162) = true then ((F9_path_Shared n a0 a1).bind fun (y165 : Int) => some (((y165 == (256 : Int)) == (decide (a0 = a1))))) else some (false)))) else some (false))))) else some (false)))) else (if y1 = true then ((F9_path_Shared n a0 a2).bind fun (y168 : Int) => ((F9_path_Shared n a0 a1).bind fun (y170 : Int) => ((F9_path_Shared n a1 a2).bind fun (y172 : Int) => (if (decide (y168 ≥ (if y172 < y170 then y172 else y170))) = true then ((F9_path_Shared n a0 a1).bind fun (y175 : Int) => ((F9_path_Shared n a1 a0).bind fun (y177 : Int) => (if (y175 == y177) = true then ((F9_path_Shared n a0 a1).bind fun (y180 : Int) => some (((y180 == (256 : Int)) == (decide (a0 = a1))))) else some (false)))) else some (false))))) else some (false))))) else ((F8_path_Ahead n a1 a0).bind fun (y182 : Bool) => (if ((decide (a0 = a1)) == y182) = true then some (false) else ((F8_path_Ahead n a0 a1).bind fun (y185 : Bool) => (if y185 = true then ((F8_path_Ahead n a1 a2).bind fun (y188 : Bool) => (if y188 = true then ((F8_path_Ahead n a0 a2).bind fun (y191 : Bool) => (if (!y191) = true then some (false) else (if y1 = true then ((F9_path_Shared n a0 a2).bind fun (y195 : Int) => ((F9_path_Shared n a0 a1).bind fun (y197 : Int) => ((F9_path_Shared n a1 a2).bind fun (y199 : Int) => (if (decide (y195 ≥ (if y199 < y197 then y199 else y197))) = true then ((F9_path_Shared n a0 a1).bind fun (y202 : Int) => ((F9_path_Shared n a1 a0).bind fun (y204 : Int) => (if (y202 == y204) = true then ((F9_path_Shared n a0 a1).bind fun (y207 : Int) => some (((y207 == (256 : Int)) == (decide (a0 = a1))))) else some (false)))) else some (false))))) else some (false)))) else (if y1 = true then ((F9_path_Shared n a0 a2).bind fun (y210 : Int) => ((F9_path_Shared n a0 a1).bind fun (y212 : Int) => ((F9_path_Shared n a1 a2).bind fun (y214 : Int) => (if (decide (y210 ≥ (if y214 < y212 then y214 else y212))) = true then ((F9_path_Shared n a0 a1).bind fun (y217 : Int) => ((F9_path_Shared n a1 a0).bind fun (y219 : Int) => (if (y217 == y219) = true then ((F9_path_Shared n a0 a1).bind fun (y222 : Int) => some (((y222 == (256 : Int)) == (decide (a0 = a1))))) else some (false)))) else some (false))))) else some (false)))) else (if y1 = true then ((F9_path_Shared n a0 a2).bind fun (y225 : Int) => ((F9_path_Shared n a0 a1).bind fun (y227 : Int) => ((F9_path_Shared n a1 a2).bind fun (y229 : Int) => (if (decide (y225 ≥ (if y229 < y227 then y229 else y227))) = true then ((F9_path_Shared n a0 a1).bind fun (y232 : Int) => ((F9_path_Shared n a1 a0).bind fun (y234 : Int) => (if (y232 == y234) = true then ((F9_path_Shared n a0 a1).bind fun (y237 : Int) => some (((y237 == (256 : Int)) == (decide (a0 = a1))))) else some (false)))) else some (false))))) else some (false)))))))))))
theorem F3_beadrolllaw04_PathOrder_ok {n : Nat} {a0 : (List Int)} {a1 : (List Int)} {a2 : (List Int)} {r : Bool} (h : F3_beadrolllaw04_PathOrder n a0 a1 a2 = some r) :
    ACall Try.prog [] 3 [.d (eA22 a0), .d (eA22 a1), .d (eA22 a2)] [] (fun r' hp' => r' = .d (.val (.bool r)) ∧ hp' = []) := by
  refine acall_of_body mixed Try.func3 rfl (by rfl) ?_
  intro C hro hgl hb0
  unfold F3_beadrolllaw04_PathOrder at h
  refine aw_rs ?_
  refine .n (f_box 3 (by rfl) (by rfl)) rfl (.c rfl .nil) rfl ?_
  refine .n (f_box 4 (by rfl) (by rfl)) rfl (.c rfl .nil) rfl ?_
  refine .n (f_box 5 (by rfl) (by rfl)) rfl (.c rfl .nil) rfl ?_
  refine .v (f_assign (by rfl)) rfl (.c rfl .nil) .nil ?_
  refine .nil (aq_then ?_)
  refine aw_rs ?_
  obtain ⟨y1, hy2, h⟩ := bind_some h
  refine .v (f_callP hgl (by rfl) en7 rfl (by rfl) (by rfl) (by rfl) (F7_beadrolllaw04_alive_ok hy2)) rfl .nil .nil ?_
  refine .v (f_assign (by rfl)) rfl (.c rfl .nil) .nil ?_
  refine .nil (aq_then ?_)
  refine aw_seq ?_
  refine aw_rds ?_
  refine .v (f_load (n := 0) (o := 3) (off := 0) (p := []) (c := .d (eA22 a0)) (z := .d (eA22 a0)) (by rfl) rfl ty23 (by rfl)) rfl (.c rfl .nil) (.cons rfl .nil) ?_
  refine .v (f_load (n := 0) (o := 4) (off := 0) (p := []) (c := .d (eA22 a1)) (z := .d (eA22 a1)) (by rfl) rfl ty23 (by rfl)) rfl (.c rfl .nil) (.cons rfl .nil) ?_
  obtain ⟨y3, hy4, h⟩ := bind_some h
  refine .v (f_callP hgl (by rfl) en8 rfl (by rfl) (by rfl) (by rfl) (F8_path_Ahead_ok hy4)) rfl (.c rfl (.c rfl .nil)) .nil ?_
  refine .v (f_move (by rfl)) rfl (.c rfl .nil) .nil ?_
  rcases Bool.eq_false_or_eq_true y3 with hc5 | hc5
  · replace h := ite_t hc5 h
    refine .gv (f_load (n := 0) (o := 4) (off := 0) (p := []) (c := .d (eA22 a1)) (z := .d (eA22 a1)) (by rfl) rfl ty23 (by rfl)) rfl rfl rfl hc5 (.c rfl .nil) (.cons rfl .nil) ?_
    refine .gv (f_load (n := 0) (o := 3) (off := 0) (p := []) (c := .d (eA22 a0)) (z := .d (eA22 a0)) (by rfl) rfl ty23 (by rfl)) rfl rfl rfl hc5 (.c rfl .nil) (.cons rfl .nil) ?_
    obtain ⟨y6, hy7, h⟩ := bind_some h
    refine .gv (f_callP hgl (by rfl) en8 rfl (by rfl) (by rfl) (by rfl) (F8_path_Ahead_ok hy7)) rfl rfl rfl hc5 (.c rfl (.c rfl .nil)) .nil ?_
    refine .v (f_pick_true (by rfl) hc5) rfl (.c rfl (.c rfl .nil)) .nil ?_
    refine .v (f_move (by rfl)) rfl (.c rfl .nil) .nil ?_
    rcases Bool.eq_false_or_eq_true y6 with hc8 | hc8
    · replace h := ite_t hc8 h
      refine .off rfl rfl rfl hc8 rfl (by rfl) ?_
      refine .off rfl rfl rfl hc8 rfl (by rfl) ?_
      refine .off rfl rfl rfl hc8 rfl (by rfl) ?_
      refine .off rfl rfl rfl hc8 rfl (by rfl) ?_
      refine .off rfl rfl rfl hc8 rfl (by rfl) ?_
      refine .off rfl rfl rfl hc8 rfl (by rfl) ?_
      refine .off rfl rfl rfl hc8 rfl (by rfl) ?_
      refine .offu rfl rfl rfl rfl (by rfl) ?_
      refine .offu rfl rfl rfl rfl (by rfl) ?_
      refine .offu rfl rfl rfl rfl (by rfl) ?_
      refine .off rfl rfl rfl hc8 rfl (by rfl) ?_
      refine .off rfl rfl rfl hc8 rfl (by rfl) ?_
      refine .v (f_pick_true (by rfl) hc8) rfl (.c rfl (.c rfl .nil)) .nil ?_
      refine .nil (by kernel_rfl) ?_
      refine aw_cond rfl (fun _ => ?_) (fun hx => absurd (hx.symm.trans rfl) (by simp))
      refine aw_rs ?_
      refine .v (f_assign (by rfl)) rfl (.c rfl .nil) .nil ?_
      refine .nil (aq_then ?_)
      refine aw_ret ?_
      refine aq_then_ret ?_
      obtain rfl := Option.some.inj h
      exact aq_finp hb0 rfl (.tmp rfl (by rfl) .nil) (by rfl) rfl ⟨rfl, rfl⟩
    · replace h := ite_f hc8 h
      refine .gv (f_load (n := 0) (o := 3) (off := 0) (p := []) (c := .d (eA22 a0)) (z := .d (eA22 a0)) (by rfl) rfl ty23 (by rfl)) rfl rfl rfl hc8 (.c rfl .nil) (.cons rfl .nil) ?_
      refine .gv (f_load (n := 0) (o := 4) (off := 0) (p := []) (c := .d (eA22 a1)) (z := .d (eA22 a1)) (by rfl) rfl ty23 (by rfl)) rfl rfl rfl hc8 (.c rfl .nil) (.cons rfl .nil) ?_
      refine .gv (f_eqlT (by rfl) (fit23 _) (fit23 _) (by rfl) (by rfl) gd23 (eq_eA22 _ _)) rfl rfl rfl hc8 (.c rfl (.c rfl .nil)) .nil ?_
      refine .gv (f_load (n := 0) (o := 3) (off := 0) (p := []) (c := .d (eA22 a0)) (z := .d (eA22 a0)) (by rfl) rfl ty23 (by rfl)) rfl rfl rfl hc8 (.c rfl .nil) (.cons rfl .nil) ?_
      refine .gv (f_load (n := 0) (o := 4) (off := 0) (p := []) (c := .d (eA22 a1)) (z := .d (eA22 a1)) (by rfl) rfl ty23 (by rfl)) rfl rfl rfl hc8 (.c rfl .nil) (.cons rfl .nil) ?_
      obtain ⟨y9, hy10, h⟩ := bind_some h
      refine .gv (f_callP hgl (by rfl) en8 rfl (by rfl) (by rfl) (by rfl) (F8_path_Ahead_ok hy10)) rfl rfl rfl hc8 (.c rfl (.c rfl .nil)) .nil ?_
      refine .gv (f_move (by rfl)) rfl rfl rfl hc8 (.c rfl .nil) .nil ?_
      rcases Bool.eq_false_or_eq_true y9 with hc11 | hc11
      · replace h := ite_t hc11 h
        refine .off rfl rfl rfl hc11 rfl (by rfl) ?_
        refine .off rfl rfl rfl hc11 rfl (by rfl) ?_
        refine .off rfl rfl rfl hc11 rfl (by rfl) ?_
        refine .gv (f_pick_true (by rfl) hc11) rfl rfl rfl hc8 (.c rfl (.c rfl .nil)) .nil ?_
        refine .gv (f_eqlB (by rfl) un4) rfl rfl rfl hc8 (.c rfl (.c rfl .nil)) .nil ?_
        refine .v (f_pick_false (by rfl) hc8) rfl (.c rfl (.c rfl .nil)) .nil ?_
        refine .nil (by kernel_rfl) ?_
        refine aw_cond rfl (fun hc12 => ?_) (fun hc12 => ?_)
        · replace h := ite_t hc12 h
          refine aw_rs ?_
          refine .v (f_assign (by rfl)) rfl (.c rfl .nil) .nil ?_
          refine .nil (aq_then ?_)
          refine aw_ret ?_
          refine aq_then_ret ?_
          obtain rfl := Option.some.inj h
          exact aq_finp hb0 rfl (.tmp rfl (by rfl) .nil) (by rfl) rfl ⟨rfl, rfl⟩
        · replace h := ite_f hc12 h
          refine aw_skip ?_
          refine aq_then ?_
          refine aw_seq ?_
          refine aw_rs ?_
          refine .v (f_load (n := 0) (o := 3) (off := 0) (p := []) (c := .d (eA22 a0)) (z := .d (eA22 a0)) (by rfl) rfl ty23 (by rfl)) rfl (.c rfl .nil) (.cons rfl .nil) ?_
          refine .v (f_load (n := 0) (o := 4) (off := 0) (p := []) (c := .d (eA22 a1)) (z := .d (eA22 a1)) (by rfl) rfl ty23 (by rfl)) rfl (.c rfl .nil) (.cons rfl .nil) ?_
          obtain ⟨y13, hy14, h⟩ := bind_some h
          refine .v (f_callP hgl (by rfl) en8 rfl (by rfl) (by rfl) (by rfl) (F8_path_Ahead_ok hy14)) rfl (.c rfl (.c rfl .nil)) .nil ?_
          refine .v (f_move (by rfl)) rfl (.c rfl .nil) .nil ?_
          rcases Bool.eq_false_or_eq_true y13 with hc15 | hc15
          · replace h := ite_t hc15 h
            refine .gv (f_load (n := 0) (o := 4) (off := 0) (p := []) (c := .d (eA22 a1)) (z := .d (eA22 a1)) (by rfl) rfl ty23 (by rfl)) rfl rfl rfl hc15 (.c rfl .nil) (.cons rfl .nil) ?_
            refine .gv (f_load (n := 0) (o := 5) (off := 0) (p := []) (c := .d (eA22 a2)) (z := .d (eA22 a2)) (by rfl) rfl ty23 (by rfl)) rfl rfl rfl hc15 (.c rfl .nil) (.cons rfl .nil) ?_
            obtain ⟨y16, hy17, h⟩ := bind_some h
            refine .gv (f_callP hgl (by rfl) en8 rfl (by rfl) (by rfl) (by rfl) (F8_path_Ahead_ok hy17)) rfl rfl rfl hc15 (.c rfl (.c rfl .nil)) .nil ?_
            refine .v (f_pick_true (by rfl) hc15) rfl (.c rfl (.c rfl .nil)) .nil ?_
            refine .v (f_move (by rfl)) rfl (.c rfl .nil) .nil ?_
            rcases Bool.eq_false_or_eq_true y16 with hc18 | hc18
            · replace h := ite_t hc18 h
              refine .gv (f_load (n := 0) (o := 3) (off := 0) (p := []) (c := .d (eA22 a0)) (z := .d (eA22 a0)) (by rfl) rfl ty23 (by rfl)) rfl rfl rfl hc18 (.c rfl .nil) (.cons rfl .nil) ?_
              refine .gv (f_load (n := 0) (o := 5) (off := 0) (p := []) (c := .d (eA22 a2)) (z := .d (eA22 a2)) (by rfl) rfl ty23 (by rfl)) rfl rfl rfl hc18 (.c rfl .nil) (.cons rfl .nil) ?_
              obtain ⟨y19, hy20, h⟩ := bind_some h
              refine .gv (f_callP hgl (by rfl) en8 rfl (by rfl) (by rfl) (by rfl) (F8_path_Ahead_ok hy20)) rfl rfl rfl hc18 (.c rfl (.c rfl .nil)) .nil ?_
              refine .gv (f_not (by rfl)) rfl rfl rfl hc18 (.c rfl .nil) .nil ?_
              refine .v (f_pick_true (by rfl) hc18) rfl (.c rfl (.c rfl .nil)) .nil ?_
              refine .nil (aq_then ?_)
              refine aw_cond rfl (fun hc21 => ?_) (fun hc21 => ?_)
              · replace h := ite_t hc21 h
                refine aw_rs ?_
                refine .v (f_assign (by rfl)) rfl (.c rfl .nil) .nil ?_
                refine .nil (aq_then ?_)
                refine aw_ret ?_
                refine aq_then_ret ?_
                obtain rfl := Option.some.inj h
                exact aq_finp hb0 rfl (.tmp rfl (by rfl) .nil) (by rfl) rfl ⟨rfl, rfl⟩
              · replace h := ite_f hc21 h
                refine aw_skip ?_
                refine aq_then ?_
                refine aw_rds ?_
                refine .v (f_move (by rfl)) rfl (.c rfl .nil) .nil ?_
                refine .v (f_move (by rfl)) rfl (.c rfl .nil) .nil ?_
                rcases Bool.eq_false_or_eq_true y1 with hc22 | hc22
                · replace h := ite_t hc22 h
                  refine .gv (f_load (n := 0) (o := 3) (off := 0) (p := []) (c := .d (eA22 a0)) (z := .d (eA22 a0)) (by rfl) rfl ty23 (by rfl)) rfl rfl rfl hc22 (.c rfl .nil) (.cons rfl .nil) ?_
                  refine .gv (f_load (n := 0) (o := 5) (off := 0) (p := []) (c := .d (eA22 a2)) (z := .d (eA22 a2)) (by rfl) rfl ty23 (by rfl)) rfl rfl rfl hc22 (.c rfl .nil) (.cons rfl .nil) ?_
                  obtain ⟨y23, hy24, h⟩ := bind_some h
                  refine .gv (f_callP hgl (by rfl) en9 rfl (by rfl) (by rfl) (by rfl) (F9_path_Shared_ok hy24)) rfl rfl rfl hc22 (.c rfl (.c rfl .nil)) .nil ?_
                  refine .gv (f_load (n := 0) (o := 3) (off := 0) (p := []) (c := .d (eA22 a0)) (z := .d (eA22 a0)) (by rfl) rfl ty23 (by rfl)) rfl rfl rfl hc22 (.c rfl .nil) (.cons rfl .nil) ?_
                  refine .gv (f_load (n := 0) (o := 4) (off := 0) (p := []) (c := .d (eA22 a1)) (z := .d (eA22 a1)) (by rfl) rfl ty23 (by rfl)) rfl rfl rfl hc22 (.c rfl .nil) (.cons rfl .nil) ?_
                  obtain ⟨y25, hy26, h⟩ := bind_some h
                  refine .gv (f_callP hgl (by rfl) en9 rfl (by rfl) (by rfl) (by rfl) (F9_path_Shared_ok hy26)) rfl rfl rfl hc22 (.c rfl (.c rfl .nil)) .nil ?_
                  refine .gv (f_load (n := 0) (o := 4) (off := 0) (p := []) (c := .d (eA22 a1)) (z := .d (eA22 a1)) (by rfl) rfl ty23 (by rfl)) rfl rfl rfl hc22 (.c rfl .nil) (.cons rfl .nil) ?_
                  refine .gv (f_load (n := 0) (o := 5) (off := 0) (p := []) (c := .d (eA22 a2)) (z := .d (eA22 a2)) (by rfl) rfl ty23 (by rfl)) rfl rfl rfl hc22 (.c rfl .nil) (.cons rfl .nil) ?_
                  obtain ⟨y27, hy28, h⟩ := bind_some h
                  refine .gv (f_callP hgl (by rfl) en9 rfl (by rfl) (by rfl) (by rfl) (F9_path_Shared_ok hy28)) rfl rfl rfl hc22 (.c rfl (.c rfl .nil)) .nil ?_
                  refine .gv (f_minI (by rfl)) rfl rfl rfl hc22 (.c rfl (.c rfl .nil)) .nil ?_
                  refine .gv (f_binI (by rfl) rfl (by rfl)) rfl rfl rfl hc22 (.c rfl (.c rfl .nil)) .nil ?_
                  refine .v (f_pick_true (by rfl) hc22) rfl (.c rfl (.c rfl .nil)) .nil ?_
                  refine .v (f_move (by rfl)) rfl (.c rfl .nil) .nil ?_
                  rcases Bool.eq_false_or_eq_true (decide (y23 ≥ (if y27 < y25 then y27 else y25))) with hc29 | hc29
                  · replace h := ite_t hc29 h
                    refine .gv (f_load (n := 0) (o := 3) (off := 0) (p := []) (c := .d (eA22 a0)) (z := .d (eA22 a0)) (by rfl) rfl ty23 (by rfl)) rfl rfl rfl hc29 (.c rfl .nil) (.cons rfl .nil) ?_
                    refine .gv (f_load (n := 0) (o := 4) (off := 0) (p := []) (c := .d (eA22 a1)) (z := .d (eA22 a1)) (by rfl) rfl ty23 (by rfl)) rfl rfl rfl hc29 (.c rfl .nil) (.cons rfl .nil) ?_
                    obtain ⟨y30, hy31, h⟩ := bind_some h
                    refine .gv (f_callP hgl (by rfl) en9 rfl (by rfl) (by rfl) (by rfl) (F9_path_Shared_ok hy31)) rfl rfl rfl hc29 (.c rfl (.c rfl .nil)) .nil ?_
                    refine .gv (f_load (n := 0) (o := 4) (off := 0) (p := []) (c := .d (eA22 a1)) (z := .d (eA22 a1)) (by rfl) rfl ty23 (by rfl)) rfl rfl rfl hc29 (.c rfl .nil) (.cons rfl .nil) ?_
                    refine .gv (f_load (n := 0) (o := 3) (off := 0) (p := []) (c := .d (eA22 a0)) (z := .d (eA22 a0)) (by rfl) rfl ty23 (by rfl)) rfl rfl rfl hc29 (.c rfl .nil) (.cons rfl .nil) ?_
                    obtain ⟨y32, hy33, h⟩ := bind_some h
                    refine .gv (f_callP hgl (by rfl) en9 rfl (by rfl) (by rfl) (by rfl) (F9_path_Shared_ok hy33)) rfl rfl rfl hc29 (.c rfl (.c rfl .nil)) .nil ?_
                    refine .gv (f_binI (by rfl) rfl (by rfl)) rfl rfl rfl hc29 (.c rfl (.c rfl .nil)) .nil ?_
                    refine .v (f_pick_true (by rfl) hc29) rfl (.c rfl (.c rfl .nil)) .nil ?_
                    refine .v (f_move (by rfl)) rfl (.c rfl .nil) .nil ?_
                    rcases Bool.eq_false_or_eq_true (y30 == y32) with hc34 | hc34
                    · replace h := ite_t hc34 h
                      refine .gv (f_load (n := 0) (o := 3) (off := 0) (p := []) (c := .d (eA22 a0)) (z := .d (eA22 a0)) (by rfl) rfl ty23 (by rfl)) rfl rfl rfl hc34 (.c rfl .nil) (.cons rfl .nil) ?_
                      refine .gv (f_load (n := 0) (o := 4) (off := 0) (p := []) (c := .d (eA22 a1)) (z := .d (eA22 a1)) (by rfl) rfl ty23 (by rfl)) rfl rfl rfl hc34 (.c rfl .nil) (.cons rfl .nil) ?_
                      obtain ⟨y35, hy36, h⟩ := bind_some h
                      refine .gv (f_callP hgl (by rfl) en9 rfl (by rfl) (by rfl) (by rfl) (F9_path_Shared_ok hy36)) rfl rfl rfl hc34 (.c rfl (.c rfl .nil)) .nil ?_
                      refine .gv (f_binI (by rfl) rfl (by rfl)) rfl rfl rfl hc34 (.c rfl (.c rfl .nil)) .nil ?_
                      refine .gv (f_load (n := 0) (o := 3) (off := 0) (p := []) (c := .d (eA22 a0)) (z := .d (eA22 a0)) (by rfl) rfl ty23 (by rfl)) rfl rfl rfl hc34 (.c rfl .nil) (.cons rfl .nil) ?_
                      refine .gv (f_load (n := 0) (o := 4) (off := 0) (p := []) (c := .d (eA22 a1)) (z := .d (eA22 a1)) (by rfl) rfl ty23 (by rfl)) rfl rfl rfl hc34 (.c rfl .nil) (.cons rfl .nil) ?_
                      refine .gv (f_eqlT (by rfl) (fit23 _) (fit23 _) (by rfl) (by rfl) gd23 (eq_eA22 _ _)) rfl rfl rfl hc34 (.c rfl (.c rfl .nil)) .nil ?_
                      refine .gv (f_eqlB (by rfl) un4) rfl rfl rfl hc34 (.c rfl (.c rfl .nil)) .nil ?_
                      refine .v (f_pick_true (by rfl) hc34) rfl (.c rfl (.c rfl .nil)) .nil ?_
                      refine .v (f_assign (by rfl)) rfl (.c rfl .nil) .nil ?_
                      refine .nil (by kernel_rfl) ?_
                      refine aw_ret ?_
                      obtain rfl := Option.some.inj h
                      exact aq_finp hb0 rfl (.tmp rfl (by rfl) .nil) (by rfl) rfl ⟨rfl, rfl⟩
                    · replace h := ite_f hc34 h
                      refine .off rfl rfl rfl hc34 rfl (by rfl) ?_
                      refine .off rfl rfl rfl hc34 rfl (by rfl) ?_
                      refine .off rfl rfl rfl hc34 rfl (by rfl) ?_
                      refine .off rfl rfl rfl hc34 rfl (by rfl) ?_
                      refine .off rfl rfl rfl hc34 rfl (by rfl) ?_
                      refine .off rfl rfl rfl hc34 rfl (by rfl) ?_
                      refine .off rfl rfl rfl hc34 rfl (by rfl) ?_
                      refine .off rfl rfl rfl hc34 rfl (by rfl) ?_
                      refine .v (f_pick_false (by rfl) hc34) rfl (.c rfl (.c rfl .nil)) .nil ?_
                      refine .v (f_assign (by rfl)) rfl (.c rfl .nil) .nil ?_
                      refine .nil (by kernel_rfl) ?_
                      refine aw_ret ?_
                      obtain rfl := Option.some.inj h
                      exact aq_finp hb0 rfl (.tmp rfl (by rfl) .nil) (by rfl) rfl ⟨rfl, rfl⟩
                  · replace h := ite_f hc29 h
                    refine .off rfl rfl rfl hc29 rfl (by rfl) ?_
                    refine .off rfl rfl rfl hc29 rfl (by rfl) ?_
                    refine .off rfl rfl rfl hc29 rfl (by rfl) ?_
                    refine .off rfl rfl rfl hc29 rfl (by rfl) ?_
                    refine .off rfl rfl rfl hc29 rfl (by rfl) ?_
                    refine .off rfl rfl rfl hc29 rfl (by rfl) ?_
                    refine .off rfl rfl rfl hc29 rfl (by rfl) ?_
                    refine .v (f_pick_false (by rfl) hc29) rfl (.c rfl (.c rfl .nil)) .nil ?_
                    refine .v (f_move (by rfl)) rfl (.c rfl .nil) .nil ?_
                    refine .off rfl rfl rfl rfl rfl (by rfl) ?_
                    refine .off rfl rfl rfl rfl rfl (by rfl) ?_
                    refine .off rfl rfl rfl rfl rfl (by rfl) ?_
                    refine .off rfl rfl rfl rfl rfl (by rfl) ?_
                    refine .off rfl rfl rfl rfl rfl (by rfl) ?_
                    refine .off rfl rfl rfl rfl rfl (by rfl) ?_
                    refine .off rfl rfl rfl rfl rfl (by rfl) ?_
                    refine .off rfl rfl rfl rfl rfl (by rfl) ?_
                    refine .v (f_pick_false (by rfl) rfl) rfl (.c rfl (.c rfl .nil)) .nil ?_
                    refine .v (f_assign (by rfl)) rfl (.c rfl .nil) .nil ?_
                    refine .nil (by kernel_rfl) ?_
                    refine aw_ret ?_
                    obtain rfl := Option.some.inj h
                    exact aq_finp hb0 rfl (.tmp rfl (by rfl) .nil) (by rfl) rfl ⟨rfl, rfl⟩
                · replace h := ite_f hc22 h
                  refine .off rfl rfl rfl hc22 rfl (by rfl) ?_
                  refine .off rfl rfl rfl hc22 rfl (by rfl) ?_
                  refine .off rfl rfl rfl hc22 rfl (by rfl) ?_
                  refine .off rfl rfl rfl hc22 rfl (by rfl) ?_
                  refine .off rfl rfl rfl hc22 rfl (by rfl) ?_
                  refine .off rfl rfl rfl hc22 rfl (by rfl) ?_
                  refine .off rfl rfl rfl hc22 rfl (by rfl) ?_
                  refine .off rfl rfl rfl hc22 rfl (by rfl) ?_
                  refine .off rfl rfl rfl hc22 rfl (by rfl) ?_
                  refine .off rfl rfl rfl hc22 rfl (by rfl) ?_
                  refine .off rfl rfl rfl hc22 rfl (by rfl) ?_
                  refine .v (f_pick_false (by rfl) hc22) rfl (.c rfl (.c rfl .nil)) .nil ?_
                  refine .v (f_move (by rfl)) rfl (.c rfl .nil) .nil ?_
                  refine .off rfl rfl rfl rfl rfl (by rfl) ?_
                  refine .off rfl rfl rfl rfl rfl (by rfl) ?_
                  refine .off rfl rfl rfl rfl rfl (by rfl) ?_
                  refine .off rfl rfl rfl rfl rfl (by rfl) ?_
                  refine .off rfl rfl rfl rfl rfl (by rfl) ?_
                  refine .off rfl rfl rfl rfl rfl (by rfl) ?_
                  refine .off rfl rfl rfl rfl rfl (by rfl) ?_
                  refine .v (f_pick_false (by rfl) rfl) rfl (.c rfl (.c rfl .nil)) .nil ?_
                  refine .v (f_move (by rfl)) rfl (.c rfl .nil) .nil ?_
                  refine .off rfl rfl rfl rfl rfl (by rfl) ?_
                  refine .off rfl rfl rfl rfl rfl (by rfl) ?_
                  refine .off rfl rfl rfl rfl rfl (by rfl) ?_
                  refine .off rfl rfl rfl rfl rfl (by rfl) ?_
                  refine .off rfl rfl rfl rfl rfl (by rfl) ?_
                  refine .off rfl rfl rfl rfl rfl (by rfl) ?_
                  refine .off rfl rfl rfl rfl rfl (by rfl) ?_
                  refine .off rfl rfl rfl rfl rfl (by rfl) ?_
                  refine .v (f_pick_false (by rfl) rfl) rfl (.c rfl (.c rfl .nil)) .nil ?_
                  refine .v (f_assign (by rfl)) rfl (.c rfl .nil) .nil ?_
                  refine .nil (by kernel_rfl) ?_
                  refine aw_ret ?_
                  obtain rfl := Option.some.inj h
                  exact aq_finp hb0 rfl (.tmp rfl (by rfl) .nil) (by rfl) rfl ⟨rfl, rfl⟩
            · replace h := ite_f hc18 h
              refine .off rfl rfl rfl hc18 rfl (by rfl) ?_
              refine .off rfl rfl rfl hc18 rfl (by rfl) ?_
              refine .off rfl rfl rfl hc18 rfl (by rfl) ?_
              refine .off rfl rfl rfl hc18 rfl (by rfl) ?_
              refine .v (f_pick_false (by rfl) hc18) rfl (.c rfl (.c rfl .nil)) .nil ?_
              refine .nil (aq_then ?_)
              refine aw_cond rfl (fun hx => absurd (hx.symm.trans rfl) (by simp)) (fun _ => ?_)
              refine aw_skip ?_
              refine aq_then ?_
              refine aw_rds ?_
              refine .v (f_move (by rfl)) rfl (.c rfl .nil) .nil ?_
              refine .v (f_move (by rfl)) rfl (.c rfl .nil) .nil ?_
              rcases Bool.eq_false_or_eq_true y1 with hc37 | hc37
              · replace h := ite_t hc37 h
                refine .gv (f_load (n := 0) (o := 3) (off := 0) (p := []) (c := .d (eA22 a0)) (z := .d (eA22 a0)) (by rfl) rfl ty23 (by rfl)) rfl rfl rfl hc37 (.c rfl .nil) (.cons rfl .nil) ?_
                refine .gv (f_load (n := 0) (o := 5) (off := 0) (p := []) (c := .d (eA22 a2)) (z := .d (eA22 a2)) (by rfl) rfl ty23 (by rfl)) rfl rfl rfl hc37 (.c rfl .nil) (.cons rfl .nil) ?_
                obtain ⟨y38, hy39, h⟩ := bind_some h
                refine .gv (f_callP hgl (by rfl) en9 rfl (by rfl) (by rfl) (by rfl) (F9_path_Shared_ok hy39)) rfl rfl rfl hc37 (.c rfl (.c rfl .nil)) .nil ?_
                refine .gv (f_load (n := 0) (o := 3) (off := 0) (p := []) (c := .d (eA22 a0)) (z := .d (eA22 a0)) (by rfl) rfl ty23 (by rfl)) rfl rfl rfl hc37 (.c rfl .nil) (.cons rfl .nil) ?_
                refine .gv (f_load (n := 0) (o := 4) (off := 0) (p := []) (c := .d (eA22 a1)) (z := .d (eA22 a1)) (by rfl) rfl ty23 (by rfl)) rfl rfl rfl hc37 (.c rfl .nil) (.cons rfl .nil) ?_
                obtain ⟨y40, hy41, h⟩ := bind_some h
                refine .gv (f_callP hgl (by rfl) en9 rfl (by rfl) (by rfl) (by rfl) (F9_path_Shared_ok hy41)) rfl rfl rfl hc37 (.c rfl (.c rfl .nil)) .nil ?_
                refine .gv (f_load (n := 0) (o := 4) (off := 0) (p := []) (c := .d (eA22 a1)) (z := .d (eA22 a1)) (by rfl) rfl ty23 (by rfl)) rfl rfl rfl hc37 (.c rfl .nil) (.cons rfl .nil) ?_
                refine .gv (f_load (n := 0) (o := 5) (off := 0) (p := []) (c := .d (eA22 a2)) (z := .d (eA22 a2)) (by rfl) rfl ty23 (by rfl)) rfl rfl rfl hc37 (.c rfl .nil) (.cons rfl .nil) ?_
                obtain ⟨y42, hy43, h⟩ := bind_some h
                refine .gv (f_callP hgl (by rfl) en9 rfl (by rfl) (by rfl) (by rfl) (F9_path_Shared_ok hy43)) rfl rfl rfl hc37 (.c rfl (.c rfl .nil)) .nil ?_
                refine .gv (f_minI (by rfl)) rfl rfl rfl hc37 (.c rfl (.c rfl .nil)) .nil ?_
                refine .gv (f_binI (by rfl) rfl (by rfl)) rfl rfl rfl hc37 (.c rfl (.c rfl .nil)) .nil ?_
                refine .v (f_pick_true (by rfl) hc37) rfl (.c rfl (.c rfl .nil)) .nil ?_
                refine .v (f_move (by rfl)) rfl (.c rfl .nil) .nil ?_
                rcases Bool.eq_false_or_eq_true (decide (y38 ≥ (if y42 < y40 then y42 else y40))) with hc44 | hc44
                · replace h := ite_t hc44 h
                  refine .gv (f_load (n := 0) (o := 3) (off := 0) (p := []) (c := .d (eA22 a0)) (z := .d (eA22 a0)) (by rfl) rfl ty23 (by rfl)) rfl rfl rfl hc44 (.c rfl .nil) (.cons rfl .nil) ?_
                  refine .gv (f_load (n := 0) (o := 4) (off := 0) (p := []) (c := .d (eA22 a1)) (z := .d (eA22 a1)) (by rfl) rfl ty23 (by rfl)) rfl rfl rfl hc44 (.c rfl .nil) (.cons rfl .nil) ?_
                  obtain ⟨y45, hy46, h⟩ := bind_some h
                  refine .gv (f_callP hgl (by rfl) en9 rfl (by rfl) (by rfl) (by rfl) (F9_path_Shared_ok hy46)) rfl rfl rfl hc44 (.c rfl (.c rfl .nil)) .nil ?_
                  refine .gv (f_load (n := 0) (o := 4) (off := 0) (p := []) (c := .d (eA22 a1)) (z := .d (eA22 a1)) (by rfl) rfl ty23 (by rfl)) rfl rfl rfl hc44 (.c rfl .nil) (.cons rfl .nil) ?_
                  refine .gv (f_load (n := 0) (o := 3) (off := 0) (p := []) (c := .d (eA22 a0)) (z := .d (eA22 a0)) (by rfl) rfl ty23 (by rfl)) rfl rfl rfl hc44 (.c rfl .nil) (.cons rfl .nil) ?_
                  obtain ⟨y47, hy48, h⟩ := bind_some h
                  refine .gv (f_callP hgl (by rfl) en9 rfl (by rfl) (by rfl) (by rfl) (F9_path_Shared_ok hy48)) rfl rfl rfl hc44 (.c rfl (.c rfl .nil)) .nil ?_
                  refine .gv (f_binI (by rfl) rfl (by rfl)) rfl rfl rfl hc44 (.c rfl (.c rfl .nil)) .nil ?_
                  refine .v (f_pick_true (by rfl) hc44) rfl (.c rfl (.c rfl .nil)) .nil ?_
                  refine .v (f_move (by rfl)) rfl (.c rfl .nil) .nil ?_
                  rcases Bool.eq_false_or_eq_true (y45 == y47) with hc49 | hc49
                  · replace h := ite_t hc49 h
                    refine .gv (f_load (n := 0) (o := 3) (off := 0) (p := []) (c := .d (eA22 a0)) (z := .d (eA22 a0)) (by rfl) rfl ty23 (by rfl)) rfl rfl rfl hc49 (.c rfl .nil) (.cons rfl .nil) ?_
                    refine .gv (f_load (n := 0) (o := 4) (off := 0) (p := []) (c := .d (eA22 a1)) (z := .d (eA22 a1)) (by rfl) rfl ty23 (by rfl)) rfl rfl rfl hc49 (.c rfl .nil) (.cons rfl .nil) ?_
                    obtain ⟨y50, hy51, h⟩ := bind_some h
                    refine .gv (f_callP hgl (by rfl) en9 rfl (by rfl) (by rfl) (by rfl) (F9_path_Shared_ok hy51)) rfl rfl rfl hc49 (.c rfl (.c rfl .nil)) .nil ?_
                    refine .gv (f_binI (by rfl) rfl (by rfl)) rfl rfl rfl hc49 (.c rfl (.c rfl .nil)) .nil ?_
                    refine .gv (f_load (n := 0) (o := 3) (off := 0) (p := []) (c := .d (eA22 a0)) (z := .d (eA22 a0)) (by rfl) rfl ty23 (by rfl)) rfl rfl rfl hc49 (.c rfl .nil) (.cons rfl .nil) ?_
                    refine .gv (f_load (n := 0) (o := 4) (off := 0) (p := []) (c := .d (eA22 a1)) (z := .d (eA22 a1)) (by rfl) rfl ty23 (by rfl)) rfl rfl rfl hc49 (.c rfl .nil) (.cons rfl .nil) ?_
                    refine .gv (f_eqlT (by rfl) (fit23 _) (fit23 _) (by rfl) (by rfl) gd23 (eq_eA22 _ _)) rfl rfl rfl hc49 (.c rfl (.c rfl .nil)) .nil ?_
                    refine .gv (f_eqlB (by rfl) un4) rfl rfl rfl hc49 (.c rfl (.c rfl .nil)) .nil ?_
                    refine .v (f_pick_true (by rfl) hc49) rfl (.c rfl (.c rfl .nil)) .nil ?_
                    refine .v (f_assign (by rfl)) rfl (.c rfl .nil) .nil ?_
                    refine .nil (by kernel_rfl) ?_
                    refine aw_ret ?_
                    obtain rfl := Option.some.inj h
                    exact aq_finp hb0 rfl (.tmp rfl (by rfl) .nil) (by rfl) rfl ⟨rfl, rfl⟩
                  · replace h := ite_f hc49 h
                    refine .off rfl rfl rfl hc49 rfl (by rfl) ?_
                    refine .off rfl rfl rfl hc49 rfl (by rfl) ?_
                    refine .off rfl rfl rfl hc49 rfl (by rfl) ?_
                    refine .off rfl rfl rfl hc49 rfl (by rfl) ?_
                    refine .off rfl rfl rfl hc49 rfl (by rfl) ?_
                    refine .off rfl rfl rfl hc49 rfl (by rfl) ?_
                    refine .off rfl rfl rfl hc49 rfl (by rfl) ?_
                    refine .off rfl rfl rfl hc49 rfl (by rfl) ?_
                    refine .v (f_pick_false (by rfl) hc49) rfl (.c rfl (.c rfl .nil)) .nil ?_
                    refine .v (f_assign (by rfl)) rfl (.c rfl .nil) .nil ?_
                    refine .nil (by kernel_rfl) ?_
                    refine aw_ret ?_
                    obtain rfl := Option.some.inj h
                    exact aq_finp hb0 rfl (.tmp rfl (by rfl) .nil) (by rfl) rfl ⟨rfl, rfl⟩
                · replace h := ite_f hc44 h
                  refine .off rfl rfl rfl hc44 rfl (by rfl) ?_
                  refine .off rfl rfl rfl hc44 rfl (by rfl) ?_
                  refine .off rfl rfl rfl hc44 rfl (by rfl) ?_
                  refine .off rfl rfl rfl hc44 rfl (by rfl) ?_
                  refine .off rfl rfl rfl hc44 rfl (by rfl) ?_
                  refine .off rfl rfl rfl hc44 rfl (by rfl) ?_
                  refine .off rfl rfl rfl hc44 rfl (by rfl) ?_
                  refine .v (f_pick_false (by rfl) hc44) rfl (.c rfl (.c rfl .nil)) .nil ?_
                  refine .v (f_move (by rfl)) rfl (.c rfl .nil) .nil ?_
                  refine .off rfl rfl rfl rfl rfl (by rfl) ?_
                  refine .off rfl rfl rfl rfl rfl (by rfl) ?_
                  refine .off rfl rfl rfl rfl rfl (by rfl) ?_
                  refine .off rfl rfl rfl rfl rfl (by rfl) ?_
                  refine .off rfl rfl rfl rfl rfl (by rfl) ?_
                  refine .off rfl rfl rfl rfl rfl (by rfl) ?_
                  refine .off rfl rfl rfl rfl rfl (by rfl) ?_
                  refine .off rfl rfl rfl rfl rfl (by rfl) ?_
                  refine .v (f_pick_false (by rfl) rfl) rfl (.c rfl (.c rfl .nil)) .nil ?_
                  refine .v (f_assign (by rfl)) rfl (.c rfl .nil) .nil ?_
                  refine .nil (by kernel_rfl) ?_
                  refine aw_ret ?_
                  obtain rfl := Option.some.inj h
                  exact aq_finp hb0 rfl (.tmp rfl (by rfl) .nil) (by rfl) rfl ⟨rfl, rfl⟩
              · replace h := ite_f hc37 h
                refine .off rfl rfl rfl hc37 rfl (by rfl) ?_
                refine .off rfl rfl rfl hc37 rfl (by rfl) ?_
                refine .off rfl rfl rfl hc37 rfl (by rfl) ?_
                refine .off rfl rfl rfl hc37 rfl (by rfl) ?_
                refine .off rfl rfl rfl hc37 rfl (by rfl) ?_
                refine .off rfl rfl rfl hc37 rfl (by rfl) ?_
                refine .off rfl rfl rfl hc37 rfl (by rfl) ?_
                refine .off rfl rfl rfl hc37 rfl (by rfl) ?_
                refine .off rfl rfl rfl hc37 rfl (by rfl) ?_
                refine .off rfl rfl rfl hc37 rfl (by rfl) ?_
                refine .off rfl rfl rfl hc37 rfl (by rfl) ?_
                refine .v (f_pick_false (by rfl) hc37) rfl (.c rfl (.c rfl .nil)) .nil ?_
                refine .v (f_move (by rfl)) rfl (.c rfl .nil) .nil ?_
                refine .off rfl rfl rfl rfl rfl (by rfl) ?_
                refine .off rfl rfl rfl rfl rfl (by rfl) ?_
                refine .off rfl rfl rfl rfl rfl (by rfl) ?_
                refine .off rfl rfl rfl rfl rfl (by rfl) ?_
                refine .off rfl rfl rfl rfl rfl (by rfl) ?_
                refine .off rfl rfl rfl rfl rfl (by rfl) ?_
                refine .off rfl rfl rfl rfl rfl (by rfl) ?_
                refine .v (f_pick_false (by rfl) rfl) rfl (.c rfl (.c rfl .nil)) .nil ?_
                refine .v (f_move (by rfl)) rfl (.c rfl .nil) .nil ?_
                refine .off rfl rfl rfl rfl rfl (by rfl) ?_
                refine .off rfl rfl rfl rfl rfl (by rfl) ?_
                refine .off rfl rfl rfl rfl rfl (by rfl) ?_
                refine .off rfl rfl rfl rfl rfl (by rfl) ?_
                refine .off rfl rfl rfl rfl rfl (by rfl) ?_
                refine .off rfl rfl rfl rfl rfl (by rfl) ?_
                refine .off rfl rfl rfl rfl rfl (by rfl) ?_
                refine .off rfl rfl rfl rfl rfl (by rfl) ?_
                refine .v (f_pick_false (by rfl) rfl) rfl (.c rfl (.c rfl .nil)) .nil ?_
                refine .v (f_assign (by rfl)) rfl (.c rfl .nil) .nil ?_
                refine .nil (by kernel_rfl) ?_
                refine aw_ret ?_
                obtain rfl := Option.some.inj h
                exact aq_finp hb0 rfl (.tmp rfl (by rfl) .nil) (by rfl) rfl ⟨rfl, rfl⟩
          · replace h := ite_f hc15 h
            refine .off rfl rfl rfl hc15 rfl (by rfl) ?_
            refine .off rfl rfl rfl hc15 rfl (by rfl) ?_
            refine .off rfl rfl rfl hc15 rfl (by rfl) ?_
            refine .v (f_pick_false (by rfl) hc15) rfl (.c rfl (.c rfl .nil)) .nil ?_
            refine .v (f_move (by rfl)) rfl (.c rfl .nil) .nil ?_
            refine .off rfl rfl rfl rfl rfl (by rfl) ?_
            refine .off rfl rfl rfl rfl rfl (by rfl) ?_
            refine .off rfl rfl rfl rfl rfl (by rfl) ?_
            refine .off rfl rfl rfl rfl rfl (by rfl) ?_
            refine .v (f_pick_false (by rfl) rfl) rfl (.c rfl (.c rfl .nil)) .nil ?_
            refine .nil (aq_then ?_)
            refine aw_cond rfl (fun hx => absurd (hx.symm.trans rfl) (by simp)) (fun _ => ?_)
            refine aw_skip ?_
            refine aq_then ?_
            refine aw_rds ?_
            refine .v (f_move (by rfl)) rfl (.c rfl .nil) .nil ?_
            refine .v (f_move (by rfl)) rfl (.c rfl .nil) .nil ?_
            rcases Bool.eq_false_or_eq_true y1 with hc52 | hc52
            · replace h := ite_t hc52 h
              refine .gv (f_load (n := 0) (o := 3) (off := 0) (p := []) (c := .d (eA22 a0)) (z := .d (eA22 a0)) (by rfl) rfl ty23 (by rfl)) rfl rfl rfl hc52 (.c rfl .nil) (.cons rfl .nil) ?_
              refine .gv (f_load (n := 0) (o := 5) (off := 0) (p := []) (c := .d (eA22 a2)) (z := .d (eA22 a2)) (by rfl) rfl ty23 (by rfl)) rfl rfl rfl hc52 (.c rfl .nil) (.cons rfl .nil) ?_
              obtain ⟨y53, hy54, h⟩ := bind_some h
              refine .gv (f_callP hgl (by rfl) en9 rfl (by rfl) (by rfl) (by rfl) (F9_path_Shared_ok hy54)) rfl rfl rfl hc52 (.c rfl (.c rfl .nil)) .nil ?_
              refine .gv (f_load (n := 0) (o := 3) (off := 0) (p := []) (c := .d (eA22 a0)) (z := .d (eA22 a0)) (by rfl) rfl ty23 (by rfl)) rfl rfl rfl hc52 (.c rfl .nil) (.cons rfl .nil) ?_
              refine .gv (f_load (n := 0) (o := 4) (off := 0) (p := []) (c := .d (eA22 a1)) (z := .d (eA22 a1)) (by rfl) rfl ty23 (by rfl)) rfl rfl rfl hc52 (.c rfl .nil) (.cons rfl .nil) ?_
              obtain ⟨y55, hy56, h⟩ := bind_some h
              refine .gv (f_callP hgl (by rfl) en9 rfl (by rfl) (by rfl) (by rfl) (F9_path_Shared_ok hy56)) rfl rfl rfl hc52 (.c rfl (.c rfl .nil)) .nil ?_
              refine .gv (f_load (n := 0) (o := 4) (off := 0) (p := []) (c := .d (eA22 a1)) (z := .d (eA22 a1)) (by rfl) rfl ty23 (by rfl)) rfl rfl rfl hc52 (.c rfl .nil) (.cons rfl .nil) ?_
              refine .gv (f_load (n := 0) (o := 5) (off := 0) (p := []) (c := .d (eA22 a2)) (z := .d (eA22 a2)) (by rfl) rfl ty23 (by rfl)) rfl rfl rfl hc52 (.c rfl .nil) (.cons rfl .nil) ?_
              obtain ⟨y57, hy58, h⟩ := bind_some h
              refine .gv (f_callP hgl (by rfl) en9 rfl (by rfl) (by rfl) (by rfl) (F9_path_Shared_ok hy58)) rfl rfl rfl hc52 (.c rfl (.c rfl .nil)) .nil ?_
              refine .gv (f_minI (by rfl)) rfl rfl rfl hc52 (.c rfl (.c rfl .nil)) .nil ?_
              refine .gv (f_binI (by rfl) rfl (by rfl)) rfl rfl rfl hc52 (.c rfl (.c rfl .nil)) .nil ?_
              refine .v (f_pick_true (by rfl) hc52) rfl (.c rfl (.c rfl .nil)) .nil ?_
              refine .v (f_move (by rfl)) rfl (.c rfl .nil) .nil ?_
              rcases Bool.eq_false_or_eq_true (decide (y53 ≥ (if y57 < y55 then y57 else y55))) with hc59 | hc59
              · replace h := ite_t hc59 h
                refine .gv (f_load (n := 0) (o := 3) (off := 0) (p := []) (c := .d (eA22 a0)) (z := .d (eA22 a0)) (by rfl) rfl ty23 (by rfl)) rfl rfl rfl hc59 (.c rfl .nil) (.cons rfl .nil) ?_
                refine .gv (f_load (n := 0) (o := 4) (off := 0) (p := []) (c := .d (eA22 a1)) (z := .d (eA22 a1)) (by rfl) rfl ty23 (by rfl)) rfl rfl rfl hc59 (.c rfl .nil) (.cons rfl .nil) ?_
                obtain ⟨y60, hy61, h⟩ := bind_some h
                refine .gv (f_callP hgl (by rfl) en9 rfl (by rfl) (by rfl) (by rfl) (F9_path_Shared_ok hy61)) rfl rfl rfl hc59 (.c rfl (.c rfl .nil)) .nil ?_
                refine .gv (f_load (n := 0) (o := 4) (off := 0) (p := []) (c := .d (eA22 a1)) (z := .d (eA22 a1)) (by rfl) rfl ty23 (by rfl)) rfl rfl rfl hc59 (.c rfl .nil) (.cons rfl .nil) ?_
                refine .gv (f_load (n := 0) (o := 3) (off := 0) (p := []) (c := .d (eA22 a0)) (z := .d (eA22 a0)) (by rfl) rfl ty23 (by rfl)) rfl rfl rfl hc59 (.c rfl .nil) (.cons rfl .nil) ?_
                obtain ⟨y62, hy63, h⟩ := bind_some h
                refine .gv (f_callP hgl (by rfl) en9 rfl (by rfl) (by rfl) (by rfl) (F9_path_Shared_ok hy63)) rfl rfl rfl hc59 (.c rfl (.c rfl .nil)) .nil ?_
                refine .gv (f_binI (by rfl) rfl (by rfl)) rfl rfl rfl hc59 (.c rfl (.c rfl .nil)) .nil ?_
                refine .v (f_pick_true (by rfl) hc59) rfl (.c rfl (.c rfl .nil)) .nil ?_
                refine .v (f_move (by rfl)) rfl (.c rfl .nil) .nil ?_
                rcases Bool.eq_false_or_eq_true (y60 == y62) with hc64 | hc64
                · replace h := ite_t hc64 h
                  refine .gv (f_load (n := 0) (o := 3) (off := 0) (p := []) (c := .d (eA22 a0)) (z := .d (eA22 a0)) (by rfl) rfl ty23 (by rfl)) rfl rfl rfl hc64 (.c rfl .nil) (.cons rfl .nil) ?_
                  refine .gv (f_load (n := 0) (o := 4) (off := 0) (p := []) (c := .d (eA22 a1)) (z := .d (eA22 a1)) (by rfl) rfl ty23 (by rfl)) rfl rfl rfl hc64 (.c rfl .nil) (.cons rfl .nil) ?_
                  obtain ⟨y65, hy66, h⟩ := bind_some h
                  refine .gv (f_callP hgl (by rfl) en9 rfl (by rfl) (by rfl) (by rfl) (F9_path_Shared_ok hy66)) rfl rfl rfl hc64 (.c rfl (.c rfl .nil)) .nil ?_
                  refine .gv (f_binI (by rfl) rfl (by rfl)) rfl rfl rfl hc64 (.c rfl (.c rfl .nil)) .nil ?_
                  refine .gv (f_load (n := 0) (o := 3) (off := 0) (p := []) (c := .d (eA22 a0)) (z := .d (eA22 a0)) (by rfl) rfl ty23 (by rfl)) rfl rfl rfl hc64 (.c rfl .nil) (.cons rfl .nil) ?_
                  refine .gv (f_load (n := 0) (o := 4) (off := 0) (p := []) (c := .d (eA22 a1)) (z := .d (eA22 a1)) (by rfl) rfl ty23 (by rfl)) rfl rfl rfl hc64 (.c rfl .nil) (.cons rfl .nil) ?_
                  refine .gv (f_eqlT (by rfl) (fit23 _) (fit23 _) (by rfl) (by rfl) gd23 (eq_eA22 _ _)) rfl rfl rfl hc64 (.c rfl (.c rfl .nil)) .nil ?_
                  refine .gv (f_eqlB (by rfl) un4) rfl rfl rfl hc64 (.c rfl (.c rfl .nil)) .nil ?_
                  refine .v (f_pick_true (by rfl) hc64) rfl (.c rfl (.c rfl .nil)) .nil ?_
                  refine .v (f_assign (by rfl)) rfl (.c rfl .nil) .nil ?_
                  refine .nil (by kernel_rfl) ?_
                  refine aw_ret ?_
                  obtain rfl := Option.some.inj h
                  exact aq_finp hb0 rfl (.tmp rfl (by rfl) .nil) (by rfl) rfl ⟨rfl, rfl⟩
                · replace h := ite_f hc64 h
                  refine .off rfl rfl rfl hc64 rfl (by rfl) ?_
                  refine .off rfl rfl rfl hc64 rfl (by rfl) ?_
                  refine .off rfl rfl rfl hc64 rfl (by rfl) ?_
                  refine .off rfl rfl rfl hc64 rfl (by rfl) ?_
                  refine .off rfl rfl rfl hc64 rfl (by rfl) ?_
                  refine .off rfl rfl rfl hc64 rfl (by rfl) ?_
                  refine .off rfl rfl rfl hc64 rfl (by rfl) ?_
                  refine .off rfl rfl rfl hc64 rfl (by rfl) ?_
                  refine .v (f_pick_false (by rfl) hc64) rfl (.c rfl (.c rfl .nil)) .nil ?_
                  refine .v (f_assign (by rfl)) rfl (.c rfl .nil) .nil ?_
                  refine .nil (by kernel_rfl) ?_
                  refine aw_ret ?_
                  obtain rfl := Option.some.inj h
                  exact aq_finp hb0 rfl (.tmp rfl (by rfl) .nil) (by rfl) rfl ⟨rfl, rfl⟩
              · replace h := ite_f hc59 h
                refine .off rfl rfl rfl hc59 rfl (by rfl) ?_
                refine .off rfl rfl rfl hc59 rfl (by rfl) ?_
                refine .off rfl rfl rfl hc59 rfl (by rfl) ?_
                refine .off rfl rfl rfl hc59 rfl (by rfl) ?_
                refine .off rfl rfl rfl hc59 rfl (by rfl) ?_
                refine .off rfl rfl rfl hc59 rfl (by rfl) ?_
                refine .off rfl rfl rfl hc59 rfl (by rfl) ?_
                refine .v (f_pick_false (by rfl) hc59) rfl (.c rfl (.c rfl .nil)) .nil ?_
                refine .v (f_move (by rfl)) rfl (.c rfl .nil) .nil ?_
                refine .off rfl rfl rfl rfl rfl (by rfl) ?_
                refine .off rfl rfl rfl rfl rfl (by rfl) ?_
                refine .off rfl rfl rfl rfl rfl (by rfl) ?_
                refine .off rfl rfl rfl rfl rfl (by rfl) ?_
                refine .off rfl rfl rfl rfl rfl (by rfl) ?_
                refine .off rfl rfl rfl rfl rfl (by rfl) ?_
                refine .off rfl rfl rfl rfl rfl (by rfl) ?_
                refine .off rfl rfl rfl rfl rfl (by rfl) ?_
                refine .v (f_pick_false (by rfl) rfl) rfl (.c rfl (.c rfl .nil)) .nil ?_
                refine .v (f_assign (by rfl)) rfl (.c rfl .nil) .nil ?_
                refine .nil (by kernel_rfl) ?_
                refine aw_ret ?_
                obtain rfl := Option.some.inj h
                exact aq_finp hb0 rfl (.tmp rfl (by rfl) .nil) (by rfl) rfl ⟨rfl, rfl⟩
            · replace h := ite_f hc52 h
              refine .off rfl rfl rfl hc52 rfl (by rfl) ?_
              refine .off rfl rfl rfl hc52 rfl (by rfl) ?_
              refine .off rfl rfl rfl hc52 rfl (by rfl) ?_
              refine .off rfl rfl rfl hc52 rfl (by rfl) ?_
              refine .off rfl rfl rfl hc52 rfl (by rfl) ?_
              refine .off rfl rfl rfl hc52 rfl (by rfl) ?_
              refine .off rfl rfl rfl hc52 rfl (by rfl) ?_
              refine .off rfl rfl rfl hc52 rfl (by rfl) ?_
              refine .off rfl rfl rfl hc52 rfl (by rfl) ?_
              refine .off rfl rfl rfl hc52 rfl (by rfl) ?_
              refine .off rfl rfl rfl hc52 rfl (by rfl) ?_
              refine .v (f_pick_false (by rfl) hc52) rfl (.c rfl (.c rfl .nil)) .nil ?_
              refine .v (f_move (by rfl)) rfl (.c rfl .nil) .nil ?_
              refine .off rfl rfl rfl rfl rfl (by rfl) ?_
              refine .off rfl rfl rfl rfl rfl (by rfl) ?_
              refine .off rfl rfl rfl rfl rfl (by rfl) ?_
              refine .off rfl rfl rfl rfl rfl (by rfl) ?_
              refine .off rfl rfl rfl rfl rfl (by rfl) ?_
              refine .off rfl rfl rfl rfl rfl (by rfl) ?_
              refine .off rfl rfl rfl rfl rfl (by rfl) ?_
              refine .v (f_pick_false (by rfl) rfl) rfl (.c rfl (.c rfl .nil)) .nil ?_
              refine .v (f_move (by rfl)) rfl (.c rfl .nil) .nil ?_
              refine .off rfl rfl rfl rfl rfl (by rfl) ?_
              refine .off rfl rfl rfl rfl rfl (by rfl) ?_
              refine .off rfl rfl rfl rfl rfl (by rfl) ?_
              refine .off rfl rfl rfl rfl rfl (by rfl) ?_
              refine .off rfl rfl rfl rfl rfl (by rfl) ?_
              refine .off rfl rfl rfl rfl rfl (by rfl) ?_
              refine .off rfl rfl rfl rfl rfl (by rfl) ?_
              refine .off rfl rfl rfl rfl rfl (by rfl) ?_
              refine .v (f_pick_false (by rfl) rfl) rfl (.c rfl (.c rfl .nil)) .nil ?_
              refine .v (f_assign (by rfl)) rfl (.c rfl .nil) .nil ?_
              refine .nil (by kernel_rfl) ?_
              refine aw_ret ?_
              obtain rfl := Option.some.inj h
              exact aq_finp hb0 rfl (.tmp rfl (by rfl) .nil) (by rfl) rfl ⟨rfl, rfl⟩
      · replace h := ite_f hc11 h
        refine .gv (f_load (n := 0) (o := 4) (off := 0) (p := []) (c := .d (eA22 a1)) (z := .d (eA22 a1)) (by rfl) rfl ty23 (by rfl)) rfl rfl rfl hc11 (.c rfl .nil) (.cons rfl .nil) ?_
        refine .gv (f_load (n := 0) (o := 3) (off := 0) (p := []) (c := .d (eA22 a0)) (z := .d (eA22 a0)) (by rfl) rfl ty23 (by rfl)) rfl rfl rfl hc11 (.c rfl .nil) (.cons rfl .nil) ?_
        obtain ⟨y67, hy68, h⟩ := bind_some h
        refine .gv (f_callP hgl (by rfl) en8 rfl (by rfl) (by rfl) (by rfl) (F8_path_Ahead_ok hy68)) rfl rfl rfl hc11 (.c rfl (.c rfl .nil)) .nil ?_
        refine .gv (f_pick_false (by rfl) hc11) rfl rfl rfl hc8 (.c rfl (.c rfl .nil)) .nil ?_
        refine .gv (f_eqlB (by rfl) un4) rfl rfl rfl hc8 (.c rfl (.c rfl .nil)) .nil ?_
        refine .v (f_pick_false (by rfl) hc8) rfl (.c rfl (.c rfl .nil)) .nil ?_
        refine .nil (by kernel_rfl) ?_
        refine aw_cond rfl (fun hc69 => ?_) (fun hc69 => ?_)
        · replace h := ite_t hc69 h
          refine aw_rs ?_
          refine .v (f_assign (by rfl)) rfl (.c rfl .nil) .nil ?_
          refine .nil (aq_then ?_)
          refine aw_ret ?_
          refine aq_then_ret ?_
          obtain rfl := Option.some.inj h
          exact aq_finp hb0 rfl (.tmp rfl (by rfl) .nil) (by rfl) rfl ⟨rfl, rfl⟩
        · replace h := ite_f hc69 h
          refine aw_skip ?_
          refine aq_then ?_
          refine aw_seq ?_
          refine aw_rs ?_
          refine .v (f_load (n := 0) (o := 3) (off := 0) (p := []) (c := .d (eA22 a0)) (z := .d (eA22 a0)) (by rfl) rfl ty23 (by rfl)) rfl (.c rfl .nil) (.cons rfl .nil) ?_
          refine .v (f_load (n := 0) (o := 4) (off := 0) (p := []) (c := .d (eA22 a1)) (z := .d (eA22 a1)) (by rfl) rfl ty23 (by rfl)) rfl (.c rfl .nil) (.cons rfl .nil) ?_
          obtain ⟨y70, hy71, h⟩ := bind_some h
          refine .v (f_callP hgl (by rfl) en8 rfl (by rfl) (by rfl) (by rfl) (F8_path_Ahead_ok hy71)) rfl (.c rfl (.c rfl .nil)) .nil ?_
          refine .v (f_move (by rfl)) rfl (.c rfl .nil) .nil ?_
          rcases Bool.eq_false_or_eq_true y70 with hc72 | hc72
          · replace h := ite_t hc72 h
            refine .gv (f_load (n := 0) (o := 4) (off := 0) (p := []) (c := .d (eA22 a1)) (z := .d (eA22 a1)) (by rfl) rfl ty23 (by rfl)) rfl rfl rfl hc72 (.c rfl .nil) (.cons rfl .nil) ?_
            refine .gv (f_load (n := 0) (o := 5) (off := 0) (p := []) (c := .d (eA22 a2)) (z := .d (eA22 a2)) (by rfl) rfl ty23 (by rfl)) rfl rfl rfl hc72 (.c rfl .nil) (.cons rfl .nil) ?_
            obtain ⟨y73, hy74, h⟩ := bind_some h
            refine .gv (f_callP hgl (by rfl) en8 rfl (by rfl) (by rfl) (by rfl) (F8_path_Ahead_ok hy74)) rfl rfl rfl hc72 (.c rfl (.c rfl .nil)) .nil ?_
            refine .v (f_pick_true (by rfl) hc72) rfl (.c rfl (.c rfl .nil)) .nil ?_
            refine .v (f_move (by rfl)) rfl (.c rfl .nil) .nil ?_
            rcases Bool.eq_false_or_eq_true y73 with hc75 | hc75
            · replace h := ite_t hc75 h
              refine .gv (f_load (n := 0) (o := 3) (off := 0) (p := []) (c := .d (eA22 a0)) (z := .d (eA22 a0)) (by rfl) rfl ty23 (by rfl)) rfl rfl rfl hc75 (.c rfl .nil) (.cons rfl .nil) ?_
              refine .gv (f_load (n := 0) (o := 5) (off := 0) (p := []) (c := .d (eA22 a2)) (z := .d (eA22 a2)) (by rfl) rfl ty23 (by rfl)) rfl rfl rfl hc75 (.c rfl .nil) (.cons rfl .nil) ?_
              obtain ⟨y76, hy77, h⟩ := bind_some h
              refine .gv (f_callP hgl (by rfl) en8 rfl (by rfl) (by rfl) (by rfl) (F8_path_Ahead_ok hy77)) rfl rfl rfl hc75 (.c rfl (.c rfl .nil)) .nil ?_
              refine .gv (f_not (by rfl)) rfl rfl rfl hc75 (.c rfl .nil) .nil ?_
              refine .v (f_pick_true (by rfl) hc75) rfl (.c rfl (.c rfl .nil)) .nil ?_
              refine .nil (aq_then ?_)
              refine aw_cond rfl (fun hc78 => ?_) (fun hc78 => ?_)
              · replace h := ite_t hc78 h
                refine aw_rs ?_
                refine .v (f_assign (by rfl)) rfl (.c rfl .nil) .nil ?_
                refine .nil (aq_then ?_)
                refine aw_ret ?_
                refine aq_then_ret ?_
                obtain rfl := Option.some.inj h
                exact aq_finp hb0 rfl (.tmp rfl (by rfl) .nil) (by rfl) rfl ⟨rfl, rfl⟩
              · replace h := ite_f hc78 h
                refine aw_skip ?_
                refine aq_then ?_
                refine aw_rds ?_
                refine .v (f_move (by rfl)) rfl (.c rfl .nil) .nil ?_
                refine .v (f_move (by rfl)) rfl (.c rfl .nil) .nil ?_
                rcases Bool.eq_false_or_eq_true y1 with hc79 | hc79
                · replace h := ite_t hc79 h
                  refine .gv (f_load (n := 0) (o := 3) (off := 0) (p := []) (c := .d (eA22 a0)) (z := .d (eA22 a0)) (by rfl) rfl ty23 (by rfl)) rfl rfl rfl hc79 (.c rfl .nil) (.cons rfl .nil) ?_
                  refine .gv (f_load (n := 0) (o := 5) (off := 0) (p := []) (c := .d (eA22 a2)) (z := .d (eA22 a2)) (by rfl) rfl ty23 (by rfl)) rfl rfl rfl hc79 (.c rfl .nil) (.cons rfl .nil) ?_
                  obtain ⟨y80, hy81, h⟩ := bind_some h
                  refine .gv (f_callP hgl (by rfl) en9 rfl (by rfl) (by rfl) (by rfl) (F9_path_Shared_ok hy81)) rfl rfl rfl hc79 (.c rfl (.c rfl .nil)) .nil ?_
                  refine .gv (f_load (n := 0) (o := 3) (off := 0) (p := []) (c := .d (eA22 a0)) (z := .d (eA22 a0)) (by rfl) rfl ty23 (by rfl)) rfl rfl rfl hc79 (.c rfl .nil) (.cons rfl .nil) ?_
                  refine .gv (f_load (n := 0) (o := 4) (off := 0) (p := []) (c := .d (eA22 a1)) (z := .d (eA22 a1)) (by rfl) rfl ty23 (by rfl)) rfl rfl rfl hc79 (.c rfl .nil) (.cons rfl .nil) ?_
                  obtain ⟨y82, hy83, h⟩ := bind_some h
                  refine .gv (f_callP hgl (by rfl) en9 rfl (by rfl) (by rfl) (by rfl) (F9_path_Shared_ok hy83)) rfl rfl rfl hc79 (.c rfl (.c rfl .nil)) .nil ?_
                  refine .gv (f_load (n := 0) (o := 4) (off := 0) (p := []) (c := .d (eA22 a1)) (z := .d (eA22 a1)) (by rfl) rfl ty23 (by rfl)) rfl rfl rfl hc79 (.c rfl .nil) (.cons rfl .nil) ?_
                  refine .gv (f_load (n := 0) (o := 5) (off := 0) (p := []) (c := .d (eA22 a2)) (z := .d (eA22 a2)) (by rfl) rfl ty23 (by rfl)) rfl rfl rfl hc79 (.c rfl .nil) (.cons rfl .nil) ?_
                  obtain ⟨y84, hy85, h⟩ := bind_some h
                  refine .gv (f_callP hgl (by rfl) en9 rfl (by rfl) (by rfl) (by rfl) (F9_path_Shared_ok hy85)) rfl rfl rfl hc79 (.c rfl (.c rfl .nil)) .nil ?_
                  refine .gv (f_minI (by rfl)) rfl rfl rfl hc79 (.c rfl (.c rfl .nil)) .nil ?_
                  refine .gv (f_binI (by rfl) rfl (by rfl)) rfl rfl rfl hc79 (.c rfl (.c rfl .nil)) .nil ?_
                  refine .v (f_pick_true (by rfl) hc79) rfl (.c rfl (.c rfl .nil)) .nil ?_
                  refine .v (f_move (by rfl)) rfl (.c rfl .nil) .nil ?_
                  rcases Bool.eq_false_or_eq_true (decide (y80 ≥ (if y84 < y82 then y84 else y82))) with hc86 | hc86
                  · replace h := ite_t hc86 h
                    refine .gv (f_load (n := 0) (o := 3) (off := 0) (p := []) (c := .d (eA22 a0)) (z := .d (eA22 a0)) (by rfl) rfl ty23 (by rfl)) rfl rfl rfl hc86 (.c rfl .nil) (.cons rfl .nil) ?_
                    refine .gv (f_load (n := 0) (o := 4) (off := 0) (p := []) (c := .d (eA22 a1)) (z := .d (eA22 a1)) (by rfl) rfl ty23 (by rfl)) rfl rfl rfl hc86 (.c rfl .nil) (.cons rfl .nil) ?_
                    obtain ⟨y87, hy88, h⟩ := bind_some h
                    refine .gv (f_callP hgl (by rfl) en9 rfl (by rfl) (by rfl) (by rfl) (F9_path_Shared_ok hy88)) rfl rfl rfl hc86 (.c rfl (.c rfl .nil)) .nil ?_
                    refine .gv (f_load (n := 0) (o := 4) (off := 0) (p := []) (c := .d (eA22 a1)) (z := .d (eA22 a1)) (by rfl) rfl ty23 (by rfl)) rfl rfl rfl hc86 (.c rfl .nil) (.cons rfl .nil) ?_
                    refine .gv (f_load (n := 0) (o := 3) (off := 0) (p := []) (c := .d (eA22 a0)) (z := .d (eA22 a0)) (by rfl) rfl ty23 (by rfl)) rfl rfl rfl hc86 (.c rfl .nil) (.cons rfl .nil) ?_
                    obtain ⟨y89, hy90, h⟩ := bind_some h
                    refine .gv (f_callP hgl (by rfl) en9 rfl (by rfl) (by rfl) (by rfl) (F9_path_Shared_ok hy90)) rfl rfl rfl hc86 (.c rfl (.c rfl .nil)) .nil ?_
                    refine .gv (f_binI (by rfl) rfl (by rfl)) rfl rfl rfl hc86 (.c rfl (.c rfl .nil)) .nil ?_
                    refine .v (f_pick_true (by rfl) hc86) rfl (.c rfl (.c rfl .nil)) .nil ?_
                    refine .v (f_move (by rfl)) rfl (.c rfl .nil) .nil ?_
                    rcases Bool.eq_false_or_eq_true (y87 == y89) with hc91 | hc91
                    · replace h := ite_t hc91 h
                      refine .gv (f_load (n := 0) (o := 3) (off := 0) (p := []) (c := .d (eA22 a0)) (z := .d (eA22 a0)) (by rfl) rfl ty23 (by rfl)) rfl rfl rfl hc91 (.c rfl .nil) (.cons rfl .nil) ?_
                      refine .gv (f_load (n := 0) (o := 4) (off := 0) (p := []) (c := .d (eA22 a1)) (z := .d (eA22 a1)) (by rfl) rfl ty23 (by rfl)) rfl rfl rfl hc91 (.c rfl .nil) (.cons rfl .nil) ?_
                      obtain ⟨y92, hy93, h⟩ := bind_some h
                      refine .gv (f_callP hgl (by rfl) en9 rfl (by rfl) (by rfl) (by rfl) (F9_path_Shared_ok hy93)) rfl rfl rfl hc91 (.c rfl (.c rfl .nil)) .nil ?_
                      refine .gv (f_binI (by rfl) rfl (by rfl)) rfl rfl rfl hc91 (.c rfl (.c rfl .nil)) .nil ?_
                      refine .gv (f_load (n := 0) (o := 3) (off := 0) (p := []) (c := .d (eA22 a0)) (z := .d (eA22 a0)) (by rfl) rfl ty23 (by rfl)) rfl rfl rfl hc91 (.c rfl .nil) (.cons rfl .nil) ?_
                      refine .gv (f_load (n := 0) (o := 4) (off := 0) (p := []) (c := .d (eA22 a1)) (z := .d (eA22 a1)) (by rfl) rfl ty23 (by rfl)) rfl rfl rfl hc91 (.c rfl .nil) (.cons rfl .nil) ?_
                      refine .gv (f_eqlT (by rfl) (fit23 _) (fit23 _) (by rfl) (by rfl) gd23 (eq_eA22 _ _)) rfl rfl rfl hc91 (.c rfl (.c rfl .nil)) .nil ?_
                      refine .gv (f_eqlB (by rfl) un4) rfl rfl rfl hc91 (.c rfl (.c rfl .nil)) .nil ?_
                      refine .v (f_pick_true (by rfl) hc91) rfl (.c rfl (.c rfl .nil)) .nil ?_
                      refine .v (f_assign (by rfl)) rfl (.c rfl .nil) .nil ?_
                      refine .nil (by kernel_rfl) ?_
                      refine aw_ret ?_
                      obtain rfl := Option.some.inj h
                      exact aq_finp hb0 rfl (.tmp rfl (by rfl) .nil) (by rfl) rfl ⟨rfl, rfl⟩
                    · replace h := ite_f hc91 h
                      refine .off rfl rfl rfl hc91 rfl (by rfl) ?_
                      refine .off rfl rfl rfl hc91 rfl (by rfl) ?_
                      refine .off rfl rfl rfl hc91 rfl (by rfl) ?_
                      refine .off rfl rfl rfl hc91 rfl (by rfl) ?_
                      refine .off rfl rfl rfl hc91 rfl (by rfl) ?_
                      refine .off rfl rfl rfl hc91 rfl (by rfl) ?_
                      refine .off rfl rfl rfl hc91 rfl (by rfl) ?_
                      refine .off rfl rfl rfl hc91 rfl (by rfl) ?_
                      refine .v (f_pick_false (by rfl) hc91) rfl (.c rfl (.c rfl .nil)) .nil ?_
                      refine .v (f_assign (by rfl)) rfl (.c rfl .nil) .nil ?_
                      refine .nil (by kernel_rfl) ?_
                      refine aw_ret ?_
                      obtain rfl := Option.some.inj h
                      exact aq_finp hb0 rfl (.tmp rfl (by rfl) .nil) (by rfl) rfl ⟨rfl, rfl⟩
                  · replace h := ite_f hc86 h
                    refine .off rfl rfl rfl hc86 rfl (by rfl) ?_
                    refine .off rfl rfl rfl hc86 rfl (by rfl) ?_
                    refine .off rfl rfl rfl hc86 rfl (by rfl) ?_
                    refine .off rfl rfl rfl hc86 rfl (by rfl) ?_
                    refine .off rfl rfl rfl hc86 rfl (by rfl) ?_
                    refine .off rfl rfl rfl hc86 rfl (by rfl) ?_
                    refine .off rfl rfl rfl hc86 rfl (by rfl) ?_
                    refine .v (f_pick_false (by rfl) hc86) rfl (.c rfl (.c rfl .nil)) .nil ?_
                    refine .v (f_move (by rfl)) rfl (.c rfl .nil) .nil ?_
                    refine .off rfl rfl rfl rfl rfl (by rfl) ?_
                    refine .off rfl rfl rfl rfl rfl (by rfl) ?_
                    refine .off rfl rfl rfl rfl rfl (by rfl) ?_
                    refine .off rfl rfl rfl rfl rfl (by rfl) ?_
                    refine .off rfl rfl rfl rfl rfl (by rfl) ?_
                    refine .off rfl rfl rfl rfl rfl (by rfl) ?_
                    refine .off rfl rfl rfl rfl rfl (by rfl) ?_
                    refine .off rfl rfl rfl rfl rfl (by rfl) ?_
                    refine .v (f_pick_false (by rfl) rfl) rfl (.c rfl (.c rfl .nil)) .nil ?_
                    refine .v (f_assign (by rfl)) rfl (.c rfl .nil) .nil ?_
                    refine .nil (by kernel_rfl) ?_
                    refine aw_ret ?_
                    obtain rfl := Option.some.inj h
                    exact aq_finp hb0 rfl (.tmp rfl (by rfl) .nil) (by rfl) rfl ⟨rfl, rfl⟩
                · replace h := ite_f hc79 h
                  refine .off rfl rfl rfl hc79 rfl (by rfl) ?_
                  refine .off rfl rfl rfl hc79 rfl (by rfl) ?_
                  refine .off rfl rfl rfl hc79 rfl (by rfl) ?_
                  refine .off rfl rfl rfl hc79 rfl (by rfl) ?_
                  refine .off rfl rfl rfl hc79 rfl (by rfl) ?_
                  refine .off rfl rfl rfl hc79 rfl (by rfl) ?_
                  refine .off rfl rfl rfl hc79 rfl (by rfl) ?_
                  refine .off rfl rfl rfl hc79 rfl (by rfl) ?_
                  refine .off rfl rfl rfl hc79 rfl (by rfl) ?_
                  refine .off rfl rfl rfl hc79 rfl (by rfl) ?_
                  refine .off rfl rfl rfl hc79 rfl (by rfl) ?_
                  refine .v (f_pick_false (by rfl) hc79) rfl (.c rfl (.c rfl .nil)) .nil ?_
                  refine .v (f_move (by rfl)) rfl (.c rfl .nil) .nil ?_
                  refine .off rfl rfl rfl rfl rfl (by rfl) ?_
                  refine .off rfl rfl rfl rfl rfl (by rfl) ?_
                  refine .off rfl rfl rfl rfl rfl (by rfl) ?_
                  refine .off rfl rfl rfl rfl rfl (by rfl) ?_
                  refine .off rfl rfl rfl rfl rfl (by rfl) ?_
                  refine .off rfl rfl rfl rfl rfl (by rfl) ?_
                  refine .off rfl rfl rfl rfl rfl (by rfl) ?_
                  refine .v (f_pick_false (by rfl) rfl) rfl (.c rfl (.c rfl .nil)) .nil ?_
                  refine .v (f_move (by rfl)) rfl (.c rfl .nil) .nil ?_
                  refine .off rfl rfl rfl rfl rfl (by rfl) ?_
                  refine .off rfl rfl rfl rfl rfl (by rfl) ?_
                  refine .off rfl rfl rfl rfl rfl (by rfl) ?_
                  refine .off rfl rfl rfl rfl rfl (by rfl) ?_
                  refine .off rfl rfl rfl rfl rfl (by rfl) ?_
                  refine .off rfl rfl rfl rfl rfl (by rfl) ?_
                  refine .off rfl rfl rfl rfl rfl (by rfl) ?_
                  refine .off rfl rfl rfl rfl rfl (by rfl) ?_
                  refine .v (f_pick_false (by rfl) rfl) rfl (.c rfl (.c rfl .nil)) .nil ?_
                  refine .v (f_assign (by rfl)) rfl (.c rfl .nil) .nil ?_
                  refine .nil (by kernel_rfl) ?_
                  refine aw_ret ?_
                  obtain rfl := Option.some.inj h
                  exact aq_finp hb0 rfl (.tmp rfl (by rfl) .nil) (by rfl) rfl ⟨rfl, rfl⟩
            · replace h := ite_f hc75 h
              refine .off rfl rfl rfl hc75 rfl (by rfl) ?_
              refine .off rfl rfl rfl hc75 rfl (by rfl) ?_
              refine .off rfl rfl rfl hc75 rfl (by rfl) ?_
              refine .off rfl rfl rfl hc75 rfl (by rfl) ?_
              refine .v (f_pick_false (by rfl) hc75) rfl (.c rfl (.c rfl .nil)) .nil ?_
              refine .nil (aq_then ?_)
              refine aw_cond rfl (fun hx => absurd (hx.symm.trans rfl) (by simp)) (fun _ => ?_)
              refine aw_skip ?_
              refine aq_then ?_
              refine aw_rds ?_
              refine .v (f_move (by rfl)) rfl (.c rfl .nil) .nil ?_
              refine .v (f_move (by rfl)) rfl (.c rfl .nil) .nil ?_
              rcases Bool.eq_false_or_eq_true y1 with hc94 | hc94
              · replace h := ite_t hc94 h
                refine .gv (f_load (n := 0) (o := 3) (off := 0) (p := []) (c := .d (eA22 a0)) (z := .d (eA22 a0)) (by rfl) rfl ty23 (by rfl)) rfl rfl rfl hc94 (.c rfl .nil) (.cons rfl .nil) ?_
                refine .gv (f_load (n := 0) (o := 5) (off := 0) (p := []) (c := .d (eA22 a2)) (z := .d (eA22 a2)) (by rfl) rfl ty23 (by rfl)) rfl rfl rfl hc94 (.c rfl .nil) (.cons rfl .nil) ?_
                obtain ⟨y95, hy96, h⟩ := bind_some h
                refine .gv (f_callP hgl (by rfl) en9 rfl (by rfl) (by rfl) (by rfl) (F9_path_Shared_ok hy96)) rfl rfl rfl hc94 (.c rfl (.c rfl .nil)) .nil ?_
                refine .gv (f_load (n := 0) (o := 3) (off := 0) (p := []) (c := .d (eA22 a0)) (z := .d (eA22 a0)) (by rfl) rfl ty23 (by rfl)) rfl rfl rfl hc94 (.c rfl .nil) (.cons rfl .nil) ?_
                refine .gv (f_load (n := 0) (o := 4) (off := 0) (p := []) (c := .d (eA22 a1)) (z := .d (eA22 a1)) (by rfl) rfl ty23 (by rfl)) rfl rfl rfl hc94 (.c rfl .nil) (.cons rfl .nil) ?_
                obtain ⟨y97, hy98, h⟩ := bind_some h
                refine .gv (f_callP hgl (by rfl) en9 rfl (by rfl) (by rfl) (by rfl) (F9_path_Shared_ok hy98)) rfl rfl rfl hc94 (.c rfl (.c rfl .nil)) .nil ?_
                refine .gv (f_load (n := 0) (o := 4) (off := 0) (p := []) (c := .d (eA22 a1)) (z := .d (eA22 a1)) (by rfl) rfl ty23 (by rfl)) rfl rfl rfl hc94 (.c rfl .nil) (.cons rfl .nil) ?_
                refine .gv (f_load (n := 0) (o := 5) (off := 0) (p := []) (c := .d (eA22 a2)) (z := .d (eA22 a2)) (by rfl) rfl ty23 (by rfl)) rfl rfl rfl hc94 (.c rfl .nil) (.cons rfl .nil) ?_
                obtain ⟨y99, hy100, h⟩ := bind_some h
                refine .gv (f_callP hgl (by rfl) en9 rfl (by rfl) (by rfl) (by rfl) (F9_path_Shared_ok hy100)) rfl rfl rfl hc94 (.c rfl (.c rfl .nil)) .nil ?_
                refine .gv (f_minI (by rfl)) rfl rfl rfl hc94 (.c rfl (.c rfl .nil)) .nil ?_
                refine .gv (f_binI (by rfl) rfl (by rfl)) rfl rfl rfl hc94 (.c rfl (.c rfl .nil)) .nil ?_
                refine .v (f_pick_true (by rfl) hc94) rfl (.c rfl (.c rfl .nil)) .nil ?_
                refine .v (f_move (by rfl)) rfl (.c rfl .nil) .nil ?_
                rcases Bool.eq_false_or_eq_true (decide (y95 ≥ (if y99 < y97 then y99 else y97))) with hc101 | hc101
                · replace h := ite_t hc101 h
                  refine .gv (f_load (n := 0) (o := 3) (off := 0) (p := []) (c := .d (eA22 a0)) (z := .d (eA22 a0)) (by rfl) rfl ty23 (by rfl)) rfl rfl rfl hc101 (.c rfl .nil) (.cons rfl .nil) ?_
                  refine .gv (f_load (n := 0) (o := 4) (off := 0) (p := []) (c := .d (eA22 a1)) (z := .d (eA22 a1)) (by rfl) rfl ty23 (by rfl)) rfl rfl rfl hc101 (.c rfl .nil) (.cons rfl .nil) ?_
                  obtain ⟨y102, hy103, h⟩ := bind_some h
                  refine .gv (f_callP hgl (by rfl) en9 rfl (by rfl) (by rfl) (by rfl) (F9_path_Shared_ok hy103)) rfl rfl rfl hc101 (.c rfl (.c rfl .nil)) .nil ?_
                  refine .gv (f_load (n := 0) (o := 4) (off := 0) (p := []) (c := .d (eA22 a1)) (z := .d (eA22 a1)) (by rfl) rfl ty23 (by rfl)) rfl rfl rfl hc101 (.c rfl .nil) (.cons rfl .nil) ?_
                  refine .gv (f_load (n := 0) (o := 3) (off := 0) (p := []) (c := .d (eA22 a0)) (z := .d (eA22 a0)) (by rfl) rfl ty23 (by rfl)) rfl rfl rfl hc101 (.c rfl .nil) (.cons rfl .nil) ?_
                  obtain ⟨y104, hy105, h⟩ := bind_some h
                  refine .gv (f_callP hgl (by rfl) en9 rfl (by rfl) (by rfl) (by rfl) (F9_path_Shared_ok hy105)) rfl rfl rfl hc101 (.c rfl (.c rfl .nil)) .nil ?_
                  refine .gv (f_binI (by rfl) rfl (by rfl)) rfl rfl rfl hc101 (.c rfl (.c rfl .nil)) .nil ?_
                  refine .v (f_pick_true (by rfl) hc101) rfl (.c rfl (.c rfl .nil)) .nil ?_
                  refine .v (f_move (by rfl)) rfl (.c rfl .nil) .nil ?_
                  rcases Bool.eq_false_or_eq_true (y102 == y104) with hc106 | hc106
                  · replace h := ite_t hc106 h
                    refine .gv (f_load (n := 0) (o := 3) (off := 0) (p := []) (c := .d (eA22 a0)) (z := .d (eA22 a0)) (by rfl) rfl ty23 (by rfl)) rfl rfl rfl hc106 (.c rfl .nil) (.cons rfl .nil) ?_
                    refine .gv (f_load (n := 0) (o := 4) (off := 0) (p := []) (c := .d (eA22 a1)) (z := .d (eA22 a1)) (by rfl) rfl ty23 (by rfl)) rfl rfl rfl hc106 (.c rfl .nil) (.cons rfl .nil) ?_
                    obtain ⟨y107, hy108, h⟩ := bind_some h
                    refine .gv (f_callP hgl (by rfl) en9 rfl (by rfl) (by rfl) (by rfl) (F9_path_Shared_ok hy108)) rfl rfl rfl hc106 (.c rfl (.c rfl .nil)) .nil ?_
                    refine .gv (f_binI (by rfl) rfl (by rfl)) rfl rfl rfl hc106 (.c rfl (.c rfl .nil)) .nil ?_
                    refine .gv (f_load (n := 0) (o := 3) (off := 0) (p := []) (c := .d (eA22 a0)) (z := .d (eA22 a0)) (by rfl) rfl ty23 (by rfl)) rfl rfl rfl hc106 (.c rfl .nil) (.cons rfl .nil) ?_
                    refine .gv (f_load (n := 0) (o := 4) (off := 0) (p := []) (c := .d (eA22 a1)) (z := .d (eA22 a1)) (by rfl) rfl ty23 (by rfl)) rfl rfl rfl hc106 (.c rfl .nil) (.cons rfl .nil) ?_
                    refine .gv (f_eqlT (by rfl) (fit23 _) (fit23 _) (by rfl) (by rfl) gd23 (eq_eA22 _ _)) rfl rfl rfl hc106 (.c rfl (.c rfl .nil)) .nil ?_
                    refine .gv (f_eqlB (by rfl) un4) rfl rfl rfl hc106 (.c rfl (.c rfl .nil)) .nil ?_
                    refine .v (f_pick_true (by rfl) hc106) rfl (.c rfl (.c rfl .nil)) .nil ?_
                    refine .v (f_assign (by rfl)) rfl (.c rfl .nil) .nil ?_
                    refine .nil (by kernel_rfl) ?_
                    refine aw_ret ?_
                    obtain rfl := Option.some.inj h
                    exact aq_finp hb0 rfl (.tmp rfl (by rfl) .nil) (by rfl) rfl ⟨rfl, rfl⟩
                  · replace h := ite_f hc106 h
                    refine .off rfl rfl rfl hc106 rfl (by rfl) ?_
                    refine .off rfl rfl rfl hc106 rfl (by rfl) ?_
                    refine .off rfl rfl rfl hc106 rfl (by rfl) ?_
                    refine .off rfl rfl rfl hc106 rfl (by rfl) ?_
                    refine .off rfl rfl rfl hc106 rfl (by rfl) ?_
                    refine .off rfl rfl rfl hc106 rfl (by rfl) ?_
                    refine .off rfl rfl rfl hc106 rfl (by rfl) ?_
                    refine .off rfl rfl rfl hc106 rfl (by rfl) ?_
                    refine .v (f_pick_false (by rfl) hc106) rfl (.c rfl (.c rfl .nil)) .nil ?_
                    refine .v (f_assign (by rfl)) rfl (.c rfl .nil) .nil ?_
                    refine .nil (by kernel_rfl) ?_
                    refine aw_ret ?_
                    obtain rfl := Option.some.inj h
                    exact aq_finp hb0 rfl (.tmp rfl (by rfl) .nil) (by rfl) rfl ⟨rfl, rfl⟩
                · replace h := ite_f hc101 h
                  refine .off rfl rfl rfl hc101 rfl (by rfl) ?_
                  refine .off rfl rfl rfl hc101 rfl (by rfl) ?_
                  refine .off rfl rfl rfl hc101 rfl (by rfl) ?_
                  refine .off rfl rfl rfl hc101 rfl (by rfl) ?_
                  refine .off rfl rfl rfl hc101 rfl (by rfl) ?_
                  refine .off rfl rfl rfl hc101 rfl (by rfl) ?_
                  refine .off rfl rfl rfl hc101 rfl (by rfl) ?_
                  refine .v (f_pick_false (by rfl) hc101) rfl (.c rfl (.c rfl .nil)) .nil ?_
                  refine .v (f_move (by rfl)) rfl (.c rfl .nil) .nil ?_
                  refine .off rfl rfl rfl rfl rfl (by rfl) ?_
                  refine .off rfl rfl rfl rfl rfl (by rfl) ?_
                  refine .off rfl rfl rfl rfl rfl (by rfl) ?_
                  refine .off rfl rfl rfl rfl rfl (by rfl) ?_
                  refine .off rfl rfl rfl rfl rfl (by rfl) ?_
                  refine .off rfl rfl rfl rfl rfl (by rfl) ?_
                  refine .off rfl rfl rfl rfl rfl (by rfl) ?_
                  refine .off rfl rfl rfl rfl rfl (by rfl) ?_
                  refine .v (f_pick_false (by rfl) rfl) rfl (.c rfl (.c rfl .nil)) .nil ?_
                  refine .v (f_assign (by rfl)) rfl (.c rfl .nil) .nil ?_
                  refine .nil (by kernel_rfl) ?_
                  refine aw_ret ?_
                  obtain rfl := Option.some.inj h
                  exact aq_finp hb0 rfl (.tmp rfl (by rfl) .nil) (by rfl) rfl ⟨rfl, rfl⟩
              · replace h := ite_f hc94 h
                refine .off rfl rfl rfl hc94 rfl (by rfl) ?_
                refine .off rfl rfl rfl hc94 rfl (by rfl) ?_
                refine .off rfl rfl rfl hc94 rfl (by rfl) ?_
                refine .off rfl rfl rfl hc94 rfl (by rfl) ?_
                refine .off rfl rfl rfl hc94 rfl (by rfl) ?_
                refine .off rfl rfl rfl hc94 rfl (by rfl) ?_
                refine .off rfl rfl rfl hc94 rfl (by rfl) ?_
                refine .off rfl rfl rfl hc94 rfl (by rfl) ?_
                refine .off rfl rfl rfl hc94 rfl (by rfl) ?_
                refine .off rfl rfl rfl hc94 rfl (by rfl) ?_
                refine .off rfl rfl rfl hc94 rfl (by rfl) ?_
                refine .v (f_pick_false (by rfl) hc94) rfl (.c rfl (.c rfl .nil)) .nil ?_
                refine .v (f_move (by rfl)) rfl (.c rfl .nil) .nil ?_
                refine .off rfl rfl rfl rfl rfl (by rfl) ?_
                refine .off rfl rfl rfl rfl rfl (by rfl) ?_
                refine .off rfl rfl rfl rfl rfl (by rfl) ?_
                refine .off rfl rfl rfl rfl rfl (by rfl) ?_
                refine .off rfl rfl rfl rfl rfl (by rfl) ?_
                refine .off rfl rfl rfl rfl rfl (by rfl) ?_
                refine .off rfl rfl rfl rfl rfl (by rfl) ?_
                refine .v (f_pick_false (by rfl) rfl) rfl (.c rfl (.c rfl .nil)) .nil ?_
                refine .v (f_move (by rfl)) rfl (.c rfl .nil) .nil ?_
                refine .off rfl rfl rfl rfl rfl (by rfl) ?_
                refine .off rfl rfl rfl rfl rfl (by rfl) ?_
                refine .off rfl rfl rfl rfl rfl (by rfl) ?_
                refine .off rfl rfl rfl rfl rfl (by rfl) ?_
                refine .off rfl rfl rfl rfl rfl (by rfl) ?_
                refine .off rfl rfl rfl rfl rfl (by rfl) ?_
                refine .off rfl rfl rfl rfl rfl (by rfl) ?_
                refine .off rfl rfl rfl rfl rfl (by rfl) ?_
                refine .v (f_pick_false (by rfl) rfl) rfl (.c rfl (.c rfl .nil)) .nil ?_
                refine .v (f_assign (by rfl)) rfl (.c rfl .nil) .nil ?_
                refine .nil (by kernel_rfl) ?_
                refine aw_ret ?_
                obtain rfl := Option.some.inj h
                exact aq_finp hb0 rfl (.tmp rfl (by rfl) .nil) (by rfl) rfl ⟨rfl, rfl⟩
          · replace h := ite_f hc72 h
            refine .off rfl rfl rfl hc72 rfl (by rfl) ?_
            refine .off rfl rfl rfl hc72 rfl (by rfl) ?_
            refine .off rfl rfl rfl hc72 rfl (by rfl) ?_
            refine .v (f_pick_false (by rfl) hc72) rfl (.c rfl (.c rfl .nil)) .nil ?_
            refine .v (f_move (by rfl)) rfl (.c rfl .nil) .nil ?_
            refine .off rfl rfl rfl rfl rfl (by rfl) ?_
            refine .off rfl rfl rfl rfl rfl (by rfl) ?_
            refine .off rfl rfl rfl rfl rfl (by rfl) ?_
            refine .off rfl rfl rfl rfl rfl (by rfl) ?_
            refine .v (f_pick_false (by rfl) rfl) rfl (.c rfl (.c rfl .nil)) .nil ?_
            refine .nil (aq_then ?_)
            refine aw_cond rfl (fun hx => absurd (hx.symm.trans rfl) (by simp)) (fun _ => ?_)
            refine aw_skip ?_
            refine aq_then ?_
            refine aw_rds ?_
            refine .v (f_move (by rfl)) rfl (.c rfl .nil) .nil ?_
            refine .v (f_move (by rfl)) rfl (.c rfl .nil) .nil ?_
            rcases Bool.eq_false_or_eq_true y1 with hc109 | hc109
            · replace h := ite_t hc109 h
              refine .gv (f_load (n := 0) (o := 3) (off := 0) (p := []) (c := .d (eA22 a0)) (z := .d (eA22 a0)) (by rfl) rfl ty23 (by rfl)) rfl rfl rfl hc109 (.c rfl .nil) (.cons rfl .nil) ?_
              refine .gv (f_load (n := 0) (o := 5) (off := 0) (p := []) (c := .d (eA22 a2)) (z := .d (eA22 a2)) (by rfl) rfl ty23 (by rfl)) rfl rfl rfl hc109 (.c rfl .nil) (.cons rfl .nil) ?_
              obtain ⟨y110, hy111, h⟩ := bind_some h
              refine .gv (f_callP hgl (by rfl) en9 rfl (by rfl) (by rfl) (by rfl) (F9_path_Shared_ok hy111)) rfl rfl rfl hc109 (.c rfl (.c rfl .nil)) .nil ?_
              refine .gv (f_load (n := 0) (o := 3) (off := 0) (p := []) (c := .d (eA22 a0)) (z := .d (eA22 a0)) (by rfl) rfl ty23 (by rfl)) rfl rfl rfl hc109 (.c rfl .nil) (.cons rfl .nil) ?_
              refine .gv (f_load (n := 0) (o := 4) (off := 0) (p := []) (c := .d (eA22 a1)) (z := .d (eA22 a1)) (by rfl) rfl ty23 (by rfl)) rfl rfl rfl hc109 (.c rfl .nil) (.cons rfl .nil) ?_
              obtain ⟨y112, hy113, h⟩ := bind_some h
              refine .gv (f_callP hgl (by rfl) en9 rfl (by rfl) (by rfl) (by rfl) (F9_path_Shared_ok hy113)) rfl rfl rfl hc109 (.c rfl (.c rfl .nil)) .nil ?_
              refine .gv (f_load (n := 0) (o := 4) (off := 0) (p := []) (c := .d (eA22 a1)) (z := .d (eA22 a1)) (by rfl) rfl ty23 (by rfl)) rfl rfl rfl hc109 (.c rfl .nil) (.cons rfl .nil) ?_
              refine .gv (f_load (n := 0) (o := 5) (off := 0) (p := []) (c := .d (eA22 a2)) (z := .d (eA22 a2)) (by rfl) rfl ty23 (by rfl)) rfl rfl rfl hc109 (.c rfl .nil) (.cons rfl .nil) ?_
              obtain ⟨y114, hy115, h⟩ := bind_some h
              refine .gv (f_callP hgl (by rfl) en9 rfl (by rfl) (by rfl) (by rfl) (F9_path_Shared_ok hy115)) rfl rfl rfl hc109 (.c rfl (.c rfl .nil)) .nil ?_
              refine .gv (f_minI (by rfl)) rfl rfl rfl hc109 (.c rfl (.c rfl .nil)) .nil ?_
              refine .gv (f_binI (by rfl) rfl (by rfl)) rfl rfl rfl hc109 (.c rfl (.c rfl .nil)) .nil ?_
              refine .v (f_pick_true (by rfl) hc109) rfl (.c rfl (.c rfl .nil)) .nil ?_
              refine .v (f_move (by rfl)) rfl (.c rfl .nil) .nil ?_
              rcases Bool.eq_false_or_eq_true (decide (y110 ≥ (if y114 < y112 then y114 else y112))) with hc116 | hc116
              · replace h := ite_t hc116 h
                refine .gv (f_load (n := 0) (o := 3) (off := 0) (p := []) (c := .d (eA22 a0)) (z := .d (eA22 a0)) (by rfl) rfl ty23 (by rfl)) rfl rfl rfl hc116 (.c rfl .nil) (.cons rfl .nil) ?_
                refine .gv (f_load (n := 0) (o := 4) (off := 0) (p := []) (c := .d (eA22 a1)) (z := .d (eA22 a1)) (by rfl) rfl ty23 (by rfl)) rfl rfl rfl hc116 (.c rfl .nil) (.cons rfl .nil) ?_
                obtain ⟨y117, hy118, h⟩ := bind_some h
                refine .gv (f_callP hgl (by rfl) en9 rfl (by rfl) (by rfl) (by rfl) (F9_path_Shared_ok hy118)) rfl rfl rfl hc116 (.c rfl (.c rfl .nil)) .nil ?_
                refine .gv (f_load (n := 0) (o := 4) (off := 0) (p := []) (c := .d (eA22 a1)) (z := .d (eA22 a1)) (by rfl) rfl ty23 (by rfl)) rfl rfl rfl hc116 (.c rfl .nil) (.cons rfl .nil) ?_
                refine .gv (f_load (n := 0) (o := 3) (off := 0) (p := []) (c := .d (eA22 a0)) (z := .d (eA22 a0)) (by rfl) rfl ty23 (by rfl)) rfl rfl rfl hc116 (.c rfl .nil) (.cons rfl .nil) ?_
                obtain ⟨y119, hy120, h⟩ := bind_some h
                refine .gv (f_callP hgl (by rfl) en9 rfl (by rfl) (by rfl) (by rfl) (F9_path_Shared_ok hy120)) rfl rfl rfl hc116 (.c rfl (.c rfl .nil)) .nil ?_
                refine .gv (f_binI (by rfl) rfl (by rfl)) rfl rfl rfl hc116 (.c rfl (.c rfl .nil)) .nil ?_
                refine .v (f_pick_true (by rfl) hc116) rfl (.c rfl (.c rfl .nil)) .nil ?_
                refine .v (f_move (by rfl)) rfl (.c rfl .nil) .nil ?_
                rcases Bool.eq_false_or_eq_true (y117 == y119) with hc121 | hc121
                · replace h := ite_t hc121 h
                  refine .gv (f_load (n := 0) (o := 3) (off := 0) (p := []) (c := .d (eA22 a0)) (z := .d (eA22 a0)) (by rfl) rfl ty23 (by rfl)) rfl rfl rfl hc121 (.c rfl .nil) (.cons rfl .nil) ?_
                  refine .gv (f_load (n := 0) (o := 4) (off := 0) (p := []) (c := .d (eA22 a1)) (z := .d (eA22 a1)) (by rfl) rfl ty23 (by rfl)) rfl rfl rfl hc121 (.c rfl .nil) (.cons rfl .nil) ?_
                  obtain ⟨y122, hy123, h⟩ := bind_some h
                  refine .gv (f_callP hgl (by rfl) en9 rfl (by rfl) (by rfl) (by rfl) (F9_path_Shared_ok hy123)) rfl rfl rfl hc121 (.c rfl (.c rfl .nil)) .nil ?_
                  refine .gv (f_binI (by rfl) rfl (by rfl)) rfl rfl rfl hc121 (.c rfl (.c rfl .nil)) .nil ?_
                  refine .gv (f_load (n := 0) (o := 3) (off := 0) (p := []) (c := .d (eA22 a0)) (z := .d (eA22 a0)) (by rfl) rfl ty23 (by rfl)) rfl rfl rfl hc121 (.c rfl .nil) (.cons rfl .nil) ?_
                  refine .gv (f_load (n := 0) (o := 4) (off := 0) (p := []) (c := .d (eA22 a1)) (z := .d (eA22 a1)) (by rfl) rfl ty23 (by rfl)) rfl rfl rfl hc121 (.c rfl .nil) (.cons rfl .nil) ?_
                  refine .gv (f_eqlT (by rfl) (fit23 _) (fit23 _) (by rfl) (by rfl) gd23 (eq_eA22 _ _)) rfl rfl rfl hc121 (.c rfl (.c rfl .nil)) .nil ?_
                  refine .gv (f_eqlB (by rfl) un4) rfl rfl rfl hc121 (.c rfl (.c rfl .nil)) .nil ?_
                  refine .v (f_pick_true (by rfl) hc121) rfl (.c rfl (.c rfl .nil)) .nil ?_
                  refine .v (f_assign (by rfl)) rfl (.c rfl .nil) .nil ?_
                  refine .nil (by kernel_rfl) ?_
                  refine aw_ret ?_
                  obtain rfl := Option.some.inj h
                  exact aq_finp hb0 rfl (.tmp rfl (by rfl) .nil) (by rfl) rfl ⟨rfl, rfl⟩
                · replace h := ite_f hc121 h
                  refine .off rfl rfl rfl hc121 rfl (by rfl) ?_
                  refine .off rfl rfl rfl hc121 rfl (by rfl) ?_
                  refine .off rfl rfl rfl hc121 rfl (by rfl) ?_
                  refine .off rfl rfl rfl hc121 rfl (by rfl) ?_
                  refine .off rfl rfl rfl hc121 rfl (by rfl) ?_
                  refine .off rfl rfl rfl hc121 rfl (by rfl) ?_
                  refine .off rfl rfl rfl hc121 rfl (by rfl) ?_
                  refine .off rfl rfl rfl hc121 rfl (by rfl) ?_
                  refine .v (f_pick_false (by rfl) hc121) rfl (.c rfl (.c rfl .nil)) .nil ?_
                  refine .v (f_assign (by rfl)) rfl (.c rfl .nil) .nil ?_
                  refine .nil (by kernel_rfl) ?_
                  refine aw_ret ?_
                  obtain rfl := Option.some.inj h
                  exact aq_finp hb0 rfl (.tmp rfl (by rfl) .nil) (by rfl) rfl ⟨rfl, rfl⟩
              · replace h := ite_f hc116 h
                refine .off rfl rfl rfl hc116 rfl (by rfl) ?_
                refine .off rfl rfl rfl hc116 rfl (by rfl) ?_
                refine .off rfl rfl rfl hc116 rfl (by rfl) ?_
                refine .off rfl rfl rfl hc116 rfl (by rfl) ?_
                refine .off rfl rfl rfl hc116 rfl (by rfl) ?_
                refine .off rfl rfl rfl hc116 rfl (by rfl) ?_
                refine .off rfl rfl rfl hc116 rfl (by rfl) ?_
                refine .v (f_pick_false (by rfl) hc116) rfl (.c rfl (.c rfl .nil)) .nil ?_
                refine .v (f_move (by rfl)) rfl (.c rfl .nil) .nil ?_
                refine .off rfl rfl rfl rfl rfl (by rfl) ?_
                refine .off rfl rfl rfl rfl rfl (by rfl) ?_
                refine .off rfl rfl rfl rfl rfl (by rfl) ?_
                refine .off rfl rfl rfl rfl rfl (by rfl) ?_
                refine .off rfl rfl rfl rfl rfl (by rfl) ?_
                refine .off rfl rfl rfl rfl rfl (by rfl) ?_
                refine .off rfl rfl rfl rfl rfl (by rfl) ?_
                refine .off rfl rfl rfl rfl rfl (by rfl) ?_
                refine .v (f_pick_false (by rfl) rfl) rfl (.c rfl (.c rfl .nil)) .nil ?_
                refine .v (f_assign (by rfl)) rfl (.c rfl .nil) .nil ?_
                refine .nil (by kernel_rfl) ?_
                refine aw_ret ?_
                obtain rfl := Option.some.inj h
                exact aq_finp hb0 rfl (.tmp rfl (by rfl) .nil) (by rfl) rfl ⟨rfl, rfl⟩
            · replace h := ite_f hc109 h
              refine .off rfl rfl rfl hc109 rfl (by rfl) ?_
              refine .off rfl rfl rfl hc109 rfl (by rfl) ?_
              refine .off rfl rfl rfl hc109 rfl (by rfl) ?_
              refine .off rfl rfl rfl hc109 rfl (by rfl) ?_
              refine .off rfl rfl rfl hc109 rfl (by rfl) ?_
              refine .off rfl rfl rfl hc109 rfl (by rfl) ?_
              refine .off rfl rfl rfl hc109 rfl (by rfl) ?_
              refine .off rfl rfl rfl hc109 rfl (by rfl) ?_
              refine .off rfl rfl rfl hc109 rfl (by rfl) ?_
              refine .off rfl rfl rfl hc109 rfl (by rfl) ?_
              refine .off rfl rfl rfl hc109 rfl (by rfl) ?_
              refine .v (f_pick_false (by rfl) hc109) rfl (.c rfl (.c rfl .nil)) .nil ?_
              refine .v (f_move (by rfl)) rfl (.c rfl .nil) .nil ?_
              refine .off rfl rfl rfl rfl rfl (by rfl) ?_
              refine .off rfl rfl rfl rfl rfl (by rfl) ?_
              refine .off rfl rfl rfl rfl rfl (by rfl) ?_
              refine .off rfl rfl rfl rfl rfl (by rfl) ?_
              refine .off rfl rfl rfl rfl rfl (by rfl) ?_
              refine .off rfl rfl rfl rfl rfl (by rfl) ?_
              refine .off rfl rfl rfl rfl rfl (by rfl) ?_
              refine .v (f_pick_false (by rfl) rfl) rfl (.c rfl (.c rfl .nil)) .nil ?_
              refine .v (f_move (by rfl)) rfl (.c rfl .nil) .nil ?_
              refine .off rfl rfl rfl rfl rfl (by rfl) ?_
              refine .off rfl rfl rfl rfl rfl (by rfl) ?_
              refine .off rfl rfl rfl rfl rfl (by rfl) ?_
              refine .off rfl rfl rfl rfl rfl (by rfl) ?_
              refine .off rfl rfl rfl rfl rfl (by rfl) ?_
              refine .off rfl rfl rfl rfl rfl (by rfl) ?_
              refine .off rfl rfl rfl rfl rfl (by rfl) ?_
              refine .off rfl rfl rfl rfl rfl (by rfl) ?_
              refine .v (f_pick_false (by rfl) rfl) rfl (.c rfl (.c rfl .nil)) .nil ?_
              refine .v (f_assign (by rfl)) rfl (.c rfl .nil) .nil ?_
              refine .nil (by kernel_rfl) ?_
              refine aw_ret ?_
              obtain rfl := Option.some.inj h
              exact aq_finp hb0 rfl (.tmp rfl (by rfl) .nil) (by rfl) rfl ⟨rfl, rfl⟩
  · replace h := ite_f hc5 h
    refine .off rfl rfl rfl hc5 rfl (by rfl) ?_
    refine .off rfl rfl rfl hc5 rfl (by rfl) ?_
    refine .off rfl rfl rfl hc5 rfl (by rfl) ?_
    refine .v (f_pick_false (by rfl) hc5) rfl (.c rfl (.c rfl .nil)) .nil ?_
    refine .v (f_move (by rfl)) rfl (.c rfl .nil) .nil ?_
    refine .gv (f_load (n := 0) (o := 3) (off := 0) (p := []) (c := .d (eA22 a0)) (z := .d (eA22 a0)) (by rfl) rfl ty23 (by rfl)) rfl rfl rfl rfl (.c rfl .nil) (.cons rfl .nil) ?_
    refine .gv (f_load (n := 0) (o := 4) (off := 0) (p := []) (c := .d (eA22 a1)) (z := .d (eA22 a1)) (by rfl) rfl ty23 (by rfl)) rfl rfl rfl rfl (.c rfl .nil) (.cons rfl .nil) ?_
    refine .gv (f_eqlT (by rfl) (fit23 _) (fit23 _) (by rfl) (by rfl) gd23 (eq_eA22 _ _)) rfl rfl rfl rfl (.c rfl (.c rfl .nil)) .nil ?_
    refine .gv (f_load (n := 0) (o := 3) (off := 0) (p := []) (c := .d (eA22 a0)) (z := .d (eA22 a0)) (by rfl) rfl ty23 (by rfl)) rfl rfl rfl rfl (.c rfl .nil) (.cons rfl .nil) ?_
    refine .gv (f_load (n := 0) (o := 4) (off := 0) (p := []) (c := .d (eA22 a1)) (z := .d (eA22 a1)) (by rfl) rfl ty23 (by rfl)) rfl rfl rfl rfl (.c rfl .nil) (.cons rfl .nil) ?_
    obtain ⟨y124, hy125, h⟩ := bind_some h
    refine .gv (f_callP hgl (by rfl) en8 rfl (by rfl) (by rfl) (by rfl) (F8_path_Ahead_ok hy125)) rfl rfl rfl rfl (.c rfl (.c rfl .nil)) .nil ?_
    refine .gv (f_move (by rfl)) rfl rfl rfl rfl (.c rfl .nil) .nil ?_
    rcases Bool.eq_false_or_eq_true y124 with hc126 | hc126
    · replace h := ite_t hc126 h
      refine .off rfl rfl rfl hc126 rfl (by rfl) ?_
      refine .off rfl rfl rfl hc126 rfl (by rfl) ?_
      refine .off rfl rfl rfl hc126 rfl (by rfl) ?_
      refine .gv (f_pick_true (by rfl) hc126) rfl rfl rfl rfl (.c rfl (.c rfl .nil)) .nil ?_
      refine .gv (f_eqlB (by rfl) un4) rfl rfl rfl rfl (.c rfl (.c rfl .nil)) .nil ?_
      refine .v (f_pick_false (by rfl) rfl) rfl (.c rfl (.c rfl .nil)) .nil ?_
      refine .nil (by kernel_rfl) ?_
      refine aw_cond rfl (fun hc127 => ?_) (fun hc127 => ?_)
      · replace h := ite_t hc127 h
        refine aw_rs ?_
        refine .v (f_assign (by rfl)) rfl (.c rfl .nil) .nil ?_
        refine .nil (aq_then ?_)
        refine aw_ret ?_
        refine aq_then_ret ?_
        obtain rfl := Option.some.inj h
        exact aq_finp hb0 rfl (.tmp rfl (by rfl) .nil) (by rfl) rfl ⟨rfl, rfl⟩
      · replace h := ite_f hc127 h
        refine aw_skip ?_
        refine aq_then ?_
        refine aw_seq ?_
        refine aw_rs ?_
        refine .v (f_load (n := 0) (o := 3) (off := 0) (p := []) (c := .d (eA22 a0)) (z := .d (eA22 a0)) (by rfl) rfl ty23 (by rfl)) rfl (.c rfl .nil) (.cons rfl .nil) ?_
        refine .v (f_load (n := 0) (o := 4) (off := 0) (p := []) (c := .d (eA22 a1)) (z := .d (eA22 a1)) (by rfl) rfl ty23 (by rfl)) rfl (.c rfl .nil) (.cons rfl .nil) ?_
        obtain ⟨y128, hy129, h⟩ := bind_some h
        refine .v (f_callP hgl (by rfl) en8 rfl (by rfl) (by rfl) (by rfl) (F8_path_Ahead_ok hy129)) rfl (.c rfl (.c rfl .nil)) .nil ?_
        refine .v (f_move (by rfl)) rfl (.c rfl .nil) .nil ?_
        rcases Bool.eq_false_or_eq_true y128 with hc130 | hc130
        · replace h := ite_t hc130 h
          refine .gv (f_load (n := 0) (o := 4) (off := 0) (p := []) (c := .d (eA22 a1)) (z := .d (eA22 a1)) (by rfl) rfl ty23 (by rfl)) rfl rfl rfl hc130 (.c rfl .nil) (.cons rfl .nil) ?_
          refine .gv (f_load (n := 0) (o := 5) (off := 0) (p := []) (c := .d (eA22 a2)) (z := .d (eA22 a2)) (by rfl) rfl ty23 (by rfl)) rfl rfl rfl hc130 (.c rfl .nil) (.cons rfl .nil) ?_
          obtain ⟨y131, hy132, h⟩ := bind_some h
          refine .gv (f_callP hgl (by rfl) en8 rfl (by rfl) (by rfl) (by rfl) (F8_path_Ahead_ok hy132)) rfl rfl rfl hc130 (.c rfl (.c rfl .nil)) .nil ?_
          refine .v (f_pick_true (by rfl) hc130) rfl (.c rfl (.c rfl .nil)) .nil ?_
          refine .v (f_move (by rfl)) rfl (.c rfl .nil) .nil ?_
          rcases Bool.eq_false_or_eq_true y131 with hc133 | hc133
          · replace h := ite_t hc133 h
            refine .gv (f_load (n := 0) (o := 3) (off := 0) (p := []) (c := .d (eA22 a0)) (z := .d (eA22 a0)) (by rfl) rfl ty23 (by rfl)) rfl rfl rfl hc133 (.c rfl .nil) (.cons rfl .nil) ?_
            refine .gv (f_load (n := 0) (o := 5) (off := 0) (p := []) (c := .d (eA22 a2)) (z := .d (eA22 a2)) (by rfl) rfl ty23 (by rfl)) rfl rfl rfl hc133 (.c rfl .nil) (.cons rfl .nil) ?_
            obtain ⟨y134, hy135, h⟩ := bind_some h
            refine .gv (f_callP hgl (by rfl) en8 rfl (by rfl) (by rfl) (by rfl) (F8_path_Ahead_ok hy135)) rfl rfl rfl hc133 (.c rfl (.c rfl .nil)) .nil ?_
            refine .gv (f_not (by rfl)) rfl rfl rfl hc133 (.c rfl .nil) .nil ?_
            refine .v (f_pick_true (by rfl) hc133) rfl (.c rfl (.c rfl .nil)) .nil ?_
            refine .nil (aq_then ?_)
            refine aw_cond rfl (fun hc136 => ?_) (fun hc136 => ?_)
            · replace h := ite_t hc136 h
              refine aw_rs ?_
              refine .v (f_assign (by rfl)) rfl (.c rfl .nil) .nil ?_
              refine .nil (aq_then ?_)
              refine aw_ret ?_
              refine aq_then_ret ?_
              obtain rfl := Option.some.inj h
              exact aq_finp hb0 rfl (.tmp rfl (by rfl) .nil) (by rfl) rfl ⟨rfl, rfl⟩
            · replace h := ite_f hc136 h
              refine aw_skip ?_
              refine aq_then ?_
              refine aw_rds ?_
              refine .v (f_move (by rfl)) rfl (.c rfl .nil) .nil ?_
              refine .v (f_move (by rfl)) rfl (.c rfl .nil) .nil ?_
              rcases Bool.eq_false_or_eq_true y1 with hc137 | hc137
              · replace h := ite_t hc137 h
                refine .gv (f_load (n := 0) (o := 3) (off := 0) (p := []) (c := .d (eA22 a0)) (z := .d (eA22 a0)) (by rfl) rfl ty23 (by rfl)) rfl rfl rfl hc137 (.c rfl .nil) (.cons rfl .nil) ?_
                refine .gv (f_load (n := 0) (o := 5) (off := 0) (p := []) (c := .d (eA22 a2)) (z := .d (eA22 a2)) (by rfl) rfl ty23 (by rfl)) rfl rfl rfl hc137 (.c rfl .nil) (.cons rfl .nil) ?_
                obtain ⟨y138, hy139, h⟩ := bind_some h
                refine .gv (f_callP hgl (by rfl) en9 rfl (by rfl) (by rfl) (by rfl) (F9_path_Shared_ok hy139)) rfl rfl rfl hc137 (.c rfl (.c rfl .nil)) .nil ?_
                refine .gv (f_load (n := 0) (o := 3) (off := 0) (p := []) (c := .d (eA22 a0)) (z := .d (eA22 a0)) (by rfl) rfl ty23 (by rfl)) rfl rfl rfl hc137 (.c rfl .nil) (.cons rfl .nil) ?_
                refine .gv (f_load (n := 0) (o := 4) (off := 0) (p := []) (c := .d (eA22 a1)) (z := .d (eA22 a1)) (by rfl) rfl ty23 (by rfl)) rfl rfl rfl hc137 (.c rfl .nil) (.cons rfl .nil) ?_
                obtain ⟨y140, hy141, h⟩ := bind_some h
                refine .gv (f_callP hgl (by rfl) en9 rfl (by rfl) (by rfl) (by rfl) (F9_path_Shared_ok hy141)) rfl rfl rfl hc137 (.c rfl (.c rfl .nil)) .nil ?_
                refine .gv (f_load (n := 0) (o := 4) (off := 0) (p := []) (c := .d (eA22 a1)) (z := .d (eA22 a1)) (by rfl) rfl ty23 (by rfl)) rfl rfl rfl hc137 (.c rfl .nil) (.cons rfl .nil) ?_
                refine .gv (f_load (n := 0) (o := 5) (off := 0) (p := []) (c := .d (eA22 a2)) (z := .d (eA22 a2)) (by rfl) rfl ty23 (by rfl)) rfl rfl rfl hc137 (.c rfl .nil) (.cons rfl .nil) ?_
                obtain ⟨y142, hy143, h⟩ := bind_some h
                refine .gv (f_callP hgl (by rfl) en9 rfl (by rfl) (by rfl) (by rfl) (F9_path_Shared_ok hy143)) rfl rfl rfl hc137 (.c rfl (.c rfl .nil)) .nil ?_
                refine .gv (f_minI (by rfl)) rfl rfl rfl hc137 (.c rfl (.c rfl .nil)) .nil ?_
                refine .gv (f_binI (by rfl) rfl (by rfl)) rfl rfl rfl hc137 (.c rfl (.c rfl .nil)) .nil ?_
                refine .v (f_pick_true (by rfl) hc137) rfl (.c rfl (.c rfl .nil)) .nil ?_
                refine .v (f_move (by rfl)) rfl (.c rfl .nil) .nil ?_
                rcases Bool.eq_false_or_eq_true (decide (y138 ≥ (if y142 < y140 then y142 else y140))) with hc144 | hc144
                · replace h := ite_t hc144 h
                  refine .gv (f_load (n := 0) (o := 3) (off := 0) (p := []) (c := .d (eA22 a0)) (z := .d (eA22 a0)) (by rfl) rfl ty23 (by rfl)) rfl rfl rfl hc144 (.c rfl .nil) (.cons rfl .nil) ?_
                  refine .gv (f_load (n := 0) (o := 4) (off := 0) (p := []) (c := .d (eA22 a1)) (z := .d (eA22 a1)) (by rfl) rfl ty23 (by rfl)) rfl rfl rfl hc144 (.c rfl .nil) (.cons rfl .nil) ?_
                  obtain ⟨y145, hy146, h⟩ := bind_some h
                  refine .gv (f_callP hgl (by rfl) en9 rfl (by rfl) (by rfl) (by rfl) (F9_path_Shared_ok hy146)) rfl rfl rfl hc144 (.c rfl (.c rfl .nil)) .nil ?_
                  refine .gv (f_load (n := 0) (o := 4) (off := 0) (p := []) (c := .d (eA22 a1)) (z := .d (eA22 a1)) (by rfl) rfl ty23 (by rfl)) rfl rfl rfl hc144 (.c rfl .nil) (.cons rfl .nil) ?_
                  refine .gv (f_load (n := 0) (o := 3) (off := 0) (p := []) (c := .d (eA22 a0)) (z := .d (eA22 a0)) (by rfl) rfl ty23 (by rfl)) rfl rfl rfl hc144 (.c rfl .nil) (.cons rfl .nil) ?_
                  obtain ⟨y147, hy148, h⟩ := bind_some h
                  refine .gv (f_callP hgl (by rfl) en9 rfl (by rfl) (by rfl) (by rfl) (F9_path_Shared_ok hy148)) rfl rfl rfl hc144 (.c rfl (.c rfl .nil)) .nil ?_
                  refine .gv (f_binI (by rfl) rfl (by rfl)) rfl rfl rfl hc144 (.c rfl (.c rfl .nil)) .nil ?_
                  refine .v (f_pick_true (by rfl) hc144) rfl (.c rfl (.c rfl .nil)) .nil ?_
                  refine .v (f_move (by rfl)) rfl (.c rfl .nil) .nil ?_
                  rcases Bool.eq_false_or_eq_true (y145 == y147) with hc149 | hc149
                  · replace h := ite_t hc149 h
                    refine .gv (f_load (n := 0) (o := 3) (off := 0) (p := []) (c := .d (eA22 a0)) (z := .d (eA22 a0)) (by rfl) rfl ty23 (by rfl)) rfl rfl rfl hc149 (.c rfl .nil) (.cons rfl .nil) ?_
                    refine .gv (f_load (n := 0) (o := 4) (off := 0) (p := []) (c := .d (eA22 a1)) (z := .d (eA22 a1)) (by rfl) rfl ty23 (by rfl)) rfl rfl rfl hc149 (.c rfl .nil) (.cons rfl .nil) ?_
                    obtain ⟨y150, hy151, h⟩ := bind_some h
                    refine .gv (f_callP hgl (by rfl) en9 rfl (by rfl) (by rfl) (by rfl) (F9_path_Shared_ok hy151)) rfl rfl rfl hc149 (.c rfl (.c rfl .nil)) .nil ?_
                    refine .gv (f_binI (by rfl) rfl (by rfl)) rfl rfl rfl hc149 (.c rfl (.c rfl .nil)) .nil ?_
                    refine .gv (f_load (n := 0) (o := 3) (off := 0) (p := []) (c := .d (eA22 a0)) (z := .d (eA22 a0)) (by rfl) rfl ty23 (by rfl)) rfl rfl rfl hc149 (.c rfl .nil) (.cons rfl .nil) ?_
                    refine .gv (f_load (n := 0) (o := 4) (off := 0) (p := []) (c := .d (eA22 a1)) (z := .d (eA22 a1)) (by rfl) rfl ty23 (by rfl)) rfl rfl rfl hc149 (.c rfl .nil) (.cons rfl .nil) ?_
                    refine .gv (f_eqlT (by rfl) (fit23 _) (fit23 _) (by rfl) (by rfl) gd23 (eq_eA22 _ _)) rfl rfl rfl hc149 (.c rfl (.c rfl .nil)) .nil ?_
                    refine .gv (f_eqlB (by rfl) un4) rfl rfl rfl hc149 (.c rfl (.c rfl .nil)) .nil ?_
                    refine .v (f_pick_true (by rfl) hc149) rfl (.c rfl (.c rfl .nil)) .nil ?_
                    refine .v (f_assign (by rfl)) rfl (.c rfl .nil) .nil ?_
                    refine .nil (by kernel_rfl) ?_
                    refine aw_ret ?_
                    obtain rfl := Option.some.inj h
                    exact aq_finp hb0 rfl (.tmp rfl (by rfl) .nil) (by rfl) rfl ⟨rfl, rfl⟩
                  · replace h := ite_f hc149 h
                    refine .off rfl rfl rfl hc149 rfl (by rfl) ?_
                    refine .off rfl rfl rfl hc149 rfl (by rfl) ?_
                    refine .off rfl rfl rfl hc149 rfl (by rfl) ?_
                    refine .off rfl rfl rfl hc149 rfl (by rfl) ?_
                    refine .off rfl rfl rfl hc149 rfl (by rfl) ?_
                    refine .off rfl rfl rfl hc149 rfl (by rfl) ?_
                    refine .off rfl rfl rfl hc149 rfl (by rfl) ?_
                    refine .off rfl rfl rfl hc149 rfl (by rfl) ?_
                    refine .v (f_pick_false (by rfl) hc149) rfl (.c rfl (.c rfl .nil)) .nil ?_
                    refine .v (f_assign (by rfl)) rfl (.c rfl .nil) .nil ?_
                    refine .nil (by kernel_rfl) ?_
                    refine aw_ret ?_
                    obtain rfl := Option.some.inj h
                    exact aq_finp hb0 rfl (.tmp rfl (by rfl) .nil) (by rfl) rfl ⟨rfl, rfl⟩
                · replace h := ite_f hc144 h
                  refine .off rfl rfl rfl hc144 rfl (by rfl) ?_
                  refine .off rfl rfl rfl hc144 rfl (by rfl) ?_
                  refine .off rfl rfl rfl hc144 rfl (by rfl) ?_
                  refine .off rfl rfl rfl hc144 rfl (by rfl) ?_
                  refine .off rfl rfl rfl hc144 rfl (by rfl) ?_
                  refine .off rfl rfl rfl hc144 rfl (by rfl) ?_
                  refine .off rfl rfl rfl hc144 rfl (by rfl) ?_
                  refine .v (f_pick_false (by rfl) hc144) rfl (.c rfl (.c rfl .nil)) .nil ?_
                  refine .v (f_move (by rfl)) rfl (.c rfl .nil) .nil ?_
                  refine .off rfl rfl rfl rfl rfl (by rfl) ?_
                  refine .off rfl rfl rfl rfl rfl (by rfl) ?_
                  refine .off rfl rfl rfl rfl rfl (by rfl) ?_
                  refine .off rfl rfl rfl rfl rfl (by rfl) ?_
                  refine .off rfl rfl rfl rfl rfl (by rfl) ?_
                  refine .off rfl rfl rfl rfl rfl (by rfl) ?_
                  refine .off rfl rfl rfl rfl rfl (by rfl) ?_
                  refine .off rfl rfl rfl rfl rfl (by rfl) ?_
                  refine .v (f_pick_false (by rfl) rfl) rfl (.c rfl (.c rfl .nil)) .nil ?_
                  refine .v (f_assign (by rfl)) rfl (.c rfl .nil) .nil ?_
                  refine .nil (by kernel_rfl) ?_
                  refine aw_ret ?_
                  obtain rfl := Option.some.inj h
                  exact aq_finp hb0 rfl (.tmp rfl (by rfl) .nil) (by rfl) rfl ⟨rfl, rfl⟩
              · replace h := ite_f hc137 h
                refine .off rfl rfl rfl hc137 rfl (by rfl) ?_
                refine .off rfl rfl rfl hc137 rfl (by rfl) ?_
                refine .off rfl rfl rfl hc137 rfl (by rfl) ?_
                refine .off rfl rfl rfl hc137 rfl (by rfl) ?_
                refine .off rfl rfl rfl hc137 rfl (by rfl) ?_
                refine .off rfl rfl rfl hc137 rfl (by rfl) ?_
                refine .off rfl rfl rfl hc137 rfl (by rfl) ?_
                refine .off rfl rfl rfl hc137 rfl (by rfl) ?_
                refine .off rfl rfl rfl hc137 rfl (by rfl) ?_
                refine .off rfl rfl rfl hc137 rfl (by rfl) ?_
                refine .off rfl rfl rfl hc137 rfl (by rfl) ?_
                refine .v (f_pick_false (by rfl) hc137) rfl (.c rfl (.c rfl .nil)) .nil ?_
                refine .v (f_move (by rfl)) rfl (.c rfl .nil) .nil ?_
                refine .off rfl rfl rfl rfl rfl (by rfl) ?_
                refine .off rfl rfl rfl rfl rfl (by rfl) ?_
                refine .off rfl rfl rfl rfl rfl (by rfl) ?_
                refine .off rfl rfl rfl rfl rfl (by rfl) ?_
                refine .off rfl rfl rfl rfl rfl (by rfl) ?_
                refine .off rfl rfl rfl rfl rfl (by rfl) ?_
                refine .off rfl rfl rfl rfl rfl (by rfl) ?_
                refine .v (f_pick_false (by rfl) rfl) rfl (.c rfl (.c rfl .nil)) .nil ?_
                refine .v (f_move (by rfl)) rfl (.c rfl .nil) .nil ?_
                refine .off rfl rfl rfl rfl rfl (by rfl) ?_
                refine .off rfl rfl rfl rfl rfl (by rfl) ?_
                refine .off rfl rfl rfl rfl rfl (by rfl) ?_
                refine .off rfl rfl rfl rfl rfl (by rfl) ?_
                refine .off rfl rfl rfl rfl rfl (by rfl) ?_
                refine .off rfl rfl rfl rfl rfl (by rfl) ?_
                refine .off rfl rfl rfl rfl rfl (by rfl) ?_
                refine .off rfl rfl rfl rfl rfl (by rfl) ?_
                refine .v (f_pick_false (by rfl) rfl) rfl (.c rfl (.c rfl .nil)) .nil ?_
                refine .v (f_assign (by rfl)) rfl (.c rfl .nil) .nil ?_
                refine .nil (by kernel_rfl) ?_
                refine aw_ret ?_
                obtain rfl := Option.some.inj h
                exact aq_finp hb0 rfl (.tmp rfl (by rfl) .nil) (by rfl) rfl ⟨rfl, rfl⟩
          · replace h := ite_f hc133 h
            refine .off rfl rfl rfl hc133 rfl (by rfl) ?_
            refine .off rfl rfl rfl hc133 rfl (by rfl) ?_
            refine .off rfl rfl rfl hc133 rfl (by rfl) ?_
            refine .off rfl rfl rfl hc133 rfl (by rfl) ?_
            refine .v (f_pick_false (by rfl) hc133) rfl (.c rfl (.c rfl .nil)) .nil ?_
            refine .nil (aq_then ?_)
            refine aw_cond rfl (fun hx => absurd (hx.symm.trans rfl) (by simp)) (fun _ => ?_)
            refine aw_skip ?_
            refine aq_then ?_
            refine aw_rds ?_
            refine .v (f_move (by rfl)) rfl (.c rfl .nil) .nil ?_
            refine .v (f_move (by rfl)) rfl (.c rfl .nil) .nil ?_
            rcases Bool.eq_false_or_eq_true y1 with hc152 | hc152
            · replace h := ite_t hc152 h
              refine .gv (f_load (n := 0) (o := 3) (off := 0) (p := []) (c := .d (eA22 a0)) (z := .d (eA22 a0)) (by rfl) rfl ty23 (by rfl)) rfl rfl rfl hc152 (.c rfl .nil) (.cons rfl .nil) ?_
              refine .gv (f_load (n := 0) (o := 5) (off := 0) (p := []) (c := .d (eA22 a2)) (z := .d (eA22 a2)) (by rfl) rfl ty23 (by rfl)) rfl rfl rfl hc152 (.c rfl .nil) (.cons rfl .nil) ?_
              obtain ⟨y153, hy154, h⟩ := bind_some h
              refine .gv (f_callP hgl (by rfl) en9 rfl (by rfl) (by rfl) (by rfl) (F9_path_Shared_ok hy154)) rfl rfl rfl hc152 (.c rfl (.c rfl .nil)) .nil ?_
              refine .gv (f_load (n := 0) (o := 3) (off := 0) (p := []) (c := .d (eA22 a0)) (z := .d (eA22 a0)) (by rfl) rfl ty23 (by rfl)) rfl rfl rfl hc152 (.c rfl .nil) (.cons rfl .nil) ?_
              refine .gv (f_load (n := 0) (o := 4) (off := 0) (p := []) (c := .d (eA22 a1)) (z := .d (eA22 a1)) (by rfl) rfl ty23 (by rfl)) rfl rfl rfl hc152 (.c rfl .nil) (.cons rfl .nil) ?_
              obtain ⟨y155, hy156, h⟩ := bind_some h
              refine .gv (f_callP hgl (by rfl) en9 rfl (by rfl) (by rfl) (by rfl) (F9_path_Shared_ok hy156)) rfl rfl rfl hc152 (.c rfl (.c rfl .nil)) .nil ?_
              refine .gv (f_load (n := 0) (o := 4) (off := 0) (p := []) (c := .d (eA22 a1)) (z := .d (eA22 a1)) (by rfl) rfl ty23 (by rfl)) rfl rfl rfl hc152 (.c rfl .nil) (.cons rfl .nil) ?_
              refine .gv (f_load (n := 0) (o := 5) (off := 0) (p := []) (c := .d (eA22 a2)) (z := .d (eA22 a2)) (by rfl) rfl ty23 (by rfl)) rfl rfl rfl hc152 (.c rfl .nil) (.cons rfl .nil) ?_
              obtain ⟨y157, hy158, h⟩ := bind_some h
              refine .gv (f_callP hgl (by rfl) en9 rfl (by rfl) (by rfl) (by rfl) (F9_path_Shared_ok hy158)) rfl rfl rfl hc152 (.c rfl (.c rfl .nil)) .nil ?_
              refine .gv (f_minI (by rfl)) rfl rfl rfl hc152 (.c rfl (.c rfl .nil)) .nil ?_
              refine .gv (f_binI (by rfl) rfl (by rfl)) rfl rfl rfl hc152 (.c rfl (.c rfl .nil)) .nil ?_
              refine .v (f_pick_true (by rfl) hc152) rfl (.c rfl (.c rfl .nil)) .nil ?_
              refine .v (f_move (by rfl)) rfl (.c rfl .nil) .nil ?_
              rcases Bool.eq_false_or_eq_true (decide (y153 ≥ (if y157 < y155 then y157 else y155))) with hc159 | hc159
              · replace h := ite_t hc159 h
                refine .gv (f_load (n := 0) (o := 3) (off := 0) (p := []) (c := .d (eA22 a0)) (z := .d (eA22 a0)) (by rfl) rfl ty23 (by rfl)) rfl rfl rfl hc159 (.c rfl .nil) (.cons rfl .nil) ?_
                refine .gv (f_load (n := 0) (o := 4) (off := 0) (p := []) (c := .d (eA22 a1)) (z := .d (eA22 a1)) (by rfl) rfl ty23 (by rfl)) rfl rfl rfl hc159 (.c rfl .nil) (.cons rfl .nil) ?_
                obtain ⟨y160, hy161, h⟩ := bind_some h
                refine .gv (f_callP hgl (by rfl) en9 rfl (by rfl) (by rfl) (by rfl) (F9_path_Shared_ok hy161)) rfl rfl rfl hc159 (.c rfl (.c rfl .nil)) .nil ?_
                refine .gv (f_load (n := 0) (o := 4) (off := 0) (p := []) (c := .d (eA22 a1)) (z := .d (eA22 a1)) (by rfl) rfl ty23 (by rfl)) rfl rfl rfl hc159 (.c rfl .nil) (.cons rfl .nil) ?_
                refine .gv (f_load (n := 0) (o := 3) (off := 0) (p := []) (c := .d (eA22 a0)) (z := .d (eA22 a0)) (by rfl) rfl ty23 (by rfl)) rfl rfl rfl hc159 (.c rfl .nil) (.cons rfl .nil) ?_
                obtain ⟨y162, hy163, h⟩ := bind_some h
                refine .gv (f_callP hgl (by rfl) en9 rfl (by rfl) (by rfl) (by rfl) (F9_path_Shared_ok hy163)) rfl rfl rfl hc159 (.c rfl (.c rfl .nil)) .nil ?_
                refine .gv (f_binI (by rfl) rfl (by rfl)) rfl rfl rfl hc159 (.c rfl (.c rfl .nil)) .nil ?_
                refine .v (f_pick_true (by rfl) hc159) rfl (.c rfl (.c rfl .nil)) .nil ?_
                refine .v (f_move (by rfl)) rfl (.c rfl .nil) .nil ?_
                rcases Bool.eq_false_or_eq_true (y160 == y162) with hc164 | hc164
                · replace h := ite_t hc164 h
                  refine .gv (f_load (n := 0) (o := 3) (off := 0) (p := []) (c := .d (eA22 a0)) (z := .d (eA22 a0)) (by rfl) rfl ty23 (by rfl)) rfl rfl rfl hc164 (.c rfl .nil) (.cons rfl .nil) ?_
                  refine .gv (f_load (n := 0) (o := 4) (off := 0) (p := []) (c := .d (eA22 a1)) (z := .d (eA22 a1)) (by rfl) rfl ty23 (by rfl)) rfl rfl rfl hc164 (.c rfl .nil) (.cons rfl .nil) ?_
                  obtain ⟨y165, hy166, h⟩ := bind_some h
                  refine .gv (f_callP hgl (by rfl) en9 rfl (by rfl) (by rfl) (by rfl) (F9_path_Shared_ok hy166)) rfl rfl rfl hc164 (.c rfl (.c rfl .nil)) .nil ?_
                  refine .gv (f_binI (by rfl) rfl (by rfl)) rfl rfl rfl hc164 (.c rfl (.c rfl .nil)) .nil ?_
                  refine .gv (f_load (n := 0) (o := 3) (off := 0) (p := []) (c := .d (eA22 a0)) (z := .d (eA22 a0)) (by rfl) rfl ty23 (by rfl)) rfl rfl rfl hc164 (.c rfl .nil) (.cons rfl .nil) ?_
                  refine .gv (f_load (n := 0) (o := 4) (off := 0) (p := []) (c := .d (eA22 a1)) (z := .d (eA22 a1)) (by rfl) rfl ty23 (by rfl)) rfl rfl rfl hc164 (.c rfl .nil) (.cons rfl .nil) ?_
                  refine .gv (f_eqlT (by rfl) (fit23 _) (fit23 _) (by rfl) (by rfl) gd23 (eq_eA22 _ _)) rfl rfl rfl hc164 (.c rfl (.c rfl .nil)) .nil ?_
                  refine .gv (f_eqlB (by rfl) un4) rfl rfl rfl hc164 (.c rfl (.c rfl .nil)) .nil ?_
                  refine .v (f_pick_true (by rfl) hc164) rfl (.c rfl (.c rfl .nil)) .nil ?_
                  refine .v (f_assign (by rfl)) rfl (.c rfl .nil) .nil ?_
                  refine .nil (by kernel_rfl) ?_
                  refine aw_ret ?_
                  obtain rfl := Option.some.inj h
                  exact aq_finp hb0 rfl (.tmp rfl (by rfl) .nil) (by rfl) rfl ⟨rfl, rfl⟩
                · replace h := ite_f hc164 h
                  refine .off rfl rfl rfl hc164 rfl (by rfl) ?_
                  refine .off rfl rfl rfl hc164 rfl (by rfl) ?_
                  refine .off rfl rfl rfl hc164 rfl (by rfl) ?_
                  refine .off rfl rfl rfl hc164 rfl (by rfl) ?_
                  refine .off rfl rfl rfl hc164 rfl (by rfl) ?_
                  refine .off rfl rfl rfl hc164 rfl (by rfl) ?_
                  refine .off rfl rfl rfl hc164 rfl (by rfl) ?_
                  refine .off rfl rfl rfl hc164 rfl (by rfl) ?_
                  refine .v (f_pick_false (by rfl) hc164) rfl (.c rfl (.c rfl .nil)) .nil ?_
                  refine .v (f_assign (by rfl)) rfl (.c rfl .nil) .nil ?_
                  refine .nil (by kernel_rfl) ?_
                  refine aw_ret ?_
                  obtain rfl := Option.some.inj h
                  exact aq_finp hb0 rfl (.tmp rfl (by rfl) .nil) (by rfl) rfl ⟨rfl, rfl⟩
              · replace h := ite_f hc159 h
                refine .off rfl rfl rfl hc159 rfl (by rfl) ?_
                refine .off rfl rfl rfl hc159 rfl (by rfl) ?_
                refine .off rfl rfl rfl hc159 rfl (by rfl) ?_
                refine .off rfl rfl rfl hc159 rfl (by rfl) ?_
                refine .off rfl rfl rfl hc159 rfl (by rfl) ?_
                refine .off rfl rfl rfl hc159 rfl (by rfl) ?_
                refine .off rfl rfl rfl hc159 rfl (by rfl) ?_
                refine .v (f_pick_false (by rfl) hc159) rfl (.c rfl (.c rfl .nil)) .nil ?_
                refine .v (f_move (by rfl)) rfl (.c rfl .nil) .nil ?_
                refine .off rfl rfl rfl rfl rfl (by rfl) ?_
                refine .off rfl rfl rfl rfl rfl (by rfl) ?_
                refine .off rfl rfl rfl rfl rfl (by rfl) ?_
                refine .off rfl rfl rfl rfl rfl (by rfl) ?_
                refine .off rfl rfl rfl rfl rfl (by rfl) ?_
                refine .off rfl rfl rfl rfl rfl (by rfl) ?_
                refine .off rfl rfl rfl rfl rfl (by rfl) ?_
                refine .off rfl rfl rfl rfl rfl (by rfl) ?_
                refine .v (f_pick_false (by rfl) rfl) rfl (.c rfl (.c rfl .nil)) .nil ?_
                refine .v (f_assign (by rfl)) rfl (.c rfl .nil) .nil ?_
                refine .nil (by kernel_rfl) ?_
                refine aw_ret ?_
                obtain rfl := Option.some.inj h
                exact aq_finp hb0 rfl (.tmp rfl (by rfl) .nil) (by rfl) rfl ⟨rfl, rfl⟩
            · replace h := ite_f hc152 h
              refine .off rfl rfl rfl hc152 rfl (by rfl) ?_
              refine .off rfl rfl rfl hc152 rfl (by rfl) ?_
              refine .off rfl rfl rfl hc152 rfl (by rfl) ?_
              refine .off rfl rfl rfl hc152 rfl (by rfl) ?_
              refine .off rfl rfl rfl hc152 rfl (by rfl) ?_
              refine .off rfl rfl rfl hc152 rfl (by rfl) ?_
              refine .off rfl rfl rfl hc152 rfl (by rfl) ?_
              refine .off rfl rfl rfl hc152 rfl (by rfl) ?_
              refine .off rfl rfl rfl hc152 rfl (by rfl) ?_
              refine .off rfl rfl rfl hc152 rfl (by rfl) ?_
              refine .off rfl rfl rfl hc152 rfl (by rfl) ?_
              refine .v (f_pick_false (by rfl) hc152) rfl (.c rfl (.c rfl .nil)) .nil ?_
              refine .v (f_move (by rfl)) rfl (.c rfl .nil) .nil ?_
              refine .off rfl rfl rfl rfl rfl (by rfl) ?_
              refine .off rfl rfl rfl rfl rfl (by rfl) ?_
              refine .off rfl rfl rfl rfl rfl (by rfl) ?_
              refine .off rfl rfl rfl rfl rfl (by rfl) ?_
              refine .off rfl rfl rfl rfl rfl (by rfl) ?_
              refine .off rfl rfl rfl rfl rfl (by rfl) ?_
              refine .off rfl rfl rfl rfl rfl (by rfl) ?_
              refine .v (f_pick_false (by rfl) rfl) rfl (.c rfl (.c rfl .nil)) .nil ?_
              refine .v (f_move (by rfl)) rfl (.c rfl .nil) .nil ?_
              refine .off rfl rfl rfl rfl rfl (by rfl) ?_
              refine .off rfl rfl rfl rfl rfl (by rfl) ?_
              refine .off rfl rfl rfl rfl rfl (by rfl) ?_
              refine .off rfl rfl rfl rfl rfl (by rfl) ?_
              refine .off rfl rfl rfl rfl rfl (by rfl) ?_
              refine .off rfl rfl rfl rfl rfl (by rfl) ?_
              refine .off rfl rfl rfl rfl rfl (by rfl) ?_
              refine .off rfl rfl rfl rfl rfl (by rfl) ?_
              refine .v (f_pick_false (by rfl) rfl) rfl (.c rfl (.c rfl .nil)) .nil ?_
              refine .v (f_assign (by rfl)) rfl (.c rfl .nil) .nil ?_
              refine .nil (by kernel_rfl) ?_
              refine aw_ret ?_
              obtain rfl := Option.some.inj h
              exact aq_finp hb0 rfl (.tmp rfl (by rfl) .nil) (by rfl) rfl ⟨rfl, rfl⟩
        · replace h := ite_f hc130 h
          refine .off rfl rfl rfl hc130 rfl (by rfl) ?_
          refine .off rfl rfl rfl hc130 rfl (by rfl) ?_
          refine .off rfl rfl rfl hc130 rfl (by rfl) ?_
          refine .v (f_pick_false (by rfl) hc130) rfl (.c rfl (.c rfl .nil)) .nil ?_
          refine .v (f_move (by rfl)) rfl (.c rfl .nil) .nil ?_
          refine .off rfl rfl rfl rfl rfl (by rfl) ?_
          refine .off rfl rfl rfl rfl rfl (by rfl) ?_
          refine .off rfl rfl rfl rfl rfl (by rfl) ?_
          refine .off rfl rfl rfl rfl rfl (by rfl) ?_
          refine .v (f_pick_false (by rfl) rfl) rfl (.c rfl (.c rfl .nil)) .nil ?_
          refine .nil (aq_then ?_)
          refine aw_cond rfl (fun hx => absurd (hx.symm.trans rfl) (by simp)) (fun _ => ?_)
          refine aw_skip ?_
          refine aq_then ?_
          refine aw_rds ?_
          refine .v (f_move (by rfl)) rfl (.c rfl .nil) .nil ?_
          refine .v (f_move (by rfl)) rfl (.c rfl .nil) .nil ?_
          rcases Bool.eq_false_or_eq_true y1 with hc167 | hc167
          · replace h := ite_t hc167 h
            refine .gv (f_load (n := 0) (o := 3) (off := 0) (p := []) (c := .d (eA22 a0)) (z := .d (eA22 a0)) (by rfl) rfl ty23 (by rfl)) rfl rfl rfl hc167 (.c rfl .nil) (.cons rfl .nil) ?_
            refine .gv (f_load (n := 0) (o := 5) (off := 0) (p := []) (c := .d (eA22 a2)) (z := .d (eA22 a2)) (by rfl) rfl ty23 (by rfl)) rfl rfl rfl hc167 (.c rfl .nil) (.cons rfl .nil) ?_
            obtain ⟨y168, hy169, h⟩ := bind_some h
            refine .gv (f_callP hgl (by rfl) en9 rfl (by rfl) (by rfl) (by rfl) (F9_path_Shared_ok hy169)) rfl rfl rfl hc167 (.c rfl (.c rfl .nil)) .nil ?_
            refine .gv (f_load (n := 0) (o := 3) (off := 0) (p := []) (c := .d (eA22 a0)) (z := .d (eA22 a0)) (by rfl) rfl ty23 (by rfl)) rfl rfl rfl hc167 (.c rfl .nil) (.cons rfl .nil) ?_
            refine .gv (f_load (n := 0) (o := 4) (off := 0) (p := []) (c := .d (eA22 a1)) (z := .d (eA22 a1)) (by rfl) rfl ty23 (by rfl)) rfl rfl rfl hc167 (.c rfl .nil) (.cons rfl .nil) ?_
            obtain ⟨y170, hy171, h⟩ := bind_some h
            refine .gv (f_callP hgl (by rfl) en9 rfl (by rfl) (by rfl) (by rfl) (F9_path_Shared_ok hy171)) rfl rfl rfl hc167 (.c rfl (.c rfl .nil)) .nil ?_
            refine .gv (f_load (n := 0) (o := 4) (off := 0) (p := []) (c := .d (eA22 a1)) (z := .d (eA22 a1)) (by rfl) rfl ty23 (by rfl)) rfl rfl rfl hc167 (.c rfl .nil) (.cons rfl .nil) ?_
            refine .gv (f_load (n := 0) (o := 5) (off := 0) (p := []) (c := .d (eA22 a2)) (z := .d (eA22 a2)) (by rfl) rfl ty23 (by rfl)) rfl rfl rfl hc167 (.c rfl .nil) (.cons rfl .nil) ?_
            obtain ⟨y172, hy173, h⟩ := bind_some h
            refine .gv (f_callP hgl (by rfl) en9 rfl (by rfl) (by rfl) (by rfl) (F9_path_Shared_ok hy173)) rfl rfl rfl hc167 (.c rfl (.c rfl .nil)) .nil ?_
            refine .gv (f_minI (by rfl)) rfl rfl rfl hc167 (.c rfl (.c rfl .nil)) .nil ?_
            refine .gv (f_binI (by rfl) rfl (by rfl)) rfl rfl rfl hc167 (.c rfl (.c rfl .nil)) .nil ?_
            refine .v (f_pick_true (by rfl) hc167) rfl (.c rfl (.c rfl .nil)) .nil ?_
            refine .v (f_move (by rfl)) rfl (.c rfl .nil) .nil ?_
            rcases Bool.eq_false_or_eq_true (decide (y168 ≥ (if y172 < y170 then y172 else y170))) with hc174 | hc174
            · replace h := ite_t hc174 h
              refine .gv (f_load (n := 0) (o := 3) (off := 0) (p := []) (c := .d (eA22 a0)) (z := .d (eA22 a0)) (by rfl) rfl ty23 (by rfl)) rfl rfl rfl hc174 (.c rfl .nil) (.cons rfl .nil) ?_
              refine .gv (f_load (n := 0) (o := 4) (off := 0) (p := []) (c := .d (eA22 a1)) (z := .d (eA22 a1)) (by rfl) rfl ty23 (by rfl)) rfl rfl rfl hc174 (.c rfl .nil) (.cons rfl .nil) ?_
              obtain ⟨y175, hy176, h⟩ := bind_some h
              refine .gv (f_callP hgl (by rfl) en9 rfl (by rfl) (by rfl) (by rfl) (F9_path_Shared_ok hy176)) rfl rfl rfl hc174 (.c rfl (.c rfl .nil)) .nil ?_
              refine .gv (f_load (n := 0) (o := 4) (off := 0) (p := []) (c := .d (eA22 a1)) (z := .d (eA22 a1)) (by rfl) rfl ty23 (by rfl)) rfl rfl rfl hc174 (.c rfl .nil) (.cons rfl .nil) ?_
              refine .gv (f_load (n := 0) (o := 3) (off := 0) (p := []) (c := .d (eA22 a0)) (z := .d (eA22 a0)) (by rfl) rfl ty23 (by rfl)) rfl rfl rfl hc174 (.c rfl .nil) (.cons rfl .nil) ?_
              obtain ⟨y177, hy178, h⟩ := bind_some h
              refine .gv (f_callP hgl (by rfl) en9 rfl (by rfl) (by rfl) (by rfl) (F9_path_Shared_ok hy178)) rfl rfl rfl hc174 (.c rfl (.c rfl .nil)) .nil ?_
              refine .gv (f_binI (by rfl) rfl (by rfl)) rfl rfl rfl hc174 (.c rfl (.c rfl .nil)) .nil ?_
              refine .v (f_pick_true (by rfl) hc174) rfl (.c rfl (.c rfl .nil)) .nil ?_
              refine .v (f_move (by rfl)) rfl (.c rfl .nil) .nil ?_
              rcases Bool.eq_false_or_eq_true (y175 == y177) with hc179 | hc179
              · replace h := ite_t hc179 h
                refine .gv (f_load (n := 0) (o := 3) (off := 0) (p := []) (c := .d (eA22 a0)) (z := .d (eA22 a0)) (by rfl) rfl ty23 (by rfl)) rfl rfl rfl hc179 (.c rfl .nil) (.cons rfl .nil) ?_
                refine .gv (f_load (n := 0) (o := 4) (off := 0) (p := []) (c := .d (eA22 a1)) (z := .d (eA22 a1)) (by rfl) rfl ty23 (by rfl)) rfl rfl rfl hc179 (.c rfl .nil) (.cons rfl .nil) ?_
                obtain ⟨y180, hy181, h⟩ := bind_some h
                refine .gv (f_callP hgl (by rfl) en9 rfl (by rfl) (by rfl) (by rfl) (F9_path_Shared_ok hy181)) rfl rfl rfl hc179 (.c rfl (.c rfl .nil)) .nil ?_
                refine .gv (f_binI (by rfl) rfl (by rfl)) rfl rfl rfl hc179 (.c rfl (.c rfl .nil)) .nil ?_
                refine .gv (f_load (n := 0) (o := 3) (off := 0) (p := []) (c := .d (eA22 a0)) (z := .d (eA22 a0)) (by rfl) rfl ty23 (by rfl)) rfl rfl rfl hc179 (.c rfl .nil) (.cons rfl .nil) ?_
                refine .gv (f_load (n := 0) (o := 4) (off := 0) (p := []) (c := .d (eA22 a1)) (z := .d (eA22 a1)) (by rfl) rfl ty23 (by rfl)) rfl rfl rfl hc179 (.c rfl .nil) (.cons rfl .nil) ?_
                refine .gv (f_eqlT (by rfl) (fit23 _) (fit23 _) (by rfl) (by rfl) gd23 (eq_eA22 _ _)) rfl rfl rfl hc179 (.c rfl (.c rfl .nil)) .nil ?_
                refine .gv (f_eqlB (by rfl) un4) rfl rfl rfl hc179 (.c rfl (.c rfl .nil)) .nil ?_
                refine .v (f_pick_true (by rfl) hc179) rfl (.c rfl (.c rfl .nil)) .nil ?_
                refine .v (f_assign (by rfl)) rfl (.c rfl .nil) .nil ?_
                refine .nil (by kernel_rfl) ?_
                refine aw_ret ?_
                obtain rfl := Option.some.inj h
                exact aq_finp hb0 rfl (.tmp rfl (by rfl) .nil) (by rfl) rfl ⟨rfl, rfl⟩
              · replace h := ite_f hc179 h
                refine .off rfl rfl rfl hc179 rfl (by rfl) ?_
                refine .off rfl rfl rfl hc179 rfl (by rfl) ?_
                refine .off rfl rfl rfl hc179 rfl (by rfl) ?_
                refine .off rfl rfl rfl hc179 rfl (by rfl) ?_
                refine .off rfl rfl rfl hc179 rfl (by rfl) ?_
                refine .off rfl rfl rfl hc179 rfl (by rfl) ?_
                refine .off rfl rfl rfl hc179 rfl (by rfl) ?_
                refine .off rfl rfl rfl hc179 rfl (by rfl) ?_
                refine .v (f_pick_false (by rfl) hc179) rfl (.c rfl (.c rfl .nil)) .nil ?_
                refine .v (f_assign (by rfl)) rfl (.c rfl .nil) .nil ?_
                refine .nil (by kernel_rfl) ?_
                refine aw_ret ?_
                obtain rfl := Option.some.inj h
                exact aq_finp hb0 rfl (.tmp rfl (by rfl) .nil) (by rfl) rfl ⟨rfl, rfl⟩
            · replace h := ite_f hc174 h
              refine .off rfl rfl rfl hc174 rfl (by rfl) ?_
              refine .off rfl rfl rfl hc174 rfl (by rfl) ?_
              refine .off rfl rfl rfl hc174 rfl (by rfl) ?_
              refine .off rfl rfl rfl hc174 rfl (by rfl) ?_
              refine .off rfl rfl rfl hc174 rfl (by rfl) ?_
              refine .off rfl rfl rfl hc174 rfl (by rfl) ?_
              refine .off rfl rfl rfl hc174 rfl (by rfl) ?_
              refine .v (f_pick_false (by rfl) hc174) rfl (.c rfl (.c rfl .nil)) .nil ?_
              refine .v (f_move (by rfl)) rfl (.c rfl .nil) .nil ?_
              refine .off rfl rfl rfl rfl rfl (by rfl) ?_
              refine .off rfl rfl rfl rfl rfl (by rfl) ?_
              refine .off rfl rfl rfl rfl rfl (by rfl) ?_
              refine .off rfl rfl rfl rfl rfl (by rfl) ?_
              refine .off rfl rfl rfl rfl rfl (by rfl) ?_
              refine .off rfl rfl rfl rfl rfl (by rfl) ?_
              refine .off rfl rfl rfl rfl rfl (by rfl) ?_
              refine .off rfl rfl rfl rfl rfl (by rfl) ?_
              refine .v (f_pick_false (by rfl) rfl) rfl (.c rfl (.c rfl .nil)) .nil ?_
              refine .v (f_assign (by rfl)) rfl (.c rfl .nil) .nil ?_
              refine .nil (by kernel_rfl) ?_
              refine aw_ret ?_
              obtain rfl := Option.some.inj h
              exact aq_finp hb0 rfl (.tmp rfl (by rfl) .nil) (by rfl) rfl ⟨rfl, rfl⟩
          · replace h := ite_f hc167 h
            refine .off rfl rfl rfl hc167 rfl (by rfl) ?_
            refine .off rfl rfl rfl hc167 rfl (by rfl) ?_
            refine .off rfl rfl rfl hc167 rfl (by rfl) ?_
            refine .off rfl rfl rfl hc167 rfl (by rfl) ?_
            refine .off rfl rfl rfl hc167 rfl (by rfl) ?_
            refine .off rfl rfl rfl hc167 rfl (by rfl) ?_
            refine .off rfl rfl rfl hc167 rfl (by rfl) ?_
            refine .off rfl rfl rfl hc167 rfl (by rfl) ?_
            refine .off rfl rfl rfl hc167 rfl (by rfl) ?_
            refine .off rfl rfl rfl hc167 rfl (by rfl) ?_
            refine .off rfl rfl rfl hc167 rfl (by rfl) ?_
            refine .v (f_pick_false (by rfl) hc167) rfl (.c rfl (.c rfl .nil)) .nil ?_
            refine .v (f_move (by rfl)) rfl (.c rfl .nil) .nil ?_
            refine .off rfl rfl rfl rfl rfl (by rfl) ?_
            refine .off rfl rfl rfl rfl rfl (by rfl) ?_
            refine .off rfl rfl rfl rfl rfl (by rfl) ?_
            refine .off rfl rfl rfl rfl rfl (by rfl) ?_
            refine .off rfl rfl rfl rfl rfl (by rfl) ?_
            refine .off rfl rfl rfl rfl rfl (by rfl) ?_
            refine .off rfl rfl rfl rfl rfl (by rfl) ?_
            refine .v (f_pick_false (by rfl) rfl) rfl (.c rfl (.c rfl .nil)) .nil ?_
            refine .v (f_move (by rfl)) rfl (.c rfl .nil) .nil ?_
            refine .off rfl rfl rfl rfl rfl (by rfl) ?_
            refine .off rfl rfl rfl rfl rfl (by rfl) ?_
            refine .off rfl rfl rfl rfl rfl (by rfl) ?_
            refine .off rfl rfl rfl rfl rfl (by rfl) ?_
            refine .off rfl rfl rfl rfl rfl (by rfl) ?_
            refine .off rfl rfl rfl rfl rfl (by rfl) ?_
            refine .off rfl rfl rfl rfl rfl (by rfl) ?_
            refine .off rfl rfl rfl rfl rfl (by rfl) ?_
            refine .v (f_pick_false (by rfl) rfl) rfl (.c rfl (.c rfl .nil)) .nil ?_
            refine .v (f_assign (by rfl)) rfl (.c rfl .nil) .nil ?_
            refine .nil (by kernel_rfl) ?_
            refine aw_ret ?_
            obtain rfl := Option.some.inj h
            exact aq_finp hb0 rfl (.tmp rfl (by rfl) .nil) (by rfl) rfl ⟨rfl, rfl⟩
    · replace h := ite_f hc126 h
      refine .gv (f_load (n := 0) (o := 4) (off := 0) (p := []) (c := .d (eA22 a1)) (z := .d (eA22 a1)) (by rfl) rfl ty23 (by rfl)) rfl rfl rfl hc126 (.c rfl .nil) (.cons rfl .nil) ?_
      refine .gv (f_load (n := 0) (o := 3) (off := 0) (p := []) (c := .d (eA22 a0)) (z := .d (eA22 a0)) (by rfl) rfl ty23 (by rfl)) rfl rfl rfl hc126 (.c rfl .nil) (.cons rfl .nil) ?_
      obtain ⟨y182, hy183, h⟩ := bind_some h
      refine .gv (f_callP hgl (by rfl) en8 rfl (by rfl) (by rfl) (by rfl) (F8_path_Ahead_ok hy183)) rfl rfl rfl hc126 (.c rfl (.c rfl .nil)) .nil ?_
      refine .gv (f_pick_false (by rfl) hc126) rfl rfl rfl rfl (.c rfl (.c rfl .nil)) .nil ?_
      refine .gv (f_eqlB (by rfl) un4) rfl rfl rfl rfl (.c rfl (.c rfl .nil)) .nil ?_
      refine .v (f_pick_false (by rfl) rfl) rfl (.c rfl (.c rfl .nil)) .nil ?_
      refine .nil (by kernel_rfl) ?_
      refine aw_cond rfl (fun hc184 => ?_) (fun hc184 => ?_)
      · replace h := ite_t hc184 h
        refine aw_rs ?_
        refine .v (f_assign (by rfl)) rfl (.c rfl .nil) .nil ?_
        refine .nil (aq_then ?_)
        refine aw_ret ?_
        refine aq_then_ret ?_
        obtain rfl := Option.some.inj h
        exact aq_finp hb0 rfl (.tmp rfl (by rfl) .nil) (by rfl) rfl ⟨rfl, rfl⟩
      · replace h := ite_f hc184 h
        refine aw_skip ?_
        refine aq_then ?_
        refine aw_seq ?_
        refine aw_rs ?_
        refine .v (f_load (n := 0) (o := 3) (off := 0) (p := []) (c := .d (eA22 a0)) (z := .d (eA22 a0)) (by rfl) rfl ty23 (by rfl)) rfl (.c rfl .nil) (.cons rfl .nil) ?_
        refine .v (f_load (n := 0) (o := 4) (off := 0) (p := []) (c := .d (eA22 a1)) (z := .d (eA22 a1)) (by rfl) rfl ty23 (by rfl)) rfl (.c rfl .nil) (.cons rfl .nil) ?_
        obtain ⟨y185, hy186, h⟩ := bind_some h
        refine .v (f_callP hgl (by rfl) en8 rfl (by rfl) (by rfl) (by rfl) (F8_path_Ahead_ok hy186)) rfl (.c rfl (.c rfl .nil)) .nil ?_
        refine .v (f_move (by rfl)) rfl (.c rfl .nil) .nil ?_
        rcases Bool.eq_false_or_eq_true y185 with hc187 | hc187
        · replace h := ite_t hc187 h
          refine .gv (f_load (n := 0) (o := 4) (off := 0) (p := []) (c := .d (eA22 a1)) (z := .d (eA22 a1)) (by rfl) rfl ty23 (by rfl)) rfl rfl rfl hc187 (.c rfl .nil) (.cons rfl .nil) ?_
          refine .gv (f_load (n := 0) (o := 5) (off := 0) (p := []) (c := .d (eA22 a2)) (z := .d (eA22 a2)) (by rfl) rfl ty23 (by rfl)) rfl rfl rfl hc187 (.c rfl .nil) (.cons rfl .nil) ?_
          obtain ⟨y188, hy189, h⟩ := bind_some h
          refine .gv (f_callP hgl (by rfl) en8 rfl (by rfl) (by rfl) (by rfl) (F8_path_Ahead_ok hy189)) rfl rfl rfl hc187 (.c rfl (.c rfl .nil)) .nil ?_
          refine .v (f_pick_true (by rfl) hc187) rfl (.c rfl (.c rfl .nil)) .nil ?_
          refine .v (f_move (by rfl)) rfl (.c rfl .nil) .nil ?_
          rcases Bool.eq_false_or_eq_true y188 with hc190 | hc190
          · replace h := ite_t hc190 h
            refine .gv (f_load (n := 0) (o := 3) (off := 0) (p := []) (c := .d (eA22 a0)) (z := .d (eA22 a0)) (by rfl) rfl ty23 (by rfl)) rfl rfl rfl hc190 (.c rfl .nil) (.cons rfl .nil) ?_
            refine .gv (f_load (n := 0) (o := 5) (off := 0) (p := []) (c := .d (eA22 a2)) (z := .d (eA22 a2)) (by rfl) rfl ty23 (by rfl)) rfl rfl rfl hc190 (.c rfl .nil) (.cons rfl .nil) ?_
            obtain ⟨y191, hy192, h⟩ := bind_some h
            refine .gv (f_callP hgl (by rfl) en8 rfl (by rfl) (by rfl) (by rfl) (F8_path_Ahead_ok hy192)) rfl rfl rfl hc190 (.c rfl (.c rfl .nil)) .nil ?_
            refine .gv (f_not (by rfl)) rfl rfl rfl hc190 (.c rfl .nil) .nil ?_
            refine .v (f_pick_true (by rfl) hc190) rfl (.c rfl (.c rfl .nil)) .nil ?_
            refine .nil (aq_then ?_)
            refine aw_cond rfl (fun hc193 => ?_) (fun hc193 => ?_)
            · replace h := ite_t hc193 h
              refine aw_rs ?_
              refine .v (f_assign (by rfl)) rfl (.c rfl .nil) .nil ?_
              refine .nil (aq_then ?_)
              refine aw_ret ?_
              refine aq_then_ret ?_
              obtain rfl := Option.some.inj h
              exact aq_finp hb0 rfl (.tmp rfl (by rfl) .nil) (by rfl) rfl ⟨rfl, rfl⟩
            · replace h := ite_f hc193 h
              refine aw_skip ?_
              refine aq_then ?_
              refine aw_rds ?_
              refine .v (f_move (by rfl)) rfl (.c rfl .nil) .nil ?_
              refine .v (f_move (by rfl)) rfl (.c rfl .nil) .nil ?_
              rcases Bool.eq_false_or_eq_true y1 with hc194 | hc194
              · replace h := ite_t hc194 h
                refine .gv (f_load (n := 0) (o := 3) (off := 0) (p := []) (c := .d (eA22 a0)) (z := .d (eA22 a0)) (by rfl) rfl ty23 (by rfl)) rfl rfl rfl hc194 (.c rfl .nil) (.cons rfl .nil) ?_
                refine .gv (f_load (n := 0) (o := 5) (off := 0) (p := []) (c := .d (eA22 a2)) (z := .d (eA22 a2)) (by rfl) rfl ty23 (by rfl)) rfl rfl rfl hc194 (.c rfl .nil) (.cons rfl .nil) ?_
                obtain ⟨y195, hy196, h⟩ := bind_some h
                refine .gv (f_callP hgl (by rfl) en9 rfl (by rfl) (by rfl) (by rfl) (F9_path_Shared_ok hy196)) rfl rfl rfl hc194 (.c rfl (.c rfl .nil)) .nil ?_
                refine .gv (f_load (n := 0) (o := 3) (off := 0) (p := []) (c := .d (eA22 a0)) (z := .d (eA22 a0)) (by rfl) rfl ty23 (by rfl)) rfl rfl rfl hc194 (.c rfl .nil) (.cons rfl .nil) ?_
                refine .gv (f_load (n := 0) (o := 4) (off := 0) (p := []) (c := .d (eA22 a1)) (z := .d (eA22 a1)) (by rfl) rfl ty23 (by rfl)) rfl rfl rfl hc194 (.c rfl .nil) (.cons rfl .nil) ?_
                obtain ⟨y197, hy198, h⟩ := bind_some h
                refine .gv (f_callP hgl (by rfl) en9 rfl (by rfl) (by rfl) (by rfl) (F9_path_Shared_ok hy198)) rfl rfl rfl hc194 (.c rfl (.c rfl .nil)) .nil ?_
                refine .gv (f_load (n := 0) (o := 4) (off := 0) (p := []) (c := .d (eA22 a1)) (z := .d (eA22 a1)) (by rfl) rfl ty23 (by rfl)) rfl rfl rfl hc194 (.c rfl .nil) (.cons rfl .nil) ?_
                refine .gv (f_load (n := 0) (o := 5) (off := 0) (p := []) (c := .d (eA22 a2)) (z := .d (eA22 a2)) (by rfl) rfl ty23 (by rfl)) rfl rfl rfl hc194 (.c rfl .nil) (.cons rfl .nil) ?_
                obtain ⟨y199, hy200, h⟩ := bind_some h
                refine .gv (f_callP hgl (by rfl) en9 rfl (by rfl) (by rfl) (by rfl) (F9_path_Shared_ok hy200)) rfl rfl rfl hc194 (.c rfl (.c rfl .nil)) .nil ?_
                refine .gv (f_minI (by rfl)) rfl rfl rfl hc194 (.c rfl (.c rfl .nil)) .nil ?_
                refine .gv (f_binI (by rfl) rfl (by rfl)) rfl rfl rfl hc194 (.c rfl (.c rfl .nil)) .nil ?_
                refine .v (f_pick_true (by rfl) hc194) rfl (.c rfl (.c rfl .nil)) .nil ?_
                refine .v (f_move (by rfl)) rfl (.c rfl .nil) .nil ?_
                rcases Bool.eq_false_or_eq_true (decide (y195 ≥ (if y199 < y197 then y199 else y197))) with hc201 | hc201
                · replace h := ite_t hc201 h
                  refine .gv (f_load (n := 0) (o := 3) (off := 0) (p := []) (c := .d (eA22 a0)) (z := .d (eA22 a0)) (by rfl) rfl ty23 (by rfl)) rfl rfl rfl hc201 (.c rfl .nil) (.cons rfl .nil) ?_
                  refine .gv (f_load (n := 0) (o := 4) (off := 0) (p := []) (c := .d (eA22 a1)) (z := .d (eA22 a1)) (by rfl) rfl ty23 (by rfl)) rfl rfl rfl hc201 (.c rfl .nil) (.cons rfl .nil) ?_
                  obtain ⟨y202, hy203, h⟩ := bind_some h
                  refine .gv (f_callP hgl (by rfl) en9 rfl (by rfl) (by rfl) (by rfl) (F9_path_Shared_ok hy203)) rfl rfl rfl hc201 (.c rfl (.c rfl .nil)) .nil ?_
                  refine .gv (f_load (n := 0) (o := 4) (off := 0) (p := []) (c := .d (eA22 a1)) (z := .d (eA22 a1)) (by rfl) rfl ty23 (by rfl)) rfl rfl rfl hc201 (.c rfl .nil) (.cons rfl .nil) ?_
                  refine .gv (f_load (n := 0) (o := 3) (off := 0) (p := []) (c := .d (eA22 a0)) (z := .d (eA22 a0)) (by rfl) rfl ty23 (by rfl)) rfl rfl rfl hc201 (.c rfl .nil) (.cons rfl .nil) ?_
                  obtain ⟨y204, hy205, h⟩ := bind_some h
                  refine .gv (f_callP hgl (by rfl) en9 rfl (by rfl) (by rfl) (by rfl) (F9_path_Shared_ok hy205)) rfl rfl rfl hc201 (.c rfl (.c rfl .nil)) .nil ?_
                  refine .gv (f_binI (by rfl) rfl (by rfl)) rfl rfl rfl hc201 (.c rfl (.c rfl .nil)) .nil ?_
                  refine .v (f_pick_true (by rfl) hc201) rfl (.c rfl (.c rfl .nil)) .nil ?_
                  refine .v (f_move (by rfl)) rfl (.c rfl .nil) .nil ?_
                  rcases Bool.eq_false_or_eq_true (y202 == y204) with hc206 | hc206
                  · replace h := ite_t hc206 h
                    refine .gv (f_load (n := 0) (o := 3) (off := 0) (p := []) (c := .d (eA22 a0)) (z := .d (eA22 a0)) (by rfl) rfl ty23 (by rfl)) rfl rfl rfl hc206 (.c rfl .nil) (.cons rfl .nil) ?_
                    refine .gv (f_load (n := 0) (o := 4) (off := 0) (p := []) (c := .d (eA22 a1)) (z := .d (eA22 a1)) (by rfl) rfl ty23 (by rfl)) rfl rfl rfl hc206 (.c rfl .nil) (.cons rfl .nil) ?_
                    obtain ⟨y207, hy208, h⟩ := bind_some h
                    refine .gv (f_callP hgl (by rfl) en9 rfl (by rfl) (by rfl) (by rfl) (F9_path_Shared_ok hy208)) rfl rfl rfl hc206 (.c rfl (.c rfl .nil)) .nil ?_
                    refine .gv (f_binI (by rfl) rfl (by rfl)) rfl rfl rfl hc206 (.c rfl (.c rfl .nil)) .nil ?_
                    refine .gv (f_load (n := 0) (o := 3) (off := 0) (p := []) (c := .d (eA22 a0)) (z := .d (eA22 a0)) (by rfl) rfl ty23 (by rfl)) rfl rfl rfl hc206 (.c rfl .nil) (.cons rfl .nil) ?_
                    refine .gv (f_load (n := 0) (o := 4) (off := 0) (p := []) (c := .d (eA22 a1)) (z := .d (eA22 a1)) (by rfl) rfl ty23 (by rfl)) rfl rfl rfl hc206 (.c rfl .nil) (.cons rfl .nil) ?_
                    refine .gv (f_eqlT (by rfl) (fit23 _) (fit23 _) (by rfl) (by rfl) gd23 (eq_eA22 _ _)) rfl rfl rfl hc206 (.c rfl (.c rfl .nil)) .nil ?_
                    refine .gv (f_eqlB (by rfl) un4) rfl rfl rfl hc206 (.c rfl (.c rfl .nil)) .nil ?_
                    refine .v (f_pick_true (by rfl) hc206) rfl (.c rfl (.c rfl .nil)) .nil ?_
                    refine .v (f_assign (by rfl)) rfl (.c rfl .nil) .nil ?_
                    refine .nil (by kernel_rfl) ?_
                    refine aw_ret ?_
                    obtain rfl := Option.some.inj h
                    exact aq_finp hb0 rfl (.tmp rfl (by rfl) .nil) (by rfl) rfl ⟨rfl, rfl⟩
                  · replace h := ite_f hc206 h
                    refine .off rfl rfl rfl hc206 rfl (by rfl) ?_
                    refine .off rfl rfl rfl hc206 rfl (by rfl) ?_
                    refine .off rfl rfl rfl hc206 rfl (by rfl) ?_
                    refine .off rfl rfl rfl hc206 rfl (by rfl) ?_
                    refine .off rfl rfl rfl hc206 rfl (by rfl) ?_
                    refine .off rfl rfl rfl hc206 rfl (by rfl) ?_
                    refine .off rfl rfl rfl hc206 rfl (by rfl) ?_
                    refine .off rfl rfl rfl hc206 rfl (by rfl) ?_
                    refine .v (f_pick_false (by rfl) hc206) rfl (.c rfl (.c rfl .nil)) .nil ?_
                    refine .v (f_assign (by rfl)) rfl (.c rfl .nil) .nil ?_
                    refine .nil (by kernel_rfl) ?_
                    refine aw_ret ?_
                    obtain rfl := Option.some.inj h
                    exact aq_finp hb0 rfl (.tmp rfl (by rfl) .nil) (by rfl) rfl ⟨rfl, rfl⟩
                · replace h := ite_f hc201 h
                  refine .off rfl rfl rfl hc201 rfl (by rfl) ?_
                  refine .off rfl rfl rfl hc201 rfl (by rfl) ?_
                  refine .off rfl rfl rfl hc201 rfl (by rfl) ?_
                  refine .off rfl rfl rfl hc201 rfl (by rfl) ?_
                  refine .off rfl rfl rfl hc201 rfl (by rfl) ?_
                  refine .off rfl rfl rfl hc201 rfl (by rfl) ?_
                  refine .off rfl rfl rfl hc201 rfl (by rfl) ?_
                  refine .v (f_pick_false (by rfl) hc201) rfl (.c rfl (.c rfl .nil)) .nil ?_
                  refine .v (f_move (by rfl)) rfl (.c rfl .nil) .nil ?_
                  refine .off rfl rfl rfl rfl rfl (by rfl) ?_
                  refine .off rfl rfl rfl rfl rfl (by rfl) ?_
                  refine .off rfl rfl rfl rfl rfl (by rfl) ?_
                  refine .off rfl rfl rfl rfl rfl (by rfl) ?_
                  refine .off rfl rfl rfl rfl rfl (by rfl) ?_
                  refine .off rfl rfl rfl rfl rfl (by rfl) ?_
                  refine .off rfl rfl rfl rfl rfl (by rfl) ?_
                  refine .off rfl rfl rfl rfl rfl (by rfl) ?_
                  refine .v (f_pick_false (by rfl) rfl) rfl (.c rfl (.c rfl .nil)) .nil ?_
                  refine .v (f_assign (by rfl)) rfl (.c rfl .nil) .nil ?_
                  refine .nil (by kernel_rfl) ?_
                  refine aw_ret ?_
                  obtain rfl := Option.some.inj h
                  exact aq_finp hb0 rfl (.tmp rfl (by rfl) .nil) (by rfl) rfl ⟨rfl, rfl⟩
              · replace h := ite_f hc194 h
                refine .off rfl rfl rfl hc194 rfl (by rfl) ?_
                refine .off rfl rfl rfl hc194 rfl (by rfl) ?_
                refine .off rfl rfl rfl hc194 rfl (by rfl) ?_
                refine .off rfl rfl rfl hc194 rfl (by rfl) ?_
                refine .off rfl rfl rfl hc194 rfl (by rfl) ?_
                refine .off rfl rfl rfl hc194 rfl (by rfl) ?_
                refine .off rfl rfl rfl hc194 rfl (by rfl) ?_
                refine .off rfl rfl rfl hc194 rfl (by rfl) ?_
                refine .off rfl rfl rfl hc194 rfl (by rfl) ?_
                refine .off rfl rfl rfl hc194 rfl (by rfl) ?_
                refine .off rfl rfl rfl hc194 rfl (by rfl) ?_
                refine .v (f_pick_false (by rfl) hc194) rfl (.c rfl (.c rfl .nil)) .nil ?_
                refine .v (f_move (by rfl)) rfl (.c rfl .nil) .nil ?_
                refine .off rfl rfl rfl rfl rfl (by rfl) ?_
                refine .off rfl rfl rfl rfl rfl (by rfl) ?_
                refine .off rfl rfl rfl rfl rfl (by rfl) ?_
                refine .off rfl rfl rfl rfl rfl (by rfl) ?_
                refine .off rfl rfl rfl rfl rfl (by rfl) ?_
                refine .off rfl rfl rfl rfl rfl (by rfl) ?_
                refine .off rfl rfl rfl rfl rfl (by rfl) ?_
                refine .v (f_pick_false (by rfl) rfl) rfl (.c rfl (.c rfl .nil)) .nil ?_
                refine .v (f_move (by rfl)) rfl (.c rfl .nil) .nil ?_
                refine .off rfl rfl rfl rfl rfl (by rfl) ?_
                refine .off rfl rfl rfl rfl rfl (by rfl) ?_
                refine .off rfl rfl rfl rfl rfl (by rfl) ?_
                refine .off rfl rfl rfl rfl rfl (by rfl) ?_
                refine .off rfl rfl rfl rfl rfl (by rfl) ?_
                refine .off rfl rfl rfl rfl rfl (by rfl) ?_
                refine .off rfl rfl rfl rfl rfl (by rfl) ?_
                refine .off rfl rfl rfl rfl rfl (by rfl) ?_
                refine .v (f_pick_false (by rfl) rfl) rfl (.c rfl (.c rfl .nil)) .nil ?_
                refine .v (f_assign (by rfl)) rfl (.c rfl .nil) .nil ?_
                refine .nil (by kernel_rfl) ?_
                refine aw_ret ?_
                obtain rfl := Option.some.inj h
                exact aq_finp hb0 rfl (.tmp rfl (by rfl) .nil) (by rfl) rfl ⟨rfl, rfl⟩
          · replace h := ite_f hc190 h
            refine .off rfl rfl rfl hc190 rfl (by rfl) ?_
            refine .off rfl rfl rfl hc190 rfl (by rfl) ?_
            refine .off rfl rfl rfl hc190 rfl (by rfl) ?_
            refine .off rfl rfl rfl hc190 rfl (by rfl) ?_
            refine .v (f_pick_false (by rfl) hc190) rfl (.c rfl (.c rfl .nil)) .nil ?_
            refine .nil (aq_then ?_)
            refine aw_cond rfl (fun hx => absurd (hx.symm.trans rfl) (by simp)) (fun _ => ?_)
            refine aw_skip ?_
            refine aq_then ?_
            refine aw_rds ?_
            refine .v (f_move (by rfl)) rfl (.c rfl .nil) .nil ?_
            refine .v (f_move (by rfl)) rfl (.c rfl .nil) .nil ?_
            rcases Bool.eq_false_or_eq_true y1 with hc209 | hc209
            · replace h := ite_t hc209 h
              refine .gv (f_load (n := 0) (o := 3) (off := 0) (p := []) (c := .d (eA22 a0)) (z := .d (eA22 a0)) (by rfl) rfl ty23 (by rfl)) rfl rfl rfl hc209 (.c rfl .nil) (.cons rfl .nil) ?_
              refine .gv (f_load (n := 0) (o := 5) (off := 0) (p := []) (c := .d (eA22 a2)) (z := .d (eA22 a2)) (by rfl) rfl ty23 (by rfl)) rfl rfl rfl hc209 (.c rfl .nil) (.cons rfl .nil) ?_
              obtain ⟨y210, hy211, h⟩ := bind_some h
              refine .gv (f_callP hgl (by rfl) en9 rfl (by rfl) (by rfl) (by rfl) (F9_path_Shared_ok hy211)) rfl rfl rfl hc209 (.c rfl (.c rfl .nil)) .nil ?_
              refine .gv (f_load (n := 0) (o := 3) (off := 0) (p := []) (c := .d (eA22 a0)) (z := .d (eA22 a0)) (by rfl) rfl ty23 (by rfl)) rfl rfl rfl hc209 (.c rfl .nil) (.cons rfl .nil) ?_
              refine .gv (f_load (n := 0) (o := 4) (off := 0) (p := []) (c := .d (eA22 a1)) (z := .d (eA22 a1)) (by rfl) rfl ty23 (by rfl)) rfl rfl rfl hc209 (.c rfl .nil) (.cons rfl .nil) ?_
              obtain ⟨y212, hy213, h⟩ := bind_some h
              refine .gv (f_callP hgl (by rfl) en9 rfl (by rfl) (by rfl) (by rfl) (F9_path_Shared_ok hy213)) rfl rfl rfl hc209 (.c rfl (.c rfl .nil)) .nil ?_
              refine .gv (f_load (n := 0) (o := 4) (off := 0) (p := []) (c := .d (eA22 a1)) (z := .d (eA22 a1)) (by rfl) rfl ty23 (by rfl)) rfl rfl rfl hc209 (.c rfl .nil) (.cons rfl .nil) ?_
              refine .gv (f_load (n := 0) (o := 5) (off := 0) (p := []) (c := .d (eA22 a2)) (z := .d (eA22 a2)) (by rfl) rfl ty23 (by rfl)) rfl rfl rfl hc209 (.c rfl .nil) (.cons rfl .nil) ?_
              obtain ⟨y214, hy215, h⟩ := bind_some h
              refine .gv (f_callP hgl (by rfl) en9 rfl (by rfl) (by rfl) (by rfl) (F9_path_Shared_ok hy215)) rfl rfl rfl hc209 (.c rfl (.c rfl .nil)) .nil ?_
              refine .gv (f_minI (by rfl)) rfl rfl rfl hc209 (.c rfl (.c rfl .nil)) .nil ?_
              refine .gv (f_binI (by rfl) rfl (by rfl)) rfl rfl rfl hc209 (.c rfl (.c rfl .nil)) .nil ?_
              refine .v (f_pick_true (by rfl) hc209) rfl (.c rfl (.c rfl .nil)) .nil ?_
              refine .v (f_move (by rfl)) rfl (.c rfl .nil) .nil ?_
              rcases Bool.eq_false_or_eq_true (decide (y210 ≥ (if y214 < y212 then y214 else y212))) with hc216 | hc216
              · replace h := ite_t hc216 h
                refine .gv (f_load (n := 0) (o := 3) (off := 0) (p := []) (c := .d (eA22 a0)) (z := .d (eA22 a0)) (by rfl) rfl ty23 (by rfl)) rfl rfl rfl hc216 (.c rfl .nil) (.cons rfl .nil) ?_
                refine .gv (f_load (n := 0) (o := 4) (off := 0) (p := []) (c := .d (eA22 a1)) (z := .d (eA22 a1)) (by rfl) rfl ty23 (by rfl)) rfl rfl rfl hc216 (.c rfl .nil) (.cons rfl .nil) ?_
                obtain ⟨y217, hy218, h⟩ := bind_some h
                refine .gv (f_callP hgl (by rfl) en9 rfl (by rfl) (by rfl) (by rfl) (F9_path_Shared_ok hy218)) rfl rfl rfl hc216 (.c rfl (.c rfl .nil)) .nil ?_
                refine .gv (f_load (n := 0) (o := 4) (off := 0) (p := []) (c := .d (eA22 a1)) (z := .d (eA22 a1)) (by rfl) rfl ty23 (by rfl)) rfl rfl rfl hc216 (.c rfl .nil) (.cons rfl .nil) ?_
                refine .gv (f_load (n := 0) (o := 3) (off := 0) (p := []) (c := .d (eA22 a0)) (z := .d (eA22 a0)) (by rfl) rfl ty23 (by rfl)) rfl rfl rfl hc216 (.c rfl .nil) (.cons rfl .nil) ?_
                obtain ⟨y219, hy220, h⟩ := bind_some h
                refine .gv (f_callP hgl (by rfl) en9 rfl (by rfl) (by rfl) (by rfl) (F9_path_Shared_ok hy220)) rfl rfl rfl hc216 (.c rfl (.c rfl .nil)) .nil ?_
                refine .gv (f_binI (by rfl) rfl (by rfl)) rfl rfl rfl hc216 (.c rfl (.c rfl .nil)) .nil ?_
                refine .v (f_pick_true (by rfl) hc216) rfl (.c rfl (.c rfl .nil)) .nil ?_
                refine .v (f_move (by rfl)) rfl (.c rfl .nil) .nil ?_
                rcases Bool.eq_false_or_eq_true (y217 == y219) with hc221 | hc221
                · replace h := ite_t hc221 h
                  refine .gv (f_load (n := 0) (o := 3) (off := 0) (p := []) (c := .d (eA22 a0)) (z := .d (eA22 a0)) (by rfl) rfl ty23 (by rfl)) rfl rfl rfl hc221 (.c rfl .nil) (.cons rfl .nil) ?_
                  refine .gv (f_load (n := 0) (o := 4) (off := 0) (p := []) (c := .d (eA22 a1)) (z := .d (eA22 a1)) (by rfl) rfl ty23 (by rfl)) rfl rfl rfl hc221 (.c rfl .nil) (.cons rfl .nil) ?_
                  obtain ⟨y222, hy223, h⟩ := bind_some h
                  refine .gv (f_callP hgl (by rfl) en9 rfl (by rfl) (by rfl) (by rfl) (F9_path_Shared_ok hy223)) rfl rfl rfl hc221 (.c rfl (.c rfl .nil)) .nil ?_
                  refine .gv (f_binI (by rfl) rfl (by rfl)) rfl rfl rfl hc221 (.c rfl (.c rfl .nil)) .nil ?_
                  refine .gv (f_load (n := 0) (o := 3) (off := 0) (p := []) (c := .d (eA22 a0)) (z := .d (eA22 a0)) (by rfl) rfl ty23 (by rfl)) rfl rfl rfl hc221 (.c rfl .nil) (.cons rfl .nil) ?_
                  refine .gv (f_load (n := 0) (o := 4) (off := 0) (p := []) (c := .d (eA22 a1)) (z := .d (eA22 a1)) (by rfl) rfl ty23 (by rfl)) rfl rfl rfl hc221 (.c rfl .nil) (.cons rfl .nil) ?_
                  refine .gv (f_eqlT (by rfl) (fit23 _) (fit23 _) (by rfl) (by rfl) gd23 (eq_eA22 _ _)) rfl rfl rfl hc221 (.c rfl (.c rfl .nil)) .nil ?_
                  refine .gv (f_eqlB (by rfl) un4) rfl rfl rfl hc221 (.c rfl (.c rfl .nil)) .nil ?_
                  refine .v (f_pick_true (by rfl) hc221) rfl (.c rfl (.c rfl .nil)) .nil ?_
                  refine .v (f_assign (by rfl)) rfl (.c rfl .nil) .nil ?_
                  refine .nil (by kernel_rfl) ?_
                  refine aw_ret ?_
                  obtain rfl := Option.some.inj h
                  exact aq_finp hb0 rfl (.tmp rfl (by rfl) .nil) (by rfl) rfl ⟨rfl, rfl⟩
                · replace h := ite_f hc221 h
                  refine .off rfl rfl rfl hc221 rfl (by rfl) ?_
                  refine .off rfl rfl rfl hc221 rfl (by rfl) ?_
                  refine .off rfl rfl rfl hc221 rfl (by rfl) ?_
                  refine .off rfl rfl rfl hc221 rfl (by rfl) ?_
                  refine .off rfl rfl rfl hc221 rfl (by rfl) ?_
                  refine .off rfl rfl rfl hc221 rfl (by rfl) ?_
                  refine .off rfl rfl rfl hc221 rfl (by rfl) ?_
                  refine .off rfl rfl rfl hc221 rfl (by rfl) ?_
                  refine .v (f_pick_false (by rfl) hc221) rfl (.c rfl (.c rfl .nil)) .nil ?_
                  refine .v (f_assign (by rfl)) rfl (.c rfl .nil) .nil ?_
                  refine .nil (by kernel_rfl) ?_
                  refine aw_ret ?_
                  obtain rfl := Option.some.inj h
                  exact aq_finp hb0 rfl (.tmp rfl (by rfl) .nil) (by rfl) rfl ⟨rfl, rfl⟩
              · replace h := ite_f hc216 h
                refine .off rfl rfl rfl hc216 rfl (by rfl) ?_
                refine .off rfl rfl rfl hc216 rfl (by rfl) ?_
                refine .off rfl rfl rfl hc216 rfl (by rfl) ?_
                refine .off rfl rfl rfl hc216 rfl (by rfl) ?_
                refine .off rfl rfl rfl hc216 rfl (by rfl) ?_
                refine .off rfl rfl rfl hc216 rfl (by rfl) ?_
                refine .off rfl rfl rfl hc216 rfl (by rfl) ?_
                refine .v (f_pick_false (by rfl) hc216) rfl (.c rfl (.c rfl .nil)) .nil ?_
                refine .v (f_move (by rfl)) rfl (.c rfl .nil) .nil ?_
                refine .off rfl rfl rfl rfl rfl (by rfl) ?_
                refine .off rfl rfl rfl rfl rfl (by rfl) ?_
                refine .off rfl rfl rfl rfl rfl (by rfl) ?_
                refine .off rfl rfl rfl rfl rfl (by rfl) ?_
                refine .off rfl rfl rfl rfl rfl (by rfl) ?_
                refine .off rfl rfl rfl rfl rfl (by rfl) ?_
                refine .off rfl rfl rfl rfl rfl (by rfl) ?_
                refine .off rfl rfl rfl rfl rfl (by rfl) ?_
                refine .v (f_pick_false (by rfl) rfl) rfl (.c rfl (.c rfl .nil)) .nil ?_
                refine .v (f_assign (by rfl)) rfl (.c rfl .nil) .nil ?_
                refine .nil (by kernel_rfl) ?_
                refine aw_ret ?_
                obtain rfl := Option.some.inj h
                exact aq_finp hb0 rfl (.tmp rfl (by rfl) .nil) (by rfl) rfl ⟨rfl, rfl⟩
            · replace h := ite_f hc209 h
              refine .off rfl rfl rfl hc209 rfl (by rfl) ?_
              refine .off rfl rfl rfl hc209 rfl (by rfl) ?_
              refine .off rfl rfl rfl hc209 rfl (by rfl) ?_
              refine .off rfl rfl rfl hc209 rfl (by rfl) ?_
              refine .off rfl rfl rfl hc209 rfl (by rfl) ?_
              refine .off rfl rfl rfl hc209 rfl (by rfl) ?_
              refine .off rfl rfl rfl hc209 rfl (by rfl) ?_
              refine .off rfl rfl rfl hc209 rfl (by rfl) ?_
              refine .off rfl rfl rfl hc209 rfl (by rfl) ?_
              refine .off rfl rfl rfl hc209 rfl (by rfl) ?_
              refine .off rfl rfl rfl hc209 rfl (by rfl) ?_
              refine .v (f_pick_false (by rfl) hc209) rfl (.c rfl (.c rfl .nil)) .nil ?_
              refine .v (f_move (by rfl)) rfl (.c rfl .nil) .nil ?_
              refine .off rfl rfl rfl rfl rfl (by rfl) ?_
              refine .off rfl rfl rfl rfl rfl (by rfl) ?_
              refine .off rfl rfl rfl rfl rfl (by rfl) ?_
              refine .off rfl rfl rfl rfl rfl (by rfl) ?_
              refine .off rfl rfl rfl rfl rfl (by rfl) ?_
              refine .off rfl rfl rfl rfl rfl (by rfl) ?_
              refine .off rfl rfl rfl rfl rfl (by rfl) ?_
              refine .v (f_pick_false (by rfl) rfl) rfl (.c rfl (.c rfl .nil)) .nil ?_
              refine .v (f_move (by rfl)) rfl (.c rfl .nil) .nil ?_
              refine .off rfl rfl rfl rfl rfl (by rfl) ?_
              refine .off rfl rfl rfl rfl rfl (by rfl) ?_
              refine .off rfl rfl rfl rfl rfl (by rfl) ?_
              refine .off rfl rfl rfl rfl rfl (by rfl) ?_
              refine .off rfl rfl rfl rfl rfl (by rfl) ?_
              refine .off rfl rfl rfl rfl rfl (by rfl) ?_
              refine .off rfl rfl rfl rfl rfl (by rfl) ?_
              refine .off rfl rfl rfl rfl rfl (by rfl) ?_
              refine .v (f_pick_false (by rfl) rfl) rfl (.c rfl (.c rfl .nil)) .nil ?_
              refine .v (f_assign (by rfl)) rfl (.c rfl .nil) .nil ?_
              refine .nil (by kernel_rfl) ?_
              refine aw_ret ?_
              obtain rfl := Option.some.inj h
              exact aq_finp hb0 rfl (.tmp rfl (by rfl) .nil) (by rfl) rfl ⟨rfl, rfl⟩
        · replace h := ite_f hc187 h
          refine .off rfl rfl rfl hc187 rfl (by rfl) ?_
          refine .off rfl rfl rfl hc187 rfl (by rfl) ?_
          refine .off rfl rfl rfl hc187 rfl (by rfl) ?_
          refine .v (f_pick_false (by rfl) hc187) rfl (.c rfl (.c rfl .nil)) .nil ?_
          refine .v (f_move (by rfl)) rfl (.c rfl .nil) .nil ?_
          refine .off rfl rfl rfl rfl rfl (by rfl) ?_
          refine .off rfl rfl rfl rfl rfl (by rfl) ?_
          refine .off rfl rfl rfl rfl rfl (by rfl) ?_
          refine .off rfl rfl rfl rfl rfl (by rfl) ?_
          refine .v (f_pick_false (by rfl) rfl) rfl (.c rfl (.c rfl .nil)) .nil ?_
          refine .nil (aq_then ?_)
          refine aw_cond rfl (fun hx => absurd (hx.symm.trans rfl) (by simp)) (fun _ => ?_)
          refine aw_skip ?_
          refine aq_then ?_
          refine aw_rds ?_
          refine .v (f_move (by rfl)) rfl (.c rfl .nil) .nil ?_
          refine .v (f_move (by rfl)) rfl (.c rfl .nil) .nil ?_
          rcases Bool.eq_false_or_eq_true y1 with hc224 | hc224
          · replace h := ite_t hc224 h
            refine .gv (f_load (n := 0) (o := 3) (off := 0) (p := []) (c := .d (eA22 a0)) (z := .d (eA22 a0)) (by rfl) rfl ty23 (by rfl)) rfl rfl rfl hc224 (.c rfl .nil) (.cons rfl .nil) ?_
            refine .gv (f_load (n := 0) (o := 5) (off := 0) (p := []) (c := .d (eA22 a2)) (z := .d (eA22 a2)) (by rfl) rfl ty23 (by rfl)) rfl rfl rfl hc224 (.c rfl .nil) (.cons rfl .nil) ?_
            obtain ⟨y225, hy226, h⟩ := bind_some h
            refine .gv (f_callP hgl (by rfl) en9 rfl (by rfl) (by rfl) (by rfl) (F9_path_Shared_ok hy226)) rfl rfl rfl hc224 (.c rfl (.c rfl .nil)) .nil ?_
            refine .gv (f_load (n := 0) (o := 3) (off := 0) (p := []) (c := .d (eA22 a0)) (z := .d (eA22 a0)) (by rfl) rfl ty23 (by rfl)) rfl rfl rfl hc224 (.c rfl .nil) (.cons rfl .nil) ?_
            refine .gv (f_load (n := 0) (o := 4) (off := 0) (p := []) (c := .d (eA22 a1)) (z := .d (eA22 a1)) (by rfl) rfl ty23 (by rfl)) rfl rfl rfl hc224 (.c rfl .nil) (.cons rfl .nil) ?_
            obtain ⟨y227, hy228, h⟩ := bind_some h
            refine .gv (f_callP hgl (by rfl) en9 rfl (by rfl) (by rfl) (by rfl) (F9_path_Shared_ok hy228)) rfl rfl rfl hc224 (.c rfl (.c rfl .nil)) .nil ?_
            refine .gv (f_load (n := 0) (o := 4) (off := 0) (p := []) (c := .d (eA22 a1)) (z := .d (eA22 a1)) (by rfl) rfl ty23 (by rfl)) rfl rfl rfl hc224 (.c rfl .nil) (.cons rfl .nil) ?_
            refine .gv (f_load (n := 0) (o := 5) (off := 0) (p := []) (c := .d (eA22 a2)) (z := .d (eA22 a2)) (by rfl) rfl ty23 (by rfl)) rfl rfl rfl hc224 (.c rfl .nil) (.cons rfl .nil) ?_
            obtain ⟨y229, hy230, h⟩ := bind_some h
            refine .gv (f_callP hgl (by rfl) en9 rfl (by rfl) (by rfl) (by rfl) (F9_path_Shared_ok hy230)) rfl rfl rfl hc224 (.c rfl (.c rfl .nil)) .nil ?_
            refine .gv (f_minI (by rfl)) rfl rfl rfl hc224 (.c rfl (.c rfl .nil)) .nil ?_
            refine .gv (f_binI (by rfl) rfl (by rfl)) rfl rfl rfl hc224 (.c rfl (.c rfl .nil)) .nil ?_
            refine .v (f_pick_true (by rfl) hc224) rfl (.c rfl (.c rfl .nil)) .nil ?_
            refine .v (f_move (by rfl)) rfl (.c rfl .nil) .nil ?_
            rcases Bool.eq_false_or_eq_true (decide (y225 ≥ (if y229 < y227 then y229 else y227))) with hc231 | hc231
            · replace h := ite_t hc231 h
              refine .gv (f_load (n := 0) (o := 3) (off := 0) (p := []) (c := .d (eA22 a0)) (z := .d (eA22 a0)) (by rfl) rfl ty23 (by rfl)) rfl rfl rfl hc231 (.c rfl .nil) (.cons rfl .nil) ?_
              refine .gv (f_load (n := 0) (o := 4) (off := 0) (p := []) (c := .d (eA22 a1)) (z := .d (eA22 a1)) (by rfl) rfl ty23 (by rfl)) rfl rfl rfl hc231 (.c rfl .nil) (.cons rfl .nil) ?_
              obtain ⟨y232, hy233, h⟩ := bind_some h
              refine .gv (f_callP hgl (by rfl) en9 rfl (by rfl) (by rfl) (by rfl) (F9_path_Shared_ok hy233)) rfl rfl rfl hc231 (.c rfl (.c rfl .nil)) .nil ?_
              refine .gv (f_load (n := 0) (o := 4) (off := 0) (p := []) (c := .d (eA22 a1)) (z := .d (eA22 a1)) (by rfl) rfl ty23 (by rfl)) rfl rfl rfl hc231 (.c rfl .nil) (.cons rfl .nil) ?_
              refine .gv (f_load (n := 0) (o := 3) (off := 0) (p := []) (c := .d (eA22 a0)) (z := .d (eA22 a0)) (by rfl) rfl ty23 (by rfl)) rfl rfl rfl hc231 (.c rfl .nil) (.cons rfl .nil) ?_
              obtain ⟨y234, hy235, h⟩ := bind_some h
              refine .gv (f_callP hgl (by rfl) en9 rfl (by rfl) (by rfl) (by rfl) (F9_path_Shared_ok hy235)) rfl rfl rfl hc231 (.c rfl (.c rfl .nil)) .nil ?_
              refine .gv (f_binI (by rfl) rfl (by rfl)) rfl rfl rfl hc231 (.c rfl (.c rfl .nil)) .nil ?_
              refine .v (f_pick_true (by rfl) hc231) rfl (.c rfl (.c rfl .nil)) .nil ?_
              refine .v (f_move (by rfl)) rfl (.c rfl .nil) .nil ?_
              rcases Bool.eq_false_or_eq_true (y232 == y234) with hc236 | hc236
              · replace h := ite_t hc236 h
                refine .gv (f_load (n := 0) (o := 3) (off := 0) (p := []) (c := .d (eA22 a0)) (z := .d (eA22 a0)) (by rfl) rfl ty23 (by rfl)) rfl rfl rfl hc236 (.c rfl .nil) (.cons rfl .nil) ?_
                refine .gv (f_load (n := 0) (o := 4) (off := 0) (p := []) (c := .d (eA22 a1)) (z := .d (eA22 a1)) (by rfl) rfl ty23 (by rfl)) rfl rfl rfl hc236 (.c rfl .nil) (.cons rfl .nil) ?_
                obtain ⟨y237, hy238, h⟩ := bind_some h
                refine .gv (f_callP hgl (by rfl) en9 rfl (by rfl) (by rfl) (by rfl) (F9_path_Shared_ok hy238)) rfl rfl rfl hc236 (.c rfl (.c rfl .nil)) .nil ?_
                refine .gv (f_binI (by rfl) rfl (by rfl)) rfl rfl rfl hc236 (.c rfl (.c rfl .nil)) .nil ?_
                refine .gv (f_load (n := 0) (o := 3) (off := 0) (p := []) (c := .d (eA22 a0)) (z := .d (eA22 a0)) (by rfl) rfl ty23 (by rfl)) rfl rfl rfl hc236 (.c rfl .nil) (.cons rfl .nil) ?_
                refine .gv (f_load (n := 0) (o := 4) (off := 0) (p := []) (c := .d (eA22 a1)) (z := .d (eA22 a1)) (by rfl) rfl ty23 (by rfl)) rfl rfl rfl hc236 (.c rfl .nil) (.cons rfl .nil) ?_
                refine .gv (f_eqlT (by rfl) (fit23 _) (fit23 _) (by rfl) (by rfl) gd23 (eq_eA22 _ _)) rfl rfl rfl hc236 (.c rfl (.c rfl .nil)) .nil ?_
                refine .gv (f_eqlB (by rfl) un4) rfl rfl rfl hc236 (.c rfl (.c rfl .nil)) .nil ?_
                refine .v (f_pick_true (by rfl) hc236) rfl (.c rfl (.c rfl .nil)) .nil ?_
                refine .v (f_assign (by rfl)) rfl (.c rfl .nil) .nil ?_
                refine .nil (by kernel_rfl) ?_
                refine aw_ret ?_
                obtain rfl := Option.some.inj h
                exact aq_finp hb0 rfl (.tmp rfl (by rfl) .nil) (by rfl) rfl ⟨rfl, rfl⟩
              · replace h := ite_f hc236 h
                refine .off rfl rfl rfl hc236 rfl (by rfl) ?_
                refine .off rfl rfl rfl hc236 rfl (by rfl) ?_
                refine .off rfl rfl rfl hc236 rfl (by rfl) ?_
                refine .off rfl rfl rfl hc236 rfl (by rfl) ?_
                refine .off rfl rfl rfl hc236 rfl (by rfl) ?_
                refine .off rfl rfl rfl hc236 rfl (by rfl) ?_
                refine .off rfl rfl rfl hc236 rfl (by rfl) ?_
                refine .off rfl rfl rfl hc236 rfl (by rfl) ?_
                refine .v (f_pick_false (by rfl) hc236) rfl (.c rfl (.c rfl .nil)) .nil ?_
                refine .v (f_assign (by rfl)) rfl (.c rfl .nil) .nil ?_
                refine .nil (by kernel_rfl) ?_
                refine aw_ret ?_
                obtain rfl := Option.some.inj h
                exact aq_finp hb0 rfl (.tmp rfl (by rfl) .nil) (by rfl) rfl ⟨rfl, rfl⟩
            · replace h := ite_f hc231 h
              refine .off rfl rfl rfl hc231 rfl (by rfl) ?_
              refine .off rfl rfl rfl hc231 rfl (by rfl) ?_
              refine .off rfl rfl rfl hc231 rfl (by rfl) ?_
              refine .off rfl rfl rfl hc231 rfl (by rfl) ?_
              refine .off rfl rfl rfl hc231 rfl (by rfl) ?_
              refine .off rfl rfl rfl hc231 rfl (by rfl) ?_
              refine .off rfl rfl rfl hc231 rfl (by rfl) ?_
              refine .v (f_pick_false (by rfl) hc231) rfl (.c rfl (.c rfl .nil)) .nil ?_
              refine .v (f_move (by rfl)) rfl (.c rfl .nil) .nil ?_
              refine .off rfl rfl rfl rfl rfl (by rfl) ?_
              refine .off rfl rfl rfl rfl rfl (by rfl) ?_
              refine .off rfl rfl rfl rfl rfl (by rfl) ?_
              refine .off rfl rfl rfl rfl rfl (by rfl) ?_
              refine .off rfl rfl rfl rfl rfl (by rfl) ?_
              refine .off rfl rfl rfl rfl rfl (by rfl) ?_
              refine .off rfl rfl rfl rfl rfl (by rfl) ?_
              refine .off rfl rfl rfl rfl rfl (by rfl) ?_
              refine .v (f_pick_false (by rfl) rfl) rfl (.c rfl (.c rfl .nil)) .nil ?_
              refine .v (f_assign (by rfl)) rfl (.c rfl .nil) .nil ?_
              refine .nil (by kernel_rfl) ?_
              refine aw_ret ?_
              obtain rfl := Option.some.inj h
              exact aq_finp hb0 rfl (.tmp rfl (by rfl) .nil) (by rfl) rfl ⟨rfl, rfl⟩
          · replace h := ite_f hc224 h
            refine .off rfl rfl rfl hc224 rfl (by rfl) ?_
            refine .off rfl rfl rfl hc224 rfl (by rfl) ?_
            refine .off rfl rfl rfl hc224 rfl (by rfl) ?_
            refine .off rfl rfl rfl hc224 rfl (by rfl) ?_
            refine .off rfl rfl rfl hc224 rfl (by rfl) ?_
            refine .off rfl rfl rfl hc224 rfl (by rfl) ?_
            refine .off rfl rfl rfl hc224 rfl (by rfl) ?_
            refine .off rfl rfl rfl hc224 rfl (by rfl) ?_
            refine .off rfl rfl rfl hc224 rfl (by rfl) ?_
            refine .off rfl rfl rfl hc224 rfl (by rfl) ?_
            refine .off rfl rfl rfl hc224 rfl (by rfl) ?_
            refine .v (f_pick_false (by rfl) hc224) rfl (.c rfl (.c rfl .nil)) .nil ?_
            refine .v (f_move (by rfl)) rfl (.c rfl .nil) .nil ?_
            refine .off rfl rfl rfl rfl rfl (by rfl) ?_
            refine .off rfl rfl rfl rfl rfl (by rfl) ?_
            refine .off rfl rfl rfl rfl rfl (by rfl) ?_
            refine .off rfl rfl rfl rfl rfl (by rfl) ?_
            refine .off rfl rfl rfl rfl rfl (by rfl) ?_
            refine .off rfl rfl rfl rfl rfl (by rfl) ?_
            refine .off rfl rfl rfl rfl rfl (by rfl) ?_
            refine .v (f_pick_false (by rfl) rfl) rfl (.c rfl (.c rfl .nil)) .nil ?_
            refine .v (f_move (by rfl)) rfl (.c rfl .nil) .nil ?_
            refine .off rfl rfl rfl rfl rfl (by rfl) ?_
            refine .off rfl rfl rfl rfl rfl (by rfl) ?_
            refine .off rfl rfl rfl rfl rfl (by rfl) ?_
            refine .off rfl rfl rfl rfl rfl (by rfl) ?_
            refine .off rfl rfl rfl rfl rfl (by rfl) ?_
            refine .off rfl rfl rfl rfl rfl (by rfl) ?_
            refine .off rfl rfl rfl rfl rfl (by rfl) ?_
            refine .off rfl rfl rfl rfl rfl (by rfl) ?_
            refine .v (f_pick_false (by rfl) rfl) rfl (.c rfl (.c rfl .nil)) .nil ?_
            refine .v (f_assign (by rfl)) rfl (.c rfl .nil) .nil ?_
            refine .nil (by kernel_rfl) ?_
            refine aw_ret ?_
            obtain rfl := Option.some.inj h
            exact aq_finp hb0 rfl (.tmp rfl (by rfl) .nil) (by rfl) rfl ⟨rfl, rfl⟩

/- 4: beadroll/beadrolllaw04.PathNames -/
def F4_beadrolllaw04_PathNames (n : Nat)  : Option (Bool) :=
  ((F10_path_Bit n (List.replicate 32 (0 : Int)) (256 : Int)).bind fun (y1 : Int × Int) => ((F11_path_Turn n ((List.replicate 32 (0 : Int)).set 0 (129 : Int)) (7 : Int)).bind fun (y3 : (List Int) × Int) => ((F7_beadrolllaw04_alive n ).bind fun (y5 : Bool) => (if y5 = true then (if (y1.2 == (2 : Int)) = true then ((F9_path_Shared n ((List.replicate 32 (0 : Int)).set 0 (5 : Int)) ((List.replicate 32 (0 : Int)).set 0 (5 : Int))).bind fun (y9 : Int) => (if (y9 == (256 : Int)) = true then ((F8_path_Ahead n ((List.replicate 32 (0 : Int)).set 0 (127 : Int)) ((List.replicate 32 (0 : Int)).set 0 (128 : Int))).bind fun (y12 : Bool) => (if y12 = true then ((F8_path_Ahead n ((List.replicate 32 (0 : Int)).set 0 (5 : Int)) ((List.replicate 32 (0 : Int)).set 0 (5 : Int))).bind fun (y15 : Bool) => (if (!y15) = true then (if (y3.2 == (0 : Int)) = true then some ((decide (y3.1 = ((List.replicate 32 (0 : Int)).set 0 (128 : Int))))) else some (false)) else some (false))) else some (false))) else some (false))) else some (false)) else some (false)))))
theorem F4_beadrolllaw04_PathNames_ok {n : Nat}  {r : Bool} (h : F4_beadrolllaw04_PathNames n  = some r) :
    ACall Try.prog [] 4 [] [] (fun r' hp' => r' = .d (.val (.bool r)) ∧ hp' = []) := by
  refine acall_of_body mixed Try.func4 rfl (by rfl) ?_
  intro C hro hgl hb0
  unfold F4_beadrolllaw04_PathNames at h
  refine aw_rs ?_
  refine .v (f_assign (by rfl)) rfl (.c rfl .nil) .nil ?_
  refine .nil (aq_then ?_)
  refine aw_rs ?_
  refine .v (f_build (xs := []) (z' := .d (eA22 (List.replicate 32 (0 : Int)))) (by rfl) zr23 ag23 rfl (by rfl) trivial (by rfl) (by rfl)) rfl .nil .nil ?_
  obtain ⟨y1, hy2, h⟩ := bind_some h
  refine .v (f_callP hgl (by rfl) en10 rfl (by rfl) (by rfl) (by rfl) (F10_path_Bit_ok hy2)) rfl (.c rfl (.c rfl .nil)) .nil ?_
  refine .v (f_move (by rfl)) rfl (.c rfl .nil) .nil ?_
  refine .v (f_extract (by rfl) rfl) rfl (.c rfl .nil) .nil ?_
  refine .v (f_extract (by rfl) rfl) rfl (.c rfl .nil) .nil ?_
  refine .v (f_assign (by rfl)) rfl (.c rfl .nil) .nil ?_
  refine .v (f_assign (by rfl)) rfl (.c rfl .nil) .nil ?_
  refine .nil (aq_then ?_)
  refine aw_rs ?_
  refine .v (f_build (xs := [(0, .d (.val (.int .u8 (129 : Int))))]) (z' := .d (eA22 ((List.replicate 32 (0 : Int)).set 0 (129 : Int)))) (by rfl) zr23 ag23 rfl (by rfl) ⟨_, _, _, rfl, pl23_0, rfl, rfl, trivial⟩ (by rfl) (by rfl)) rfl (.c rfl .nil) .nil ?_
  obtain ⟨y3, hy4, h⟩ := bind_some h
  refine .v (f_callP hgl (by rfl) en11 rfl (by rfl) (by rfl) (by rfl) (F11_path_Turn_ok hy4)) rfl (.c rfl (.c rfl .nil)) .nil ?_
  refine .v (f_move (by rfl)) rfl (.c rfl .nil) .nil ?_
  refine .v (f_extract (by rfl) rfl) rfl (.c rfl .nil) .nil ?_
  refine .v (f_extract (by rfl) rfl) rfl (.c rfl .nil) .nil ?_
  refine .n (f_alloc 3 (by rfl) zr23) rfl .nil rfl ?_
  refine .s (f_store (n := 0) (o := 3) (off := 0) (p := []) (c := .d (eA22 (List.replicate 32 (0 : Int)))) (old := .d (eA22 (List.replicate 32 (0 : Int)))) (z := .d (eA22 y3.1)) (c' := .d (eA22 y3.1)) rfl rfl (by rfl) ty23 (by rfl)) rfl (.c rfl (.c rfl .nil)) (.cons rfl .nil) ?_
  refine .v (f_assign (by rfl)) rfl (.c rfl .nil) .nil ?_
  refine .nil (aq_then ?_)
  refine aw_rs ?_
  refine .v (f_build (xs := [(0, .d (.val (.int .u8 (5 : Int))))]) (z' := .d (eA22 ((List.replicate 32 (0 : Int)).set 0 (5 : Int)))) (by rfl) zr23 ag23 rfl (by rfl) ⟨_, _, _, rfl, pl23_0, rfl, rfl, trivial⟩ (by rfl) (by rfl)) rfl (.c rfl .nil) .nil ?_
  refine .n (f_alloc 5 (by rfl) zr23) rfl .nil rfl ?_
  refine .s (f_store (n := 0) (o := 5) (off := 0) (p := []) (c := .d (eA22 (List.replicate 32 (0 : Int)))) (old := .d (eA22 (List.replicate 32 (0 : Int)))) (z := .d (eA22 ((List.replicate 32 (0 : Int)).set 0 (5 : Int)))) (c' := .d (eA22 ((List.replicate 32 (0 : Int)).set 0 (5 : Int)))) rfl rfl (by rfl) ty23 (by rfl)) rfl (.c rfl (.c rfl .nil)) (.cons rfl .nil) ?_
  refine .nil (aq_then ?_)
  refine aw_rs ?_
  obtain ⟨y5, hy6, h⟩ := bind_some h
  refine .v (f_callP hgl (by rfl) en7 rfl (by rfl) (by rfl) (by rfl) (F7_beadrolllaw04_alive_ok hy6)) rfl .nil .nil ?_
  refine .v (f_move (by rfl)) rfl (.c rfl .nil) .nil ?_
  rcases Bool.eq_false_or_eq_true y5 with hc7 | hc7
  · replace h := ite_t hc7 h
    refine .v (f_pick_true (by rfl) hc7) rfl (.c rfl (.c rfl .nil)) .nil ?_
    refine .v (f_move (by rfl)) rfl (.c rfl .nil) .nil ?_
    refine .v (f_pick_true (by rfl) rfl) rfl (.c rfl (.c rfl .nil)) .nil ?_
    refine .v (f_move (by rfl)) rfl (.c rfl .nil) .nil ?_
    refine .gv (f_move (by rfl)) rfl rfl rfl rfl (.c rfl .nil) .nil ?_
    refine .gv (f_binI (by rfl) rfl (by rfl)) rfl rfl rfl rfl (.c rfl (.c rfl .nil)) .nil ?_
    refine .v (f_pick_true (by rfl) rfl) rfl (.c rfl (.c rfl .nil)) .nil ?_
    refine .v (f_move (by rfl)) rfl (.c rfl .nil) .nil ?_
    rcases Bool.eq_false_or_eq_true (y1.2 == (2 : Int)) with hc8 | hc8
    · replace h := ite_t hc8 h
      refine .gv (f_load (n := 0) (o := 5) (off := 0) (p := []) (c := .d (eA22 ((List.replicate 32 (0 : Int)).set 0 (5 : Int)))) (z := .d (eA22 ((List.replicate 32 (0 : Int)).set 0 (5 : Int)))) (by rfl) rfl ty23 (by rfl)) rfl rfl rfl hc8 (.c rfl .nil) (.cons rfl .nil) ?_
      refine .gv (f_load (n := 0) (o := 5) (off := 0) (p := []) (c := .d (eA22 ((List.replicate 32 (0 : Int)).set 0 (5 : Int)))) (z := .d (eA22 ((List.replicate 32 (0 : Int)).set 0 (5 : Int)))) (by rfl) rfl ty23 (by rfl)) rfl rfl rfl hc8 (.c rfl .nil) (.cons rfl .nil) ?_
      obtain ⟨y9, hy10, h⟩ := bind_some h
      refine .gv (f_callP hgl (by rfl) en9 rfl (by rfl) (by rfl) (by rfl) (F9_path_Shared_ok hy10)) rfl rfl rfl hc8 (.c rfl (.c rfl .nil)) .nil ?_
      refine .gv (f_binI (by rfl) rfl (by rfl)) rfl rfl rfl hc8 (.c rfl (.c rfl .nil)) .nil ?_
      refine .v (f_pick_true (by rfl) hc8) rfl (.c rfl (.c rfl .nil)) .nil ?_
      refine .v (f_move (by rfl)) rfl (.c rfl .nil) .nil ?_
      rcases Bool.eq_false_or_eq_true (y9 == (256 : Int)) with hc11 | hc11
      · replace h := ite_t hc11 h
        refine .gv (f_build (xs := [(0, .d (.val (.int .u8 (127 : Int))))]) (z' := .d (eA22 ((List.replicate 32 (0 : Int)).set 0 (127 : Int)))) (by rfl) zr23 ag23 rfl (by rfl) ⟨_, _, _, rfl, pl23_0, rfl, rfl, trivial⟩ (by rfl) (by rfl)) rfl rfl rfl hc11 (.c rfl .nil) .nil ?_
        refine .gv (f_build (xs := [(0, .d (.val (.int .u8 (128 : Int))))]) (z' := .d (eA22 ((List.replicate 32 (0 : Int)).set 0 (128 : Int)))) (by rfl) zr23 ag23 rfl (by rfl) ⟨_, _, _, rfl, pl23_0, rfl, rfl, trivial⟩ (by rfl) (by rfl)) rfl rfl rfl hc11 (.c rfl .nil) .nil ?_
        obtain ⟨y12, hy13, h⟩ := bind_some h
        refine .gv (f_callP hgl (by rfl) en8 rfl (by rfl) (by rfl) (by rfl) (F8_path_Ahead_ok hy13)) rfl rfl rfl hc11 (.c rfl (.c rfl .nil)) .nil ?_
        refine .v (f_pick_true (by rfl) hc11) rfl (.c rfl (.c rfl .nil)) .nil ?_
        refine .v (f_move (by rfl)) rfl (.c rfl .nil) .nil ?_
        rcases Bool.eq_false_or_eq_true y12 with hc14 | hc14
        · replace h := ite_t hc14 h
          refine .gv (f_load (n := 0) (o := 5) (off := 0) (p := []) (c := .d (eA22 ((List.replicate 32 (0 : Int)).set 0 (5 : Int)))) (z := .d (eA22 ((List.replicate 32 (0 : Int)).set 0 (5 : Int)))) (by rfl) rfl ty23 (by rfl)) rfl rfl rfl hc14 (.c rfl .nil) (.cons rfl .nil) ?_
          refine .gv (f_load (n := 0) (o := 5) (off := 0) (p := []) (c := .d (eA22 ((List.replicate 32 (0 : Int)).set 0 (5 : Int)))) (z := .d (eA22 ((List.replicate 32 (0 : Int)).set 0 (5 : Int)))) (by rfl) rfl ty23 (by rfl)) rfl rfl rfl hc14 (.c rfl .nil) (.cons rfl .nil) ?_
          obtain ⟨y15, hy16, h⟩ := bind_some h
          refine .gv (f_callP hgl (by rfl) en8 rfl (by rfl) (by rfl) (by rfl) (F8_path_Ahead_ok hy16)) rfl rfl rfl hc14 (.c rfl (.c rfl .nil)) .nil ?_
          refine .gv (f_not (by rfl)) rfl rfl rfl hc14 (.c rfl .nil) .nil ?_
          refine .v (f_pick_true (by rfl) hc14) rfl (.c rfl (.c rfl .nil)) .nil ?_
          refine .v (f_move (by rfl)) rfl (.c rfl .nil) .nil ?_
          rcases Bool.eq_false_or_eq_true (!y15) with hc17 | hc17
          · replace h := ite_t hc17 h
            refine .gv (f_move (by rfl)) rfl rfl rfl hc17 (.c rfl .nil) .nil ?_
            refine .gv (f_binI (by rfl) rfl (by rfl)) rfl rfl rfl hc17 (.c rfl (.c rfl .nil)) .nil ?_
            refine .v (f_pick_true (by rfl) hc17) rfl (.c rfl (.c rfl .nil)) .nil ?_
            refine .v (f_move (by rfl)) rfl (.c rfl .nil) .nil ?_
            rcases Bool.eq_false_or_eq_true (y3.2 == (0 : Int)) with hc18 | hc18
            · replace h := ite_t hc18 h
              refine .gv (f_load (n := 0) (o := 3) (off := 0) (p := []) (c := .d (eA22 y3.1)) (z := .d (eA22 y3.1)) (by rfl) rfl ty23 (by rfl)) rfl rfl rfl hc18 (.c rfl .nil) (.cons rfl .nil) ?_
              refine .gv (f_build (xs := [(0, .d (.val (.int .u8 (128 : Int))))]) (z' := .d (eA22 ((List.replicate 32 (0 : Int)).set 0 (128 : Int)))) (by rfl) zr23 ag23 rfl (by rfl) ⟨_, _, _, rfl, pl23_0, rfl, rfl, trivial⟩ (by rfl) (by rfl)) rfl rfl rfl hc18 (.c rfl .nil) .nil ?_
              refine .gv (f_eqlT (by rfl) (fit23 _) (fit23 _) (by rfl) (by rfl) gd23 (eq_eA22 _ _)) rfl rfl rfl hc18 (.c rfl (.c rfl .nil)) .nil ?_
              refine .v (f_pick_true (by rfl) hc18) rfl (.c rfl (.c rfl .nil)) .nil ?_
              refine .v (f_assign (by rfl)) rfl (.c rfl .nil) .nil ?_
              refine .nil (aq_then ?_)
              refine aw_ret ?_
              obtain rfl := Option.some.inj h
              exact aq_finp hb0 rfl (.tmp rfl (by rfl) .nil) (by rfl) rfl ⟨rfl, rfl⟩
            · replace h := ite_f hc18 h
              refine .off rfl rfl rfl hc18 rfl (by rfl) ?_
              refine .off rfl rfl rfl hc18 rfl (by rfl) ?_
              refine .off rfl rfl rfl hc18 rfl (by rfl) ?_
              refine .v (f_pick_false (by rfl) hc18) rfl (.c rfl (.c rfl .nil)) .nil ?_
              refine .v (f_assign (by rfl)) rfl (.c rfl .nil) .nil ?_
              refine .nil (aq_then ?_)
              refine aw_ret ?_
              obtain rfl := Option.some.inj h
              exact aq_finp hb0 rfl (.tmp rfl (by rfl) .nil) (by rfl) rfl ⟨rfl, rfl⟩
          · replace h := ite_f hc17 h
            refine .off rfl rfl rfl hc17 rfl (by rfl) ?_
            refine .off rfl rfl rfl hc17 rfl (by rfl) ?_
            refine .v (f_pick_false (by rfl) hc17) rfl (.c rfl (.c rfl .nil)) .nil ?_
            refine .v (f_move (by rfl)) rfl (.c rfl .nil) .nil ?_
            refine .off rfl rfl rfl rfl rfl (by rfl) ?_
            refine .off rfl rfl rfl rfl rfl (by rfl) ?_
            refine .off rfl rfl rfl rfl rfl (by rfl) ?_
            refine .v (f_pick_false (by rfl) rfl) rfl (.c rfl (.c rfl .nil)) .nil ?_
            refine .v (f_assign (by rfl)) rfl (.c rfl .nil) .nil ?_
            refine .nil (aq_then ?_)
            refine aw_ret ?_
            obtain rfl := Option.some.inj h
            exact aq_finp hb0 rfl (.tmp rfl (by rfl) .nil) (by rfl) rfl ⟨rfl, rfl⟩
        · replace h := ite_f hc14 h
          refine .off rfl rfl rfl hc14 rfl (by rfl) ?_
          refine .off rfl rfl rfl hc14 rfl (by rfl) ?_
          refine .off rfl rfl rfl hc14 rfl (by rfl) ?_
          refine .off rfl rfl rfl hc14 rfl (by rfl) ?_
          refine .v (f_pick_false (by rfl) hc14) rfl (.c rfl (.c rfl .nil)) .nil ?_
          refine .v (f_move (by rfl)) rfl (.c rfl .nil) .nil ?_
          refine .off rfl rfl rfl rfl rfl (by rfl) ?_
          refine .off rfl rfl rfl rfl rfl (by rfl) ?_
          refine .v (f_pick_false (by rfl) rfl) rfl (.c rfl (.c rfl .nil)) .nil ?_
          refine .v (f_move (by rfl)) rfl (.c rfl .nil) .nil ?_
          refine .off rfl rfl rfl rfl rfl (by rfl) ?_
          refine .off rfl rfl rfl rfl rfl (by rfl) ?_
          refine .off rfl rfl rfl rfl rfl (by rfl) ?_
          refine .v (f_pick_false (by rfl) rfl) rfl (.c rfl (.c rfl .nil)) .nil ?_
          refine .v (f_assign (by rfl)) rfl (.c rfl .nil) .nil ?_
          refine .nil (aq_then ?_)
          refine aw_ret ?_
          obtain rfl := Option.some.inj h
          exact aq_finp hb0 rfl (.tmp rfl (by rfl) .nil) (by rfl) rfl ⟨rfl, rfl⟩
      · replace h := ite_f hc11 h
        refine .off rfl rfl rfl hc11 rfl (by rfl) ?_
        refine .off rfl rfl rfl hc11 rfl (by rfl) ?_
        refine .off rfl rfl rfl hc11 rfl (by rfl) ?_
        refine .v (f_pick_false (by rfl) hc11) rfl (.c rfl (.c rfl .nil)) .nil ?_
        refine .v (f_move (by rfl)) rfl (.c rfl .nil) .nil ?_
        refine .off rfl rfl rfl rfl rfl (by rfl) ?_
        refine .off rfl rfl rfl rfl rfl (by rfl) ?_
        refine .off rfl rfl rfl rfl rfl (by rfl) ?_
        refine .off rfl rfl rfl rfl rfl (by rfl) ?_
        refine .v (f_pick_false (by rfl) rfl) rfl (.c rfl (.c rfl .nil)) .nil ?_
        refine .v (f_move (by rfl)) rfl (.c rfl .nil) .nil ?_
        refine .off rfl rfl rfl rfl rfl (by rfl) ?_
        refine .off rfl rfl rfl rfl rfl (by rfl) ?_
        refine .v (f_pick_false (by rfl) rfl) rfl (.c rfl (.c rfl .nil)) .nil ?_
        refine .v (f_move (by rfl)) rfl (.c rfl .nil) .nil ?_
        refine .off rfl rfl rfl rfl rfl (by rfl) ?_
        refine .off rfl rfl rfl rfl rfl (by rfl) ?_
        refine .off rfl rfl rfl rfl rfl (by rfl) ?_
        refine .v (f_pick_false (by rfl) rfl) rfl (.c rfl (.c rfl .nil)) .nil ?_
        refine .v (f_assign (by rfl)) rfl (.c rfl .nil) .nil ?_
        refine .nil (aq_then ?_)
        refine aw_ret ?_
        obtain rfl := Option.some.inj h
        exact aq_finp hb0 rfl (.tmp rfl (by rfl) .nil) (by rfl) rfl ⟨rfl, rfl⟩
    · replace h := ite_f hc8 h
      refine .off rfl rfl rfl hc8 rfl (by rfl) ?_
      refine .off rfl rfl rfl hc8 rfl (by rfl) ?_
      refine .off rfl rfl rfl hc8 rfl (by rfl) ?_
      refine .off rfl rfl rfl hc8 rfl (by rfl) ?_
      refine .v (f_pick_false (by rfl) hc8) rfl (.c rfl (.c rfl .nil)) .nil ?_
      refine .v (f_move (by rfl)) rfl (.c rfl .nil) .nil ?_
      refine .off rfl rfl rfl rfl rfl (by rfl) ?_
      refine .off rfl rfl rfl rfl rfl (by rfl) ?_
      refine .off rfl rfl rfl rfl rfl (by rfl) ?_
      refine .v (f_pick_false (by rfl) rfl) rfl (.c rfl (.c rfl .nil)) .nil ?_
      refine .v (f_move (by rfl)) rfl (.c rfl .nil) .nil ?_
      refine .off rfl rfl rfl rfl rfl (by rfl) ?_
      refine .off rfl rfl rfl rfl rfl (by rfl) ?_
      refine .off rfl rfl rfl rfl rfl (by rfl) ?_
      refine .off rfl rfl rfl rfl rfl (by rfl) ?_
      refine .v (f_pick_false (by rfl) rfl) rfl (.c rfl (.c rfl .nil)) .nil ?_
      refine .v (f_move (by rfl)) rfl (.c rfl .nil) .nil ?_
      refine .off rfl rfl rfl rfl rfl (by rfl) ?_
      refine .off rfl rfl rfl rfl rfl (by rfl) ?_
      refine .v (f_pick_false (by rfl) rfl) rfl (.c rfl (.c rfl .nil)) .nil ?_
      refine .v (f_move (by rfl)) rfl (.c rfl .nil) .nil ?_
      refine .off rfl rfl rfl rfl rfl (by rfl) ?_
      refine .off rfl rfl rfl rfl rfl (by rfl) ?_
      refine .off rfl rfl rfl rfl rfl (by rfl) ?_
      refine .v (f_pick_false (by rfl) rfl) rfl (.c rfl (.c rfl .nil)) .nil ?_
      refine .v (f_assign (by rfl)) rfl (.c rfl .nil) .nil ?_
      refine .nil (aq_then ?_)
      refine aw_ret ?_
      obtain rfl := Option.some.inj h
      exact aq_finp hb0 rfl (.tmp rfl (by rfl) .nil) (by rfl) rfl ⟨rfl, rfl⟩
  · replace h := ite_f hc7 h
    refine .v (f_pick_false (by rfl) hc7) rfl (.c rfl (.c rfl .nil)) .nil ?_
    refine .v (f_move (by rfl)) rfl (.c rfl .nil) .nil ?_
    refine .v (f_pick_false (by rfl) rfl) rfl (.c rfl (.c rfl .nil)) .nil ?_
    refine .v (f_move (by rfl)) rfl (.c rfl .nil) .nil ?_
    refine .off rfl rfl rfl rfl rfl (by rfl) ?_
    refine .off rfl rfl rfl rfl rfl (by rfl) ?_
    refine .v (f_pick_false (by rfl) rfl) rfl (.c rfl (.c rfl .nil)) .nil ?_
    refine .v (f_move (by rfl)) rfl (.c rfl .nil) .nil ?_
    refine .off rfl rfl rfl rfl rfl (by rfl) ?_
    refine .off rfl rfl rfl rfl rfl (by rfl) ?_
    refine .off rfl rfl rfl rfl rfl (by rfl) ?_
    refine .off rfl rfl rfl rfl rfl (by rfl) ?_
    refine .v (f_pick_false (by rfl) rfl) rfl (.c rfl (.c rfl .nil)) .nil ?_
    refine .v (f_move (by rfl)) rfl (.c rfl .nil) .nil ?_
    refine .off rfl rfl rfl rfl rfl (by rfl) ?_
    refine .off rfl rfl rfl rfl rfl (by rfl) ?_
    refine .off rfl rfl rfl rfl rfl (by rfl) ?_
    refine .v (f_pick_false (by rfl) rfl) rfl (.c rfl (.c rfl .nil)) .nil ?_
    refine .v (f_move (by rfl)) rfl (.c rfl .nil) .nil ?_
    refine .off rfl rfl rfl rfl rfl (by rfl) ?_
    refine .off rfl rfl rfl rfl rfl (by rfl) ?_
    refine .off rfl rfl rfl rfl rfl (by rfl) ?_
    refine .off rfl rfl rfl rfl rfl (by rfl) ?_
    refine .v (f_pick_false (by rfl) rfl) rfl (.c rfl (.c rfl .nil)) .nil ?_
    refine .v (f_move (by rfl)) rfl (.c rfl .nil) .nil ?_
    refine .off rfl rfl rfl rfl rfl (by rfl) ?_
    refine .off rfl rfl rfl rfl rfl (by rfl) ?_
    refine .v (f_pick_false (by rfl) rfl) rfl (.c rfl (.c rfl .nil)) .nil ?_
    refine .v (f_move (by rfl)) rfl (.c rfl .nil) .nil ?_
    refine .off rfl rfl rfl rfl rfl (by rfl) ?_
    refine .off rfl rfl rfl rfl rfl (by rfl) ?_
    refine .off rfl rfl rfl rfl rfl (by rfl) ?_
    refine .v (f_pick_false (by rfl) rfl) rfl (.c rfl (.c rfl .nil)) .nil ?_
    refine .v (f_assign (by rfl)) rfl (.c rfl .nil) .nil ?_
    refine .nil (aq_then ?_)
    refine aw_ret ?_
    obtain rfl := Option.some.inj h
    exact aq_finp hb0 rfl (.tmp rfl (by rfl) .nil) (by rfl) rfl ⟨rfl, rfl⟩

/- 5: beadroll/beadrolllaw04.PathTells -/
def F5_beadrolllaw04_PathTells (n : Nat) (a0 : (List Int)) (a1 : (List Int)) (a2 : Int) : Option (Bool) :=
  ((F10_path_Bit n a0 a2).bind fun (y1 : Int × Int) => ((F12_beadrollref04_Bit n a0 a2).bind fun (y3 : Int × Int) => ((F11_path_Turn n a0 a2).bind fun (y5 : (List Int) × Int) => ((F13_beadrollref04_Turn n a0 a2).bind fun (y7 : (List Int) × Int) => (if (y1.1 == y3.1) = true then (if (y1.2 == y3.2) = true then (if (decide (y5.1 = y7.1)) = true then (if (y5.2 == y7.2) = true then ((F9_path_Shared n a0 a1).bind fun (y13 : Int) => ((F14_beadrollref04_Shared n a0 a1).bind fun (y15 : Int) => (if (y13 == y15) = true then ((F8_path_Ahead n a0 a1).bind fun (y18 : Bool) => ((F15_beadrollref04_Ahead n a0 a1).bind fun (y20 : Bool) => some ((y18 == y20)))) else some (false)))) else some (false)) else some (false)) else some (false)) else some (false))))))
theorem F5_beadrolllaw04_PathTells_ok {n : Nat} {a0 : (List Int)} {a1 : (List Int)} {a2 : Int} {r : Bool} (h : F5_beadrolllaw04_PathTells n a0 a1 a2 = some r) :
    ACall Try.prog [] 5 [.d (eA22 a0), .d (eA22 a1), .d (.val (.int .i64 a2))] [] (fun r' hp' => r' = .d (.val (.bool r)) ∧ hp' = []) := by
  refine acall_of_body mixed Try.func5 rfl (by rfl) ?_
  intro C hro hgl hb0
  unfold F5_beadrolllaw04_PathTells at h
  refine aw_rs ?_
  refine .n (f_box 3 (by rfl) (by rfl)) rfl (.c rfl .nil) rfl ?_
  refine .n (f_box 4 (by rfl) (by rfl)) rfl (.c rfl .nil) rfl ?_
  refine .v (f_assign (by rfl)) rfl (.c rfl .nil) .nil ?_
  refine .nil (aq_then ?_)
  refine aw_rs ?_
  refine .v (f_load (n := 0) (o := 3) (off := 0) (p := []) (c := .d (eA22 a0)) (z := .d (eA22 a0)) (by rfl) rfl ty23 (by rfl)) rfl (.c rfl .nil) (.cons rfl .nil) ?_
  refine .v (f_move (by rfl)) rfl (.c rfl .nil) .nil ?_
  obtain ⟨y1, hy2, h⟩ := bind_some h
  refine .v (f_callP hgl (by rfl) en10 rfl (by rfl) (by rfl) (by rfl) (F10_path_Bit_ok hy2)) rfl (.c rfl (.c rfl .nil)) .nil ?_
  refine .v (f_move (by rfl)) rfl (.c rfl .nil) .nil ?_
  refine .v (f_extract (by rfl) rfl) rfl (.c rfl .nil) .nil ?_
  refine .v (f_extract (by rfl) rfl) rfl (.c rfl .nil) .nil ?_
  refine .v (f_assign (by rfl)) rfl (.c rfl .nil) .nil ?_
  refine .v (f_assign (by rfl)) rfl (.c rfl .nil) .nil ?_
  refine .nil (aq_then ?_)
  refine aw_rs ?_
  refine .v (f_load (n := 0) (o := 3) (off := 0) (p := []) (c := .d (eA22 a0)) (z := .d (eA22 a0)) (by rfl) rfl ty23 (by rfl)) rfl (.c rfl .nil) (.cons rfl .nil) ?_
  refine .v (f_move (by rfl)) rfl (.c rfl .nil) .nil ?_
  obtain ⟨y3, hy4, h⟩ := bind_some h
  refine .v (f_callP hgl (by rfl) en12 rfl (by rfl) (by rfl) (by rfl) (F12_beadrollref04_Bit_ok hy4)) rfl (.c rfl (.c rfl .nil)) .nil ?_
  refine .v (f_move (by rfl)) rfl (.c rfl .nil) .nil ?_
  refine .v (f_extract (by rfl) rfl) rfl (.c rfl .nil) .nil ?_
  refine .v (f_extract (by rfl) rfl) rfl (.c rfl .nil) .nil ?_
  refine .v (f_assign (by rfl)) rfl (.c rfl .nil) .nil ?_
  refine .v (f_assign (by rfl)) rfl (.c rfl .nil) .nil ?_
  refine .nil (aq_then ?_)
  refine aw_rs ?_
  refine .v (f_load (n := 0) (o := 3) (off := 0) (p := []) (c := .d (eA22 a0)) (z := .d (eA22 a0)) (by rfl) rfl ty23 (by rfl)) rfl (.c rfl .nil) (.cons rfl .nil) ?_
  refine .v (f_move (by rfl)) rfl (.c rfl .nil) .nil ?_
  obtain ⟨y5, hy6, h⟩ := bind_some h
  refine .v (f_callP hgl (by rfl) en11 rfl (by rfl) (by rfl) (by rfl) (F11_path_Turn_ok hy6)) rfl (.c rfl (.c rfl .nil)) .nil ?_
  refine .v (f_move (by rfl)) rfl (.c rfl .nil) .nil ?_
  refine .v (f_extract (by rfl) rfl) rfl (.c rfl .nil) .nil ?_
  refine .v (f_extract (by rfl) rfl) rfl (.c rfl .nil) .nil ?_
  refine .n (f_alloc 11 (by rfl) zr23) rfl .nil rfl ?_
  refine .s (f_store (n := 0) (o := 11) (off := 0) (p := []) (c := .d (eA22 (List.replicate 32 (0 : Int)))) (old := .d (eA22 (List.replicate 32 (0 : Int)))) (z := .d (eA22 y5.1)) (c' := .d (eA22 y5.1)) rfl rfl (by rfl) ty23 (by rfl)) rfl (.c rfl (.c rfl .nil)) (.cons rfl .nil) ?_
  refine .v (f_assign (by rfl)) rfl (.c rfl .nil) .nil ?_
  refine .nil (aq_then ?_)
  refine aw_rs ?_
  refine .v (f_load (n := 0) (o := 3) (off := 0) (p := []) (c := .d (eA22 a0)) (z := .d (eA22 a0)) (by rfl) rfl ty23 (by rfl)) rfl (.c rfl .nil) (.cons rfl .nil) ?_
  refine .v (f_move (by rfl)) rfl (.c rfl .nil) .nil ?_
  obtain ⟨y7, hy8, h⟩ := bind_some h
  refine .v (f_callP hgl (by rfl) en13 rfl (by rfl) (by rfl) (by rfl) (F13_beadrollref04_Turn_ok hy8)) rfl (.c rfl (.c rfl .nil)) .nil ?_
  refine .v (f_move (by rfl)) rfl (.c rfl .nil) .nil ?_
  refine .v (f_extract (by rfl) rfl) rfl (.c rfl .nil) .nil ?_
  refine .v (f_extract (by rfl) rfl) rfl (.c rfl .nil) .nil ?_
  refine .n (f_alloc 13 (by rfl) zr23) rfl .nil rfl ?_
  refine .s (f_store (n := 0) (o := 13) (off := 0) (p := []) (c := .d (eA22 (List.replicate 32 (0 : Int)))) (old := .d (eA22 (List.replicate 32 (0 : Int)))) (z := .d (eA22 y7.1)) (c' := .d (eA22 y7.1)) rfl rfl (by rfl) ty23 (by rfl)) rfl (.c rfl (.c rfl .nil)) (.cons rfl .nil) ?_
  refine .v (f_assign (by rfl)) rfl (.c rfl .nil) .nil ?_
  refine .nil (aq_then ?_)
  refine aw_rds ?_
  refine .v (f_move (by rfl)) rfl (.c rfl .nil) .nil ?_
  refine .v (f_move (by rfl)) rfl (.c rfl .nil) .nil ?_
  refine .v (f_binI (by rfl) rfl (by rfl)) rfl (.c rfl (.c rfl .nil)) .nil ?_
  refine .v (f_move (by rfl)) rfl (.c rfl .nil) .nil ?_
  rcases Bool.eq_false_or_eq_true (y1.1 == y3.1) with hc9 | hc9
  · replace h := ite_t hc9 h
    refine .gv (f_move (by rfl)) rfl rfl rfl hc9 (.c rfl .nil) .nil ?_
    refine .gv (f_move (by rfl)) rfl rfl rfl hc9 (.c rfl .nil) .nil ?_
    refine .gv (f_binI (by rfl) rfl (by rfl)) rfl rfl rfl hc9 (.c rfl (.c rfl .nil)) .nil ?_
    refine .v (f_pick_true (by rfl) hc9) rfl (.c rfl (.c rfl .nil)) .nil ?_
    refine .v (f_move (by rfl)) rfl (.c rfl .nil) .nil ?_
    rcases Bool.eq_false_or_eq_true (y1.2 == y3.2) with hc10 | hc10
    · replace h := ite_t hc10 h
      refine .gv (f_load (n := 0) (o := 11) (off := 0) (p := []) (c := .d (eA22 y5.1)) (z := .d (eA22 y5.1)) (by rfl) rfl ty23 (by rfl)) rfl rfl rfl hc10 (.c rfl .nil) (.cons rfl .nil) ?_
      refine .gv (f_load (n := 0) (o := 13) (off := 0) (p := []) (c := .d (eA22 y7.1)) (z := .d (eA22 y7.1)) (by rfl) rfl ty23 (by rfl)) rfl rfl rfl hc10 (.c rfl .nil) (.cons rfl .nil) ?_
      refine .gv (f_eqlT (by rfl) (fit23 _) (fit23 _) (by rfl) (by rfl) gd23 (eq_eA22 _ _)) rfl rfl rfl hc10 (.c rfl (.c rfl .nil)) .nil ?_
      refine .v (f_pick_true (by rfl) hc10) rfl (.c rfl (.c rfl .nil)) .nil ?_
      refine .v (f_move (by rfl)) rfl (.c rfl .nil) .nil ?_
      rcases Bool.eq_false_or_eq_true (decide (y5.1 = y7.1)) with hc11 | hc11
      · replace h := ite_t hc11 h
        refine .gv (f_move (by rfl)) rfl rfl rfl hc11 (.c rfl .nil) .nil ?_
        refine .gv (f_move (by rfl)) rfl rfl rfl hc11 (.c rfl .nil) .nil ?_
        refine .gv (f_binI (by rfl) rfl (by rfl)) rfl rfl rfl hc11 (.c rfl (.c rfl .nil)) .nil ?_
        refine .v (f_pick_true (by rfl) hc11) rfl (.c rfl (.c rfl .nil)) .nil ?_
        refine .v (f_move (by rfl)) rfl (.c rfl .nil) .nil ?_
        rcases Bool.eq_false_or_eq_true (y5.2 == y7.2) with hc12 | hc12
        · replace h := ite_t hc12 h
          refine .gv (f_load (n := 0) (o := 3) (off := 0) (p := []) (c := .d (eA22 a0)) (z := .d (eA22 a0)) (by rfl) rfl ty23 (by rfl)) rfl rfl rfl hc12 (.c rfl .nil) (.cons rfl .nil) ?_
          refine .gv (f_load (n := 0) (o := 4) (off := 0) (p := []) (c := .d (eA22 a1)) (z := .d (eA22 a1)) (by rfl) rfl ty23 (by rfl)) rfl rfl rfl hc12 (.c rfl .nil) (.cons rfl .nil) ?_
          obtain ⟨y13, hy14, h⟩ := bind_some h
          refine .gv (f_callP hgl (by rfl) en9 rfl (by rfl) (by rfl) (by rfl) (F9_path_Shared_ok hy14)) rfl rfl rfl hc12 (.c rfl (.c rfl .nil)) .nil ?_
          refine .gv (f_load (n := 0) (o := 3) (off := 0) (p := []) (c := .d (eA22 a0)) (z := .d (eA22 a0)) (by rfl) rfl ty23 (by rfl)) rfl rfl rfl hc12 (.c rfl .nil) (.cons rfl .nil) ?_
          refine .gv (f_load (n := 0) (o := 4) (off := 0) (p := []) (c := .d (eA22 a1)) (z := .d (eA22 a1)) (by rfl) rfl ty23 (by rfl)) rfl rfl rfl hc12 (.c rfl .nil) (.cons rfl .nil) ?_
          obtain ⟨y15, hy16, h⟩ := bind_some h
          refine .gv (f_callP hgl (by rfl) en14 rfl (by rfl) (by rfl) (by rfl) (F14_beadrollref04_Shared_ok hy16)) rfl rfl rfl hc12 (.c rfl (.c rfl .nil)) .nil ?_
          refine .gv (f_binI (by rfl) rfl (by rfl)) rfl rfl rfl hc12 (.c rfl (.c rfl .nil)) .nil ?_
          refine .v (f_pick_true (by rfl) hc12) rfl (.c rfl (.c rfl .nil)) .nil ?_
          refine .v (f_move (by rfl)) rfl (.c rfl .nil) .nil ?_
          rcases Bool.eq_false_or_eq_true (y13 == y15) with hc17 | hc17
          · replace h := ite_t hc17 h
            refine .gv (f_load (n := 0) (o := 3) (off := 0) (p := []) (c := .d (eA22 a0)) (z := .d (eA22 a0)) (by rfl) rfl ty23 (by rfl)) rfl rfl rfl hc17 (.c rfl .nil) (.cons rfl .nil) ?_
            refine .gv (f_load (n := 0) (o := 4) (off := 0) (p := []) (c := .d (eA22 a1)) (z := .d (eA22 a1)) (by rfl) rfl ty23 (by rfl)) rfl rfl rfl hc17 (.c rfl .nil) (.cons rfl .nil) ?_
            obtain ⟨y18, hy19, h⟩ := bind_some h
            refine .gv (f_callP hgl (by rfl) en8 rfl (by rfl) (by rfl) (by rfl) (F8_path_Ahead_ok hy19)) rfl rfl rfl hc17 (.c rfl (.c rfl .nil)) .nil ?_
            refine .gv (f_load (n := 0) (o := 3) (off := 0) (p := []) (c := .d (eA22 a0)) (z := .d (eA22 a0)) (by rfl) rfl ty23 (by rfl)) rfl rfl rfl hc17 (.c rfl .nil) (.cons rfl .nil) ?_
            refine .gv (f_load (n := 0) (o := 4) (off := 0) (p := []) (c := .d (eA22 a1)) (z := .d (eA22 a1)) (by rfl) rfl ty23 (by rfl)) rfl rfl rfl hc17 (.c rfl .nil) (.cons rfl .nil) ?_
            obtain ⟨y20, hy21, h⟩ := bind_some h
            refine .gv (f_callP hgl (by rfl) en15 rfl (by rfl) (by rfl) (by rfl) (F15_beadrollref04_Ahead_ok hy21)) rfl rfl rfl hc17 (.c rfl (.c rfl .nil)) .nil ?_
            refine .gv (f_eqlB (by rfl) un4) rfl rfl rfl hc17 (.c rfl (.c rfl .nil)) .nil ?_
            refine .v (f_pick_true (by rfl) hc17) rfl (.c rfl (.c rfl .nil)) .nil ?_
            refine .v (f_assign (by rfl)) rfl (.c rfl .nil) .nil ?_
            refine .nil (by kernel_rfl) ?_
            refine aw_ret ?_
            obtain rfl := Option.some.inj h
            exact aq_finp hb0 rfl (.tmp rfl (by rfl) .nil) (by rfl) rfl ⟨rfl, rfl⟩
          · replace h := ite_f hc17 h
            refine .off rfl rfl rfl hc17 rfl (by rfl) ?_
            refine .off rfl rfl rfl hc17 rfl (by rfl) ?_
            refine .off rfl rfl rfl hc17 rfl (by rfl) ?_
            refine .off rfl rfl rfl hc17 rfl (by rfl) ?_
            refine .off rfl rfl rfl hc17 rfl (by rfl) ?_
            refine .off rfl rfl rfl hc17 rfl (by rfl) ?_
            refine .off rfl rfl rfl hc17 rfl (by rfl) ?_
            refine .v (f_pick_false (by rfl) hc17) rfl (.c rfl (.c rfl .nil)) .nil ?_
            refine .v (f_assign (by rfl)) rfl (.c rfl .nil) .nil ?_
            refine .nil (by kernel_rfl) ?_
            refine aw_ret ?_
            obtain rfl := Option.some.inj h
            exact aq_finp hb0 rfl (.tmp rfl (by rfl) .nil) (by rfl) rfl ⟨rfl, rfl⟩
        · replace h := ite_f hc12 h
          refine .off rfl rfl rfl hc12 rfl (by rfl) ?_
          refine .off rfl rfl rfl hc12 rfl (by rfl) ?_
          refine .off rfl rfl rfl hc12 rfl (by rfl) ?_
          refine .off rfl rfl rfl hc12 rfl (by rfl) ?_
          refine .off rfl rfl rfl hc12 rfl (by rfl) ?_
          refine .off rfl rfl rfl hc12 rfl (by rfl) ?_
          refine .off rfl rfl rfl hc12 rfl (by rfl) ?_
          refine .v (f_pick_false (by rfl) hc12) rfl (.c rfl (.c rfl .nil)) .nil ?_
          refine .v (f_move (by rfl)) rfl (.c rfl .nil) .nil ?_
          refine .off rfl rfl rfl rfl rfl (by rfl) ?_
          refine .off rfl rfl rfl rfl rfl (by rfl) ?_
          refine .off rfl rfl rfl rfl rfl (by rfl) ?_
          refine .off rfl rfl rfl rfl rfl (by rfl) ?_
          refine .off rfl rfl rfl rfl rfl (by rfl) ?_
          refine .off rfl rfl rfl rfl rfl (by rfl) ?_
          refine .off rfl rfl rfl rfl rfl (by rfl) ?_
          refine .v (f_pick_false (by rfl) rfl) rfl (.c rfl (.c rfl .nil)) .nil ?_
          refine .v (f_assign (by rfl)) rfl (.c rfl .nil) .nil ?_
          refine .nil (by kernel_rfl) ?_
          refine aw_ret ?_
          obtain rfl := Option.some.inj h
          exact aq_finp hb0 rfl (.tmp rfl (by rfl) .nil) (by rfl) rfl ⟨rfl, rfl⟩
      · replace h := ite_f hc11 h
        refine .off rfl rfl rfl hc11 rfl (by rfl) ?_
        refine .off rfl rfl rfl hc11 rfl (by rfl) ?_
        refine .off rfl rfl rfl hc11 rfl (by rfl) ?_
        refine .v (f_pick_false (by rfl) hc11) rfl (.c rfl (.c rfl .nil)) .nil ?_
        refine .v (f_move (by rfl)) rfl (.c rfl .nil) .nil ?_
        refine .off rfl rfl rfl rfl rfl (by rfl) ?_
        refine .off rfl rfl rfl rfl rfl (by rfl) ?_
        refine .off rfl rfl rfl rfl rfl (by rfl) ?_
        refine .off rfl rfl rfl rfl rfl (by rfl) ?_
        refine .off rfl rfl rfl rfl rfl (by rfl) ?_
        refine .off rfl rfl rfl rfl rfl (by rfl) ?_
        refine .off rfl rfl rfl rfl rfl (by rfl) ?_
        refine .v (f_pick_false (by rfl) rfl) rfl (.c rfl (.c rfl .nil)) .nil ?_
        refine .v (f_move (by rfl)) rfl (.c rfl .nil) .nil ?_
        refine .off rfl rfl rfl rfl rfl (by rfl) ?_
        refine .off rfl rfl rfl rfl rfl (by rfl) ?_
        refine .off rfl rfl rfl rfl rfl (by rfl) ?_
        refine .off rfl rfl rfl rfl rfl (by rfl) ?_
        refine .off rfl rfl rfl rfl rfl (by rfl) ?_
        refine .off rfl rfl rfl rfl rfl (by rfl) ?_
        refine .off rfl rfl rfl rfl rfl (by rfl) ?_
        refine .v (f_pick_false (by rfl) rfl) rfl (.c rfl (.c rfl .nil)) .nil ?_
        refine .v (f_assign (by rfl)) rfl (.c rfl .nil) .nil ?_
        refine .nil (by kernel_rfl) ?_
        refine aw_ret ?_
        obtain rfl := Option.some.inj h
        exact aq_finp hb0 rfl (.tmp rfl (by rfl) .nil) (by rfl) rfl ⟨rfl, rfl⟩
    · replace h := ite_f hc10 h
      refine .off rfl rfl rfl hc10 rfl (by rfl) ?_
      refine .off rfl rfl rfl hc10 rfl (by rfl) ?_
      refine .off rfl rfl rfl hc10 rfl (by rfl) ?_
      refine .v (f_pick_false (by rfl) hc10) rfl (.c rfl (.c rfl .nil)) .nil ?_
      refine .v (f_move (by rfl)) rfl (.c rfl .nil) .nil ?_
      refine .off rfl rfl rfl rfl rfl (by rfl) ?_
      refine .off rfl rfl rfl rfl rfl (by rfl) ?_
      refine .off rfl rfl rfl rfl rfl (by rfl) ?_
      refine .v (f_pick_false (by rfl) rfl) rfl (.c rfl (.c rfl .nil)) .nil ?_
      refine .v (f_move (by rfl)) rfl (.c rfl .nil) .nil ?_
      refine .off rfl rfl rfl rfl rfl (by rfl) ?_
      refine .off rfl rfl rfl rfl rfl (by rfl) ?_
      refine .off rfl rfl rfl rfl rfl (by rfl) ?_
      refine .off rfl rfl rfl rfl rfl (by rfl) ?_
      refine .off rfl rfl rfl rfl rfl (by rfl) ?_
      refine .off rfl rfl rfl rfl rfl (by rfl) ?_
      refine .off rfl rfl rfl rfl rfl (by rfl) ?_
      refine .v (f_pick_false (by rfl) rfl) rfl (.c rfl (.c rfl .nil)) .nil ?_
      refine .v (f_move (by rfl)) rfl (.c rfl .nil) .nil ?_
      refine .off rfl rfl rfl rfl rfl (by rfl) ?_
      refine .off rfl rfl rfl rfl rfl (by rfl) ?_
      refine .off rfl rfl rfl rfl rfl (by rfl) ?_
      refine .off rfl rfl rfl rfl rfl (by rfl) ?_
      refine .off rfl rfl rfl rfl rfl (by rfl) ?_
      refine .off rfl rfl rfl rfl rfl (by rfl) ?_
      refine .off rfl rfl rfl rfl rfl (by rfl) ?_
      refine .v (f_pick_false (by rfl) rfl) rfl (.c rfl (.c rfl .nil)) .nil ?_
      refine .v (f_assign (by rfl)) rfl (.c rfl .nil) .nil ?_
      refine .nil (by kernel_rfl) ?_
      refine aw_ret ?_
      obtain rfl := Option.some.inj h
      exact aq_finp hb0 rfl (.tmp rfl (by rfl) .nil) (by rfl) rfl ⟨rfl, rfl⟩
  · replace h := ite_f hc9 h
    refine .off rfl rfl rfl hc9 rfl (by rfl) ?_
    refine .off rfl rfl rfl hc9 rfl (by rfl) ?_
    refine .off rfl rfl rfl hc9 rfl (by rfl) ?_
    refine .v (f_pick_false (by rfl) hc9) rfl (.c rfl (.c rfl .nil)) .nil ?_
    refine .v (f_move (by rfl)) rfl (.c rfl .nil) .nil ?_
    refine .off rfl rfl rfl rfl rfl (by rfl) ?_
    refine .off rfl rfl rfl rfl rfl (by rfl) ?_
    refine .off rfl rfl rfl rfl rfl (by rfl) ?_
    refine .v (f_pick_false (by rfl) rfl) rfl (.c rfl (.c rfl .nil)) .nil ?_
    refine .v (f_move (by rfl)) rfl (.c rfl .nil) .nil ?_
    refine .off rfl rfl rfl rfl rfl (by rfl) ?_
    refine .off rfl rfl rfl rfl rfl (by rfl) ?_
    refine .off rfl rfl rfl rfl rfl (by rfl) ?_
    refine .v (f_pick_false (by rfl) rfl) rfl (.c rfl (.c rfl .nil)) .nil ?_
    refine .v (f_move (by rfl)) rfl (.c rfl .nil) .nil ?_
    refine .off rfl rfl rfl rfl rfl (by rfl) ?_
    refine .off rfl rfl rfl rfl rfl (by rfl) ?_
    refine .off rfl rfl rfl rfl rfl (by rfl) ?_
    refine .off rfl rfl rfl rfl rfl (by rfl) ?_
    refine .off rfl rfl rfl rfl rfl (by rfl) ?_
    refine .off rfl rfl rfl rfl rfl (by rfl) ?_
    refine .off rfl rfl rfl rfl rfl (by rfl) ?_
    refine .v (f_pick_false (by rfl) rfl) rfl (.c rfl (.c rfl .nil)) .nil ?_
    refine .v (f_move (by rfl)) rfl (.c rfl .nil) .nil ?_
    refine .off rfl rfl rfl rfl rfl (by rfl) ?_
    refine .off rfl rfl rfl rfl rfl (by rfl) ?_
    refine .off rfl rfl rfl rfl rfl (by rfl) ?_
    refine .off rfl rfl rfl rfl rfl (by rfl) ?_
    refine .off rfl rfl rfl rfl rfl (by rfl) ?_
    refine .off rfl rfl rfl rfl rfl (by rfl) ?_
    refine .off rfl rfl rfl rfl rfl (by rfl) ?_
    refine .v (f_pick_false (by rfl) rfl) rfl (.c rfl (.c rfl .nil)) .nil ?_
    refine .v (f_assign (by rfl)) rfl (.c rfl .nil) .nil ?_
    refine .nil (by kernel_rfl) ?_
    refine aw_ret ?_
    obtain rfl := Option.some.inj h
    exact aq_finp hb0 rfl (.tmp rfl (by rfl) .nil) (by rfl) rfl ⟨rfl, rfl⟩

/- 6: beadroll/beadrolllaw04.PathTurns -/
def F6_beadrolllaw04_PathTurns_l0 (a0 : (List Int)) (a1 : Int) (y1 : Bool) (y3 : (List Int) × Int) (y7 : (List Int) × Int) (y9 : Int × Int) : Nat → Int → (List Int) →  Option (Bool)
  | 0, _, _ => none
  | n + 1, z0_0, z0_1 => (if (decide (z0_0 < (256 : Int))) = true then ((F10_path_Bit n a0 z0_0).bind fun (y12 : Int × Int) => (if (y12.2 != (0 : Int)) = true then some (false) else (if (decide (y12.1 > (1 : Int))) = true then some (false) else ((rd z0_1 (IntKind.i64.wrap (Int.tdiv z0_0 (8 : Int)))).bind fun (x16 : Int) => ((rd z0_1 (IntKind.i64.wrap (Int.tdiv z0_0 (8 : Int)))).bind fun (x19 : Int) => F6_beadrolllaw04_PathTurns_l0 a0 a1 y1 y3 y7 y9 n (IntKind.i64.wrap (z0_0 + (1 : Int))) (z0_1.set ((IntKind.i64.wrap (Int.tdiv z0_0 (8 : Int)))).toNat (IntKind.u8.wrap ((IntKind.u8.wrap ((2 : Int) * x16)) + y12.1)))))))) else (if y1 = true then (if (y7.2 == (0 : Int)) = true then (if (decide (y7.1 = a0)) = true then (if (y9.2 == (0 : Int)) = true then ((F9_path_Shared n a0 y3.1).bind fun (y26 : Int) => (if (y26 == a1) = true then ((F8_path_Ahead n a0 y3.1).bind fun (y29 : Bool) => (if (y29 == (y9.1 == (0 : Int))) = true then some ((decide (z0_1 = a0))) else some (false))) else some (false))) else some (false)) else some (false)) else some (false)) else some (false)))
def F6_beadrolllaw04_PathTurns (n : Nat) (a0 : (List Int)) (a1 : Int) : Option (Bool) :=
  ((F7_beadrolllaw04_alive n ).bind fun (y1 : Bool) => ((F11_path_Turn n a0 a1).bind fun (y3 : (List Int) × Int) => (if (y3.2 != (0 : Int)) = true then (if y1 = true then some ((decide (y3.1 = (List.replicate 32 (0 : Int))))) else some (false)) else ((F11_path_Turn n y3.1 a1).bind fun (y7 : (List Int) × Int) => ((F10_path_Bit n a0 a1).bind fun (y9 : Int × Int) => F6_beadrolllaw04_PathTurns_l0 a0 a1 y1 y3 y7 y9 n (0 : Int) (List.replicate 32 (0 : Int)))))))
theorem F6_beadrolllaw04_PathTurns_ok {n : Nat} {a0 : (List Int)} {a1 : Int} {r : Bool} (h : F6_beadrolllaw04_PathTurns n a0 a1 = some r) :
    ACall Try.prog [] 6 [.d (eA22 a0), .d (.val (.int .i64 a1))] [] (fun r' hp' => r' = .d (.val (.bool r)) ∧ hp' = []) := by
  refine acall_of_body mixed Try.func6 rfl (by rfl) ?_
  intro C hro hgl hb0
  unfold F6_beadrolllaw04_PathTurns at h
  refine aw_rs ?_
  refine .n (f_box 2 (by rfl) (by rfl)) rfl (.c rfl .nil) rfl ?_
  refine .v (f_assign (by rfl)) rfl (.c rfl .nil) .nil ?_
  refine .nil (aq_then ?_)
  refine aw_rs ?_
  obtain ⟨y1, hy2, h⟩ := bind_some h
  refine .v (f_callP hgl (by rfl) en7 rfl (by rfl) (by rfl) (by rfl) (F7_beadrolllaw04_alive_ok hy2)) rfl .nil .nil ?_
  refine .v (f_assign (by rfl)) rfl (.c rfl .nil) .nil ?_
  refine .nil (aq_then ?_)
  refine aw_rs ?_
  refine .v (f_load (n := 0) (o := 2) (off := 0) (p := []) (c := .d (eA22 a0)) (z := .d (eA22 a0)) (by rfl) rfl ty23 (by rfl)) rfl (.c rfl .nil) (.cons rfl .nil) ?_
  refine .v (f_move (by rfl)) rfl (.c rfl .nil) .nil ?_
  obtain ⟨y3, hy4, h⟩ := bind_some h
  refine .v (f_callP hgl (by rfl) en11 rfl (by rfl) (by rfl) (by rfl) (F11_path_Turn_ok hy4)) rfl (.c rfl (.c rfl .nil)) .nil ?_
  refine .v (f_move (by rfl)) rfl (.c rfl .nil) .nil ?_
  refine .v (f_extract (by rfl) rfl) rfl (.c rfl .nil) .nil ?_
  refine .v (f_extract (by rfl) rfl) rfl (.c rfl .nil) .nil ?_
  refine .n (f_alloc 6 (by rfl) zr23) rfl .nil rfl ?_
  refine .s (f_store (n := 0) (o := 6) (off := 0) (p := []) (c := .d (eA22 (List.replicate 32 (0 : Int)))) (old := .d (eA22 (List.replicate 32 (0 : Int)))) (z := .d (eA22 y3.1)) (c' := .d (eA22 y3.1)) rfl rfl (by rfl) ty23 (by rfl)) rfl (.c rfl (.c rfl .nil)) (.cons rfl .nil) ?_
  refine .v (f_assign (by rfl)) rfl (.c rfl .nil) .nil ?_
  refine .nil (aq_then ?_)
  refine aw_seq ?_
  refine aw_rs ?_
  refine .v (f_move (by rfl)) rfl (.c rfl .nil) .nil ?_
  refine .v (f_binI (by rfl) rfl (by rfl)) rfl (.c rfl (.c rfl .nil)) .nil ?_
  refine .nil (aq_then ?_)
  refine aw_cond rfl (fun hc5 => ?_) (fun hc5 => ?_)
  · replace h := ite_t hc5 h
    refine aw_rs ?_
    refine .v (f_move (by rfl)) rfl (.c rfl .nil) .nil ?_
    refine .v (f_move (by rfl)) rfl (.c rfl .nil) .nil ?_
    rcases Bool.eq_false_or_eq_true y1 with hc6 | hc6
    · replace h := ite_t hc6 h
      refine .gv (f_load (n := 0) (o := 6) (off := 0) (p := []) (c := .d (eA22 y3.1)) (z := .d (eA22 y3.1)) (by rfl) rfl ty23 (by rfl)) rfl rfl rfl hc6 (.c rfl .nil) (.cons rfl .nil) ?_
      refine .gv (f_build (xs := []) (z' := .d (eA22 (List.replicate 32 (0 : Int)))) (by rfl) zr23 ag23 rfl (by rfl) trivial (by rfl) (by rfl)) rfl rfl rfl hc6 .nil .nil ?_
      refine .gv (f_eqlT (by rfl) (fit23 _) (fit23 _) (by rfl) (by rfl) gd23 (eq_eA22 _ _)) rfl rfl rfl hc6 (.c rfl (.c rfl .nil)) .nil ?_
      refine .v (f_pick_true (by rfl) hc6) rfl (.c rfl (.c rfl .nil)) .nil ?_
      refine .v (f_assign (by rfl)) rfl (.c rfl .nil) .nil ?_
      refine .nil (aq_then ?_)
      refine aw_ret ?_
      refine aq_then_ret ?_
      obtain rfl := Option.some.inj h
      exact aq_finp hb0 rfl (.tmp rfl (by rfl) .nil) (by rfl) rfl ⟨rfl, rfl⟩
    · replace h := ite_f hc6 h
      refine .off rfl rfl rfl hc6 rfl (by rfl) ?_
      refine .off rfl rfl rfl hc6 rfl (by rfl) ?_
      refine .off rfl rfl rfl hc6 rfl (by rfl) ?_
      refine .v (f_pick_false (by rfl) hc6) rfl (.c rfl (.c rfl .nil)) .nil ?_
      refine .v (f_assign (by rfl)) rfl (.c rfl .nil) .nil ?_
      refine .nil (aq_then ?_)
      refine aw_ret ?_
      refine aq_then_ret ?_
      obtain rfl := Option.some.inj h
      exact aq_finp hb0 rfl (.tmp rfl (by rfl) .nil) (by rfl) rfl ⟨rfl, rfl⟩
  · replace h := ite_f hc5 h
    refine aw_skip ?_
    refine aq_then ?_
    refine aw_rs ?_
    refine .v (f_load (n := 0) (o := 6) (off := 0) (p := []) (c := .d (eA22 y3.1)) (z := .d (eA22 y3.1)) (by rfl) rfl ty23 (by rfl)) rfl (.c rfl .nil) (.cons rfl .nil) ?_
    refine .v (f_move (by rfl)) rfl (.c rfl .nil) .nil ?_
    obtain ⟨y7, hy8, h⟩ := bind_some h
    refine .v (f_callP hgl (by rfl) en11 rfl (by rfl) (by rfl) (by rfl) (F11_path_Turn_ok hy8)) rfl (.c rfl (.c rfl .nil)) .nil ?_
    refine .v (f_move (by rfl)) rfl (.c rfl .nil) .nil ?_
    refine .v (f_extract (by rfl) rfl) rfl (.c rfl .nil) .nil ?_
    refine .v (f_extract (by rfl) rfl) rfl (.c rfl .nil) .nil ?_
    refine .n (f_alloc 8 (by rfl) zr23) rfl .nil rfl ?_
    refine .s (f_store (n := 0) (o := 8) (off := 0) (p := []) (c := .d (eA22 (List.replicate 32 (0 : Int)))) (old := .d (eA22 (List.replicate 32 (0 : Int)))) (z := .d (eA22 y7.1)) (c' := .d (eA22 y7.1)) rfl rfl (by rfl) ty23 (by rfl)) rfl (.c rfl (.c rfl .nil)) (.cons rfl .nil) ?_
    refine .v (f_assign (by rfl)) rfl (.c rfl .nil) .nil ?_
    refine .nil (aq_then ?_)
    refine aw_rs ?_
    refine .v (f_load (n := 0) (o := 2) (off := 0) (p := []) (c := .d (eA22 a0)) (z := .d (eA22 a0)) (by rfl) rfl ty23 (by rfl)) rfl (.c rfl .nil) (.cons rfl .nil) ?_
    refine .v (f_move (by rfl)) rfl (.c rfl .nil) .nil ?_
    obtain ⟨y9, hy10, h⟩ := bind_some h
    refine .v (f_callP hgl (by rfl) en10 rfl (by rfl) (by rfl) (by rfl) (F10_path_Bit_ok hy10)) rfl (.c rfl (.c rfl .nil)) .nil ?_
    refine .v (f_move (by rfl)) rfl (.c rfl .nil) .nil ?_
    refine .v (f_extract (by rfl) rfl) rfl (.c rfl .nil) .nil ?_
    refine .v (f_extract (by rfl) rfl) rfl (.c rfl .nil) .nil ?_
    refine .v (f_assign (by rfl)) rfl (.c rfl .nil) .nil ?_
    refine .v (f_assign (by rfl)) rfl (.c rfl .nil) .nil ?_
    refine .nil (aq_then ?_)
    refine aw_rs ?_
    refine .n (f_alloc 12 (by rfl) zr23) rfl .nil rfl ?_
    refine .nil (aq_then ?_)
    refine aw_seq ?_
    refine aw_rs ?_
    refine .v (f_assign (by rfl)) rfl (.c rfl .nil) .nil ?_
    refine .nil (aq_then ?_)
    refine aw_block ?_
    refine aw_weak (s' := ⟨[(1, .d (.val (.int .i64 a1))), (2, .ptr 2 0 []), (5, .d (.val (.bool y1))), (6, .ptr 6 0 []), (8, .ptr 8 0 []), (9, .d (.val (.int .i64 y7.2))), (10, .d (.val (.int .u8 y9.1))), (11, .d (.val (.int .i64 y9.2))), (12, .ptr 12 0 []), (13, .d (.val (.int .i64 (0 : Int))))], [(2, .av (.d (eA22 a0))), (6, .av (.d (eA22 y3.1))), (8, .av (.d (eA22 y7.1))), (12, .av (.d (eA22 (List.replicate 32 (0 : Int)))))], []⟩) id hb0 (.keep rfl (.keep rfl (.keep rfl (.keep rfl (.keep rfl (.keep rfl (.keep rfl (.keep rfl (.keep rfl (.keep rfl .nil)))))))))) (.keep rfl (.keep rfl (.keep rfl (.keep rfl .nil)))) rfl (by rfl) ?_
    refine aw_loop (σ := Nat × Int × (List Int)) (fun z => ⟨[(1, .d (.val (.int .i64 a1))), (2, .ptr 2 0 []), (5, .d (.val (.bool y1))), (6, .ptr 6 0 []), (8, .ptr 8 0 []), (9, .d (.val (.int .i64 y7.2))), (10, .d (.val (.int .u8 y9.1))), (11, .d (.val (.int .i64 y9.2))), (12, .ptr 12 0 []), (13, .d (.val (.int .i64 z.2.1)))], [(2, .av (.d (eA22 a0))), (6, .av (.d (eA22 y3.1))), (8, .av (.d (eA22 y7.1))), (12, .av (.d (eA22 z.2.2)))], []⟩) (fun z => F6_beadrolllaw04_PathTurns_l0 a0 a1 y1 y3 y7 y9 z.1 (z.2.1) (z.2.2) = some r) (fun z => z.1) (n, (0 : Int), (List.replicate 32 (0 : Int))) h ?_
    clear h
    rintro ⟨n_, z0_0, z0_1⟩ h
    obtain _ | n_ := n_
    · simp only [F6_beadrolllaw04_PathTurns_l0] at h; cases h
    · simp only [F6_beadrolllaw04_PathTurns_l0] at h
      show AW C _ _ ⟨[(1, .d (.val (.int .i64 a1))), (2, .ptr 2 0 []), (5, .d (.val (.bool y1))), (6, .ptr 6 0 []), (8, .ptr 8 0 []), (9, .d (.val (.int .i64 y7.2))), (10, .d (.val (.int .u8 y9.1))), (11, .d (.val (.int .i64 y9.2))), (12, .ptr 12 0 []), (13, .d (.val (.int .i64 z0_0)))], [(2, .av (.d (eA22 a0))), (6, .av (.d (eA22 y3.1))), (8, .av (.d (eA22 y7.1))), (12, .av (.d (eA22 z0_1)))], []⟩
      refine aw_seq ?_
      refine aw_rs ?_
      refine .v (f_move (by rfl)) rfl (.c rfl .nil) .nil ?_
      refine .v (f_binI (by rfl) rfl (by rfl)) rfl (.c rfl (.c rfl .nil)) .nil ?_
      refine .nil (aq_then ?_)
      refine aw_cond rfl (fun hc11 => ?_) (fun hc11 => ?_)
      · replace h := ite_t hc11 h
        refine aw_skip ?_
        refine aq_then ?_
        refine aw_seq ?_
        refine aw_block ?_
        refine aw_rs ?_
        refine .v (f_load (n := 0) (o := 2) (off := 0) (p := []) (c := .d (eA22 a0)) (z := .d (eA22 a0)) (by rfl) rfl ty23 (by rfl)) rfl (.c rfl .nil) (.cons rfl .nil) ?_
        refine .v (f_move (by rfl)) rfl (.c rfl .nil) .nil ?_
        obtain ⟨y12, hy13, h⟩ := bind_some h
        refine .v (f_callP hgl (by rfl) en10 rfl (by rfl) (by rfl) (by rfl) (F10_path_Bit_ok hy13)) rfl (.c rfl (.c rfl .nil)) .nil ?_
        refine .v (f_move (by rfl)) rfl (.c rfl .nil) .nil ?_
        refine .v (f_extract (by rfl) rfl) rfl (.c rfl .nil) .nil ?_
        refine .v (f_extract (by rfl) rfl) rfl (.c rfl .nil) .nil ?_
        refine .v (f_assign (by rfl)) rfl (.c rfl .nil) .nil ?_
        refine .v (f_assign (by rfl)) rfl (.c rfl .nil) .nil ?_
        refine .nil (aq_then ?_)
        refine aw_seq ?_
        refine aw_rs ?_
        refine .v (f_move (by rfl)) rfl (.c rfl .nil) .nil ?_
        refine .v (f_binI (by rfl) rfl (by rfl)) rfl (.c rfl (.c rfl .nil)) .nil ?_
        refine .v (f_move (by rfl)) rfl (.c rfl .nil) .nil ?_
        rcases Bool.eq_false_or_eq_true (y12.2 != (0 : Int)) with hc14 | hc14
        · replace h := ite_t hc14 h
          refine .off rfl rfl rfl hc14 rfl (by rfl) ?_
          refine .off rfl rfl rfl hc14 rfl (by rfl) ?_
          refine .v (f_pick_true (by rfl) hc14) rfl (.c rfl (.c rfl .nil)) .nil ?_
          refine .nil (aq_then ?_)
          refine aw_cond rfl (fun _ => ?_) (fun hx => absurd (hx.symm.trans rfl) (by simp))
          refine aw_rs ?_
          refine .v (f_assign (by rfl)) rfl (.c rfl .nil) .nil ?_
          refine .nil (aq_then ?_)
          refine aw_ret ?_
          refine aq_then_ret ?_
          refine aq_block_ret ?_
          refine aq_then_ret ?_
          refine aq_then_ret ?_
          refine aq_block_ret ?_
          refine aq_then_ret ?_
          obtain rfl := Option.some.inj h
          exact aq_finp hb0 rfl (.tmp rfl (by rfl) .nil) (by rfl) rfl ⟨rfl, rfl⟩
        · replace h := ite_f hc14 h
          refine .gv (f_move (by rfl)) rfl rfl rfl hc14 (.c rfl .nil) .nil ?_
          refine .gv (f_binI (by rfl) rfl (by rfl)) rfl rfl rfl hc14 (.c rfl (.c rfl .nil)) .nil ?_
          refine .v (f_pick_false (by rfl) hc14) rfl (.c rfl (.c rfl .nil)) .nil ?_
          refine .nil (aq_then ?_)
          refine aw_cond rfl (fun hc15 => ?_) (fun hc15 => ?_)
          · replace h := ite_t hc15 h
            refine aw_rs ?_
            refine .v (f_assign (by rfl)) rfl (.c rfl .nil) .nil ?_
            refine .nil (aq_then ?_)
            refine aw_ret ?_
            refine aq_then_ret ?_
            refine aq_block_ret ?_
            refine aq_then_ret ?_
            refine aq_then_ret ?_
            refine aq_block_ret ?_
            refine aq_then_ret ?_
            obtain rfl := Option.some.inj h
            exact aq_finp hb0 rfl (.tmp rfl (by rfl) .nil) (by rfl) rfl ⟨rfl, rfl⟩
          · replace h := ite_f hc15 h
            refine aw_skip ?_
            refine aq_then ?_
            refine aw_r ?_
            refine .v (f_move (by rfl)) rfl (.c rfl .nil) .nil ?_
            refine .v (f_binI (by rfl) (quo_ok (by decide)) (by rfl)) rfl (.c rfl (.c rfl .nil)) .nil ?_
            refine .v (f_move (by rfl)) rfl (.c rfl .nil) .nil ?_
            refine .v (f_binI (by rfl) (quo_ok (by decide)) (by rfl)) rfl (.c rfl (.c rfl .nil)) .nil ?_
            obtain ⟨x16, hx17, h⟩ := bind_some h
            obtain ⟨hx18, hx17⟩ := rd_some hx17
            refine .v (f_indexO (by rfl) ar23 rfl hx18 (rd_map _ hx17)) rfl (.c rfl (.c rfl .nil)) (.cons rfl .nil) ?_
            refine .v (f_load (n := 0) (o := 12) (off := (0 + ((IntKind.i64.wrap (Int.tdiv z0_0 (8 : Int)))).toNat * 1)) (p := [((IntKind.i64.wrap (Int.tdiv z0_0 (8 : Int)))).toNat]) (c := .d (eA22 z0_1)) (z := .d (.val (.int .u8 x16))) (by rfl) (at_map _ hx17 (by simp)) ty5 (by rfl)) rfl (.c rfl .nil) (.cons rfl .nil) ?_
            refine .v (f_binI (by rfl) rfl (by rfl)) rfl (.c rfl (.c rfl .nil)) .nil ?_
            refine .v (f_move (by rfl)) rfl (.c rfl .nil) .nil ?_
            refine .v (f_binI (by rfl) rfl (by rfl)) rfl (.c rfl (.c rfl .nil)) .nil ?_
            obtain ⟨x19, hx20, h⟩ := bind_some h
            obtain ⟨hx21, hx20⟩ := rd_some hx20
            refine .v (f_indexO (by rfl) ar23 rfl hx21 (rd_map _ hx20)) rfl (.c rfl (.c rfl .nil)) (.cons rfl .nil) ?_
            refine .s (f_store (n := 0) (o := 12) (off := (0 + ((IntKind.i64.wrap (Int.tdiv z0_0 (8 : Int)))).toNat * 1)) (p := [((IntKind.i64.wrap (Int.tdiv z0_0 (8 : Int)))).toNat]) (c := .d (eA22 z0_1)) (old := .d (.val (.int .u8 x19))) (z := .d (.val (.int .u8 (IntKind.u8.wrap ((IntKind.u8.wrap ((2 : Int) * x16)) + y12.1))))) (c' := .d (eA22 (z0_1.set ((IntKind.i64.wrap (Int.tdiv z0_0 (8 : Int)))).toNat (IntKind.u8.wrap ((IntKind.u8.wrap ((2 : Int) * x16)) + y12.1))))) (at_map _ hx20 (by simp)) (put_map _ hx20) (by rfl) ty5 (by rfl)) rfl (.c rfl (.c rfl .nil)) (.cons rfl .nil) ?_
            refine .nil ?_
            refine aq_block ?_
            refine aq_then ?_
            refine aw_r ?_
            refine .v (f_move (by rfl)) rfl (.c rfl .nil) .nil ?_
            refine .v (f_binI (by rfl) rfl (by rfl)) rfl (.c rfl (.c rfl .nil)) .nil ?_
            refine .v (f_assign (by rfl)) rfl (.c rfl .nil) .nil ?_
            refine .nil ?_
            refine aq_weak (s' := ⟨[(1, .d (.val (.int .i64 a1))), (2, .ptr 2 0 []), (5, .d (.val (.bool y1))), (6, .ptr 6 0 []), (8, .ptr 8 0 []), (9, .d (.val (.int .i64 y7.2))), (10, .d (.val (.int .u8 y9.1))), (11, .d (.val (.int .i64 y9.2))), (12, .ptr 12 0 []), (13, .d (.val (.int .i64 (IntKind.i64.wrap (z0_0 + (1 : Int))))))], [(2, .av (.d (eA22 a0))), (6, .av (.d (eA22 y3.1))), (8, .av (.d (eA22 y7.1))), (12, .av (.d (eA22 (z0_1.set ((IntKind.i64.wrap (Int.tdiv z0_0 (8 : Int)))).toNat (IntKind.u8.wrap ((IntKind.u8.wrap ((2 : Int) * x16)) + y12.1))))))], []⟩) id hb0 (.keep rfl (.keep rfl (.keep rfl (.keep rfl (.keep rfl (.keep rfl (.keep rfl (.keep rfl (.keep rfl (.keep rfl .nil)))))))))) (.keep rfl (.keep rfl (.keep rfl (.keep rfl .nil)))) rfl (by rfl) ?_
            exact aq_loop (_, (IntKind.i64.wrap (z0_0 + (1 : Int))), (z0_1.set ((IntKind.i64.wrap (Int.tdiv z0_0 (8 : Int)))).toNat (IntKind.u8.wrap ((IntKind.u8.wrap ((2 : Int) * x16)) + y12.1)))) h (Nat.lt_succ_self _)
      · replace h := ite_f hc11 h
        refine aw_exit ?_
        refine aq_then_exit ?_
        refine aq_then_exit ?_
        refine aq_block_exit ?_
        refine aq_then ?_
        refine aw_rs ?_
        refine .v (f_move (by rfl)) rfl (.c rfl .nil) .nil ?_
        refine .v (f_move (by rfl)) rfl (.c rfl .nil) .nil ?_
        rcases Bool.eq_false_or_eq_true y1 with hc22 | hc22
        · replace h := ite_t hc22 h
          refine .gv (f_move (by rfl)) rfl rfl rfl hc22 (.c rfl .nil) .nil ?_
          refine .gv (f_binI (by rfl) rfl (by rfl)) rfl rfl rfl hc22 (.c rfl (.c rfl .nil)) .nil ?_
          refine .v (f_pick_true (by rfl) hc22) rfl (.c rfl (.c rfl .nil)) .nil ?_
          refine .v (f_move (by rfl)) rfl (.c rfl .nil) .nil ?_
          rcases Bool.eq_false_or_eq_true (y7.2 == (0 : Int)) with hc23 | hc23
          · replace h := ite_t hc23 h
            refine .gv (f_load (n := 0) (o := 8) (off := 0) (p := []) (c := .d (eA22 y7.1)) (z := .d (eA22 y7.1)) (by rfl) rfl ty23 (by rfl)) rfl rfl rfl hc23 (.c rfl .nil) (.cons rfl .nil) ?_
            refine .gv (f_load (n := 0) (o := 2) (off := 0) (p := []) (c := .d (eA22 a0)) (z := .d (eA22 a0)) (by rfl) rfl ty23 (by rfl)) rfl rfl rfl hc23 (.c rfl .nil) (.cons rfl .nil) ?_
            refine .gv (f_eqlT (by rfl) (fit23 _) (fit23 _) (by rfl) (by rfl) gd23 (eq_eA22 _ _)) rfl rfl rfl hc23 (.c rfl (.c rfl .nil)) .nil ?_
            refine .v (f_pick_true (by rfl) hc23) rfl (.c rfl (.c rfl .nil)) .nil ?_
            refine .v (f_move (by rfl)) rfl (.c rfl .nil) .nil ?_
            rcases Bool.eq_false_or_eq_true (decide (y7.1 = a0)) with hc24 | hc24
            · replace h := ite_t hc24 h
              refine .gv (f_move (by rfl)) rfl rfl rfl hc24 (.c rfl .nil) .nil ?_
              refine .gv (f_binI (by rfl) rfl (by rfl)) rfl rfl rfl hc24 (.c rfl (.c rfl .nil)) .nil ?_
              refine .v (f_pick_true (by rfl) hc24) rfl (.c rfl (.c rfl .nil)) .nil ?_
              refine .v (f_move (by rfl)) rfl (.c rfl .nil) .nil ?_
              rcases Bool.eq_false_or_eq_true (y9.2 == (0 : Int)) with hc25 | hc25
              · replace h := ite_t hc25 h
                refine .gv (f_load (n := 0) (o := 2) (off := 0) (p := []) (c := .d (eA22 a0)) (z := .d (eA22 a0)) (by rfl) rfl ty23 (by rfl)) rfl rfl rfl hc25 (.c rfl .nil) (.cons rfl .nil) ?_
                refine .gv (f_load (n := 0) (o := 6) (off := 0) (p := []) (c := .d (eA22 y3.1)) (z := .d (eA22 y3.1)) (by rfl) rfl ty23 (by rfl)) rfl rfl rfl hc25 (.c rfl .nil) (.cons rfl .nil) ?_
                obtain ⟨y26, hy27, h⟩ := bind_some h
                refine .gv (f_callP hgl (by rfl) en9 rfl (by rfl) (by rfl) (by rfl) (F9_path_Shared_ok hy27)) rfl rfl rfl hc25 (.c rfl (.c rfl .nil)) .nil ?_
                refine .gv (f_move (by rfl)) rfl rfl rfl hc25 (.c rfl .nil) .nil ?_
                refine .gv (f_binI (by rfl) rfl (by rfl)) rfl rfl rfl hc25 (.c rfl (.c rfl .nil)) .nil ?_
                refine .v (f_pick_true (by rfl) hc25) rfl (.c rfl (.c rfl .nil)) .nil ?_
                refine .v (f_move (by rfl)) rfl (.c rfl .nil) .nil ?_
                rcases Bool.eq_false_or_eq_true (y26 == a1) with hc28 | hc28
                · replace h := ite_t hc28 h
                  refine .gv (f_load (n := 0) (o := 2) (off := 0) (p := []) (c := .d (eA22 a0)) (z := .d (eA22 a0)) (by rfl) rfl ty23 (by rfl)) rfl rfl rfl hc28 (.c rfl .nil) (.cons rfl .nil) ?_
                  refine .gv (f_load (n := 0) (o := 6) (off := 0) (p := []) (c := .d (eA22 y3.1)) (z := .d (eA22 y3.1)) (by rfl) rfl ty23 (by rfl)) rfl rfl rfl hc28 (.c rfl .nil) (.cons rfl .nil) ?_
                  obtain ⟨y29, hy30, h⟩ := bind_some h
                  refine .gv (f_callP hgl (by rfl) en8 rfl (by rfl) (by rfl) (by rfl) (F8_path_Ahead_ok hy30)) rfl rfl rfl hc28 (.c rfl (.c rfl .nil)) .nil ?_
                  refine .gv (f_move (by rfl)) rfl rfl rfl hc28 (.c rfl .nil) .nil ?_
                  refine .gv (f_binI (by rfl) rfl (by rfl)) rfl rfl rfl hc28 (.c rfl (.c rfl .nil)) .nil ?_
                  refine .gv (f_eqlB (by rfl) un4) rfl rfl rfl hc28 (.c rfl (.c rfl .nil)) .nil ?_
                  refine .v (f_pick_true (by rfl) hc28) rfl (.c rfl (.c rfl .nil)) .nil ?_
                  refine .v (f_move (by rfl)) rfl (.c rfl .nil) .nil ?_
                  rcases Bool.eq_false_or_eq_true (y29 == (y9.1 == (0 : Int))) with hc31 | hc31
                  · replace h := ite_t hc31 h
                    refine .gv (f_load (n := 0) (o := 12) (off := 0) (p := []) (c := .d (eA22 z0_1)) (z := .d (eA22 z0_1)) (by rfl) rfl ty23 (by rfl)) rfl rfl rfl hc31 (.c rfl .nil) (.cons rfl .nil) ?_
                    refine .gv (f_load (n := 0) (o := 2) (off := 0) (p := []) (c := .d (eA22 a0)) (z := .d (eA22 a0)) (by rfl) rfl ty23 (by rfl)) rfl rfl rfl hc31 (.c rfl .nil) (.cons rfl .nil) ?_
                    refine .gv (f_eqlT (by rfl) (fit23 _) (fit23 _) (by rfl) (by rfl) gd23 (eq_eA22 _ _)) rfl rfl rfl hc31 (.c rfl (.c rfl .nil)) .nil ?_
                    refine .v (f_pick_true (by rfl) hc31) rfl (.c rfl (.c rfl .nil)) .nil ?_
                    refine .v (f_assign (by rfl)) rfl (.c rfl .nil) .nil ?_
                    refine .nil (aq_then ?_)
                    refine aw_ret ?_
                    obtain rfl := Option.some.inj h
                    exact aq_finp hb0 rfl (.tmp rfl (by rfl) .nil) (by rfl) rfl ⟨rfl, rfl⟩
                  · replace h := ite_f hc31 h
                    refine .off rfl rfl rfl hc31 rfl (by rfl) ?_
                    refine .off rfl rfl rfl hc31 rfl (by rfl) ?_
                    refine .off rfl rfl rfl hc31 rfl (by rfl) ?_
                    refine .v (f_pick_false (by rfl) hc31) rfl (.c rfl (.c rfl .nil)) .nil ?_
                    refine .v (f_assign (by rfl)) rfl (.c rfl .nil) .nil ?_
                    refine .nil (aq_then ?_)
                    refine aw_ret ?_
                    obtain rfl := Option.some.inj h
                    exact aq_finp hb0 rfl (.tmp rfl (by rfl) .nil) (by rfl) rfl ⟨rfl, rfl⟩
                · replace h := ite_f hc28 h
                  refine .off rfl rfl rfl hc28 rfl (by rfl) ?_
                  refine .off rfl rfl rfl hc28 rfl (by rfl) ?_
                  refine .off rfl rfl rfl hc28 rfl (by rfl) ?_
                  refine .off rfl rfl rfl hc28 rfl (by rfl) ?_
                  refine .off rfl rfl rfl hc28 rfl (by rfl) ?_
                  refine .off rfl rfl rfl hc28 rfl (by rfl) ?_
                  refine .v (f_pick_false (by rfl) hc28) rfl (.c rfl (.c rfl .nil)) .nil ?_
                  refine .v (f_move (by rfl)) rfl (.c rfl .nil) .nil ?_
                  refine .off rfl rfl rfl rfl rfl (by rfl) ?_
                  refine .off rfl rfl rfl rfl rfl (by rfl) ?_
                  refine .off rfl rfl rfl rfl rfl (by rfl) ?_
                  refine .v (f_pick_false (by rfl) rfl) rfl (.c rfl (.c rfl .nil)) .nil ?_
                  refine .v (f_assign (by rfl)) rfl (.c rfl .nil) .nil ?_
                  refine .nil (aq_then ?_)
                  refine aw_ret ?_
                  obtain rfl := Option.some.inj h
                  exact aq_finp hb0 rfl (.tmp rfl (by rfl) .nil) (by rfl) rfl ⟨rfl, rfl⟩
              · replace h := ite_f hc25 h
                refine .off rfl rfl rfl hc25 rfl (by rfl) ?_
                refine .off rfl rfl rfl hc25 rfl (by rfl) ?_
                refine .off rfl rfl rfl hc25 rfl (by rfl) ?_
                refine .off rfl rfl rfl hc25 rfl (by rfl) ?_
                refine .off rfl rfl rfl hc25 rfl (by rfl) ?_
                refine .v (f_pick_false (by rfl) hc25) rfl (.c rfl (.c rfl .nil)) .nil ?_
                refine .v (f_move (by rfl)) rfl (.c rfl .nil) .nil ?_
                refine .off rfl rfl rfl rfl rfl (by rfl) ?_
                refine .off rfl rfl rfl rfl rfl (by rfl) ?_
                refine .off rfl rfl rfl rfl rfl (by rfl) ?_
                refine .off rfl rfl rfl rfl rfl (by rfl) ?_
                refine .off rfl rfl rfl rfl rfl (by rfl) ?_
                refine .off rfl rfl rfl rfl rfl (by rfl) ?_
                refine .v (f_pick_false (by rfl) rfl) rfl (.c rfl (.c rfl .nil)) .nil ?_
                refine .v (f_move (by rfl)) rfl (.c rfl .nil) .nil ?_
                refine .off rfl rfl rfl rfl rfl (by rfl) ?_
                refine .off rfl rfl rfl rfl rfl (by rfl) ?_
                refine .off rfl rfl rfl rfl rfl (by rfl) ?_
                refine .v (f_pick_false (by rfl) rfl) rfl (.c rfl (.c rfl .nil)) .nil ?_
                refine .v (f_assign (by rfl)) rfl (.c rfl .nil) .nil ?_
                refine .nil (aq_then ?_)
                refine aw_ret ?_
                obtain rfl := Option.some.inj h
                exact aq_finp hb0 rfl (.tmp rfl (by rfl) .nil) (by rfl) rfl ⟨rfl, rfl⟩
            · replace h := ite_f hc24 h
              refine .off rfl rfl rfl hc24 rfl (by rfl) ?_
              refine .off rfl rfl rfl hc24 rfl (by rfl) ?_
              refine .v (f_pick_false (by rfl) hc24) rfl (.c rfl (.c rfl .nil)) .nil ?_
              refine .v (f_move (by rfl)) rfl (.c rfl .nil) .nil ?_
              refine .off rfl rfl rfl rfl rfl (by rfl) ?_
              refine .off rfl rfl rfl rfl rfl (by rfl) ?_
              refine .off rfl rfl rfl rfl rfl (by rfl) ?_
              refine .off rfl rfl rfl rfl rfl (by rfl) ?_
              refine .off rfl rfl rfl rfl rfl (by rfl) ?_
              refine .v (f_pick_false (by rfl) rfl) rfl (.c rfl (.c rfl .nil)) .nil ?_
              refine .v (f_move (by rfl)) rfl (.c rfl .nil) .nil ?_
              refine .off rfl rfl rfl rfl rfl (by rfl) ?_
              refine .off rfl rfl rfl rfl rfl (by rfl) ?_
              refine .off rfl rfl rfl rfl rfl (by rfl) ?_
              refine .off rfl rfl rfl rfl rfl (by rfl) ?_
              refine .off rfl rfl rfl rfl rfl (by rfl) ?_
              refine .off rfl rfl rfl rfl rfl (by rfl) ?_
              refine .v (f_pick_false (by rfl) rfl) rfl (.c rfl (.c rfl .nil)) .nil ?_
              refine .v (f_move (by rfl)) rfl (.c rfl .nil) .nil ?_
              refine .off rfl rfl rfl rfl rfl (by rfl) ?_
              refine .off rfl rfl rfl rfl rfl (by rfl) ?_
              refine .off rfl rfl rfl rfl rfl (by rfl) ?_
              refine .v (f_pick_false (by rfl) rfl) rfl (.c rfl (.c rfl .nil)) .nil ?_
              refine .v (f_assign (by rfl)) rfl (.c rfl .nil) .nil ?_
              refine .nil (aq_then ?_)
              refine aw_ret ?_
              obtain rfl := Option.some.inj h
              exact aq_finp hb0 rfl (.tmp rfl (by rfl) .nil) (by rfl) rfl ⟨rfl, rfl⟩
          · replace h := ite_f hc23 h
            refine .off rfl rfl rfl hc23 rfl (by rfl) ?_
            refine .off rfl rfl rfl hc23 rfl (by rfl) ?_
            refine .off rfl rfl rfl hc23 rfl (by rfl) ?_
            refine .v (f_pick_false (by rfl) hc23) rfl (.c rfl (.c rfl .nil)) .nil ?_
            refine .v (f_move (by rfl)) rfl (.c rfl .nil) .nil ?_
            refine .off rfl rfl rfl rfl rfl (by rfl) ?_
            refine .off rfl rfl rfl rfl rfl (by rfl) ?_
            refine .v (f_pick_false (by rfl) rfl) rfl (.c rfl (.c rfl .nil)) .nil ?_
            refine .v (f_move (by rfl)) rfl (.c rfl .nil) .nil ?_
            refine .off rfl rfl rfl rfl rfl (by rfl) ?_
            refine .off rfl rfl rfl rfl rfl (by rfl) ?_
            refine .off rfl rfl rfl rfl rfl (by rfl) ?_
            refine .off rfl rfl rfl rfl rfl (by rfl) ?_
            refine .off rfl rfl rfl rfl rfl (by rfl) ?_
            refine .v (f_pick_false (by rfl) rfl) rfl (.c rfl (.c rfl .nil)) .nil ?_
            refine .v (f_move (by rfl)) rfl (.c rfl .nil) .nil ?_
            refine .off rfl rfl rfl rfl rfl (by rfl) ?_
            refine .off rfl rfl rfl rfl rfl (by rfl) ?_
            refine .off rfl rfl rfl rfl rfl (by rfl) ?_
            refine .off rfl rfl rfl rfl rfl (by rfl) ?_
            refine .off rfl rfl rfl rfl rfl (by rfl) ?_
            refine .off rfl rfl rfl rfl rfl (by rfl) ?_
            refine .v (f_pick_false (by rfl) rfl) rfl (.c rfl (.c rfl .nil)) .nil ?_
            refine .v (f_move (by rfl)) rfl (.c rfl .nil) .nil ?_
            refine .off rfl rfl rfl rfl rfl (by rfl) ?_
            refine .off rfl rfl rfl rfl rfl (by rfl) ?_
            refine .off rfl rfl rfl rfl rfl (by rfl) ?_
            refine .v (f_pick_false (by rfl) rfl) rfl (.c rfl (.c rfl .nil)) .nil ?_
            refine .v (f_assign (by rfl)) rfl (.c rfl .nil) .nil ?_
            refine .nil (aq_then ?_)
            refine aw_ret ?_
            obtain rfl := Option.some.inj h
            exact aq_finp hb0 rfl (.tmp rfl (by rfl) .nil) (by rfl) rfl ⟨rfl, rfl⟩
        · replace h := ite_f hc22 h
          refine .off rfl rfl rfl hc22 rfl (by rfl) ?_
          refine .off rfl rfl rfl hc22 rfl (by rfl) ?_
          refine .v (f_pick_false (by rfl) hc22) rfl (.c rfl (.c rfl .nil)) .nil ?_
          refine .v (f_move (by rfl)) rfl (.c rfl .nil) .nil ?_
          refine .off rfl rfl rfl rfl rfl (by rfl) ?_
          refine .off rfl rfl rfl rfl rfl (by rfl) ?_
          refine .off rfl rfl rfl rfl rfl (by rfl) ?_
          refine .v (f_pick_false (by rfl) rfl) rfl (.c rfl (.c rfl .nil)) .nil ?_
          refine .v (f_move (by rfl)) rfl (.c rfl .nil) .nil ?_
          refine .off rfl rfl rfl rfl rfl (by rfl) ?_
          refine .off rfl rfl rfl rfl rfl (by rfl) ?_
          refine .v (f_pick_false (by rfl) rfl) rfl (.c rfl (.c rfl .nil)) .nil ?_
          refine .v (f_move (by rfl)) rfl (.c rfl .nil) .nil ?_
          refine .off rfl rfl rfl rfl rfl (by rfl) ?_
          refine .off rfl rfl rfl rfl rfl (by rfl) ?_
          refine .off rfl rfl rfl rfl rfl (by rfl) ?_
          refine .off rfl rfl rfl rfl rfl (by rfl) ?_
          refine .off rfl rfl rfl rfl rfl (by rfl) ?_
          refine .v (f_pick_false (by rfl) rfl) rfl (.c rfl (.c rfl .nil)) .nil ?_
          refine .v (f_move (by rfl)) rfl (.c rfl .nil) .nil ?_
          refine .off rfl rfl rfl rfl rfl (by rfl) ?_
          refine .off rfl rfl rfl rfl rfl (by rfl) ?_
          refine .off rfl rfl rfl rfl rfl (by rfl) ?_
          refine .off rfl rfl rfl rfl rfl (by rfl) ?_
          refine .off rfl rfl rfl rfl rfl (by rfl) ?_
          refine .off rfl rfl rfl rfl rfl (by rfl) ?_
          refine .v (f_pick_false (by rfl) rfl) rfl (.c rfl (.c rfl .nil)) .nil ?_
          refine .v (f_move (by rfl)) rfl (.c rfl .nil) .nil ?_
          refine .off rfl rfl rfl rfl rfl (by rfl) ?_
          refine .off rfl rfl rfl rfl rfl (by rfl) ?_
          refine .off rfl rfl rfl rfl rfl (by rfl) ?_
          refine .v (f_pick_false (by rfl) rfl) rfl (.c rfl (.c rfl .nil)) .nil ?_
          refine .v (f_assign (by rfl)) rfl (.c rfl .nil) .nil ?_
          refine .nil (aq_then ?_)
          refine aw_ret ?_
          obtain rfl := Option.some.inj h
          exact aq_finp hb0 rfl (.tmp rfl (by rfl) .nil) (by rfl) rfl ⟨rfl, rfl⟩
end Go.Proofs.Ytkhfhljfplflbaa
