/-
  PRINTED by wip/pr3.py: for each Go function a Lean function with the same answers, and the proof.
-/
import Derived.Test.YtonfljoibcnlgaaDoorCh
import Derived.Test.YtonfljoibcnlgaaDoorRows
import Derived.KernelRfl
namespace Go.Proofs.YtonfljoibcnlgaaDoor
open Bd
set_option maxRecDepth 10000
theorem mixed : Tryd.prog.follows .mixedOrders = true := by kernel_rfl
@[reducible] def eB (x : Bool) : D := .val (.bool x)
@[reducible] def eS (x : ByteArray) : D := .val (.string x)
@[reducible] def eI_u8 (x : Int) : D := .val (.int .u8 x)
@[reducible] def eI_u32 (x : Int) : D := .val (.int .u32 x)
@[reducible] def eI_u64 (x : Int) : D := .val (.int .u64 x)
@[reducible] def eI_i64 (x : Int) : D := .val (.int .i64 x)
@[reducible] def eA223 (x : List Int) : D := .arr 1 64 (x.map eI_u32)
@[reducible] def shaK : List Int := [1116352408, 1899447441, 3049323471, 3921009573, 961987163, 1508970993, 2453635748, 2870763221, 3624381080, 310598401, 607225278, 1426881987, 1925078388, 2162078206, 2614888103, 3248222580, 3835390401, 4022224774, 264347078, 604807628, 770255983, 1249150122, 1555081692, 1996064986, 2554220882, 2821834349, 2952996808, 3210313671, 3336571891, 3584528711, 113926993, 338241895, 666307205, 773529912, 1294757372, 1396182291, 1695183700, 1986661051, 2177026350, 2456956037, 2730485921, 2820302411, 3259730800, 3345764771, 3516065817, 3600352804, 4094571909, 275423344, 430227734, 506948616, 659060556, 883997877, 958139571, 1322822218, 1537002063, 1747873779, 1955562222, 2024104815, 2227730452, 2361852424, 2428436474, 2756734187, 3204031479, 3329325298]
@[reducible] def GS : List (Nat × D) := [(0, eA223 shaK)]
@[reducible] def eA209 (x : (List Int)) : D := .arr 1 8 (x.map eI_u32)
@[reducible] def eL139 (x : (List Int)) : D := .sl 1 (x.map eI_u8)
@[reducible] def eA233 (x : (List Int)) : D := .arr 1 8 (x.map eI_u8)
@[reducible] def eL180 (x : (List (List Int))) : D := .sl 1 (x.map eL139)
@[reducible] def eA22 (x : (List Int)) : D := .arr 1 32 (x.map eI_u8)
structure GTx where
  Pub : (List Int)
  To : (List Int)
  Nonce : Int
  Amount : Int
  Fee : Int
  Sign : (List Int)
  deriving DecidableEq, Inhabited
@[reducible] def eGTx (x : GTx) : D := .st [eA22 x.Pub, eA22 x.To, eI_u64 x.Nonce, eI_u64 x.Amount, eI_u64 x.Fee, eA22 x.Sign]
@[reducible] def eL184 (x : (List (List Int))) : D := .sl 32 (x.map eA22)
@[reducible] def eL187 (x : (List Int)) : D := .sl 1 (x.map eI_u64)
@[reducible] def eL24 (x : (List GTx)) : D := .sl 99 (x.map eGTx)
structure GLine where
  From : (List Int)
  Txs : (List GTx)
  deriving DecidableEq, Inhabited
@[reducible] def eGLine (x : GLine) : D := .st [eA22 x.From, eL24 x.Txs]
@[reducible] def eL72 (x : (List GLine)) : D := .sl 33 (x.map eGLine)
structure GShard where
  Lines : (List GLine)
  deriving DecidableEq, Inhabited
@[reducible] def eGShard (x : GShard) : D := .st [eL72 x.Lines]
@[reducible] def eL41 (x : (List GShard)) : D := .sl 1 (x.map eGShard)

theorem ar209 : arrB Tryd.prog 209 = some (8, 1) := by kernel_rfl
theorem ty209 : tyB Tryd.prog 209 = some (true, 8) := by kernel_rfl
theorem pl209_7 : placeB Tryd.prog 209 7 = some (7, 1) := by kernel_rfl
theorem pl209_6 : placeB Tryd.prog 209 6 = some (6, 1) := by kernel_rfl
theorem pl209_5 : placeB Tryd.prog 209 5 = some (5, 1) := by kernel_rfl
theorem pl209_4 : placeB Tryd.prog 209 4 = some (4, 1) := by kernel_rfl
theorem pl209_3 : placeB Tryd.prog 209 3 = some (3, 1) := by kernel_rfl
theorem pl209_2 : placeB Tryd.prog 209 2 = some (2, 1) := by kernel_rfl
theorem pl209_1 : placeB Tryd.prog 209 1 = some (1, 1) := by kernel_rfl
theorem pl209_0 : placeB Tryd.prog 209 0 = some (0, 1) := by kernel_rfl
theorem zr209 : ∃ zv, zeroB Tryd.prog 209 = some zv ∧ ∀ F μ w, RA F μ w (.d (eA209 (List.replicate 8 (0 : Int)))) zv.cells.toList := zero_mk' (by kernel_rfl) (by kernel_rfl)
theorem ag209 : aggB Tryd.prog 209 = true := by kernel_rfl
theorem en182 : enterB Tryd.prog 182 = true := by kernel_rfl
theorem ty208 : tyB Tryd.prog 208 = some (false, 1) := by kernel_rfl
theorem ar223 : arrB Tryd.prog 223 = some (64, 1) := by kernel_rfl
theorem sl139 : slB Tryd.prog 139 = some 1 := by kernel_rfl
theorem un5 : Tryd.prog.underlying 5 = some (.int .u8) := by kernel_rfl
theorem un208 : Tryd.prog.underlying 208 = some (.int .u32) := by kernel_rfl
theorem ty5 : tyB Tryd.prog 5 = some (false, 1) := by kernel_rfl
theorem ty223 : tyB Tryd.prog 223 = some (true, 64) := by kernel_rfl
theorem zr223 : ∃ zv, zeroB Tryd.prog 223 = some zv ∧ ∀ F μ w, RA F μ w (.d (eA223 (List.replicate 64 (0 : Int)))) zv.cells.toList := zero_mk' (by kernel_rfl) (by kernel_rfl)
theorem ag223 : aggB Tryd.prog 223 = true := by kernel_rfl
theorem el139 : elB Tryd.prog 139 = some (1, 1) := by kernel_rfl
theorem pl139_0 : placeB Tryd.prog 139 0 = some (0, 1) := by kernel_rfl
theorem zel139 : zelB Tryd.prog 139 = some (D.cells (.val (.int .u8 (0 : Int)))) := by kernel_rfl
theorem ar233 : arrB Tryd.prog 233 = some (8, 1) := by kernel_rfl
theorem un27 : Tryd.prog.underlying 27 = some (.int .u64) := by kernel_rfl
theorem zr233 : ∃ zv, zeroB Tryd.prog 233 = some zv ∧ ∀ F μ w, RA F μ w (.d (eA233 (List.replicate 8 (0 : Int)))) zv.cells.toList := zero_mk' (by kernel_rfl) (by kernel_rfl)
theorem un3 : Tryd.prog.underlying 3 = some (.int .i64) := by kernel_rfl
theorem un202 : Tryd.prog.underlying 202 = some (.int .u64) := by kernel_rfl
theorem sl180 : slB Tryd.prog 180 = some 1 := by kernel_rfl
theorem ty139 : tyB Tryd.prog 139 = some (false, 1) := by kernel_rfl
theorem en162 : enterB Tryd.prog 162 = true := by kernel_rfl
theorem en180 : enterB Tryd.prog 180 = true := by kernel_rfl
theorem en179 : enterB Tryd.prog 179 = true := by kernel_rfl
theorem ar23 : arrB Tryd.prog 23 = some (32, 1) := by kernel_rfl
theorem ty23 : tyB Tryd.prog 23 = some (true, 32) := by kernel_rfl
theorem zr23 : ∃ zv, zeroB Tryd.prog 23 = some zv ∧ ∀ F μ w, RA F μ w (.d (eA22 (List.replicate 32 (0 : Int)))) zv.cells.toList := zero_mk' (by kernel_rfl) (by kernel_rfl)
theorem en178 : enterB Tryd.prog 178 = true := by kernel_rfl
theorem en177 : enterB Tryd.prog 177 = true := by kernel_rfl
theorem en176 : enterB Tryd.prog 176 = true := by kernel_rfl
theorem en171 : enterB Tryd.prog 171 = true := by kernel_rfl
theorem en172 : enterB Tryd.prog 172 = true := by kernel_rfl
theorem en152 : enterB Tryd.prog 152 = true := by kernel_rfl
theorem en161 : enterB Tryd.prog 161 = true := by kernel_rfl
theorem fl_eA22 : ∀ x : (List Int), FlatD (eA22 x) := fun _ => flat_arr fun _ => flat_val
theorem pl180_0 : placeB Tryd.prog 180 0 = some (0, 1) := by kernel_rfl
theorem el180 : elB Tryd.prog 180 = some (1, 24) := by kernel_rfl
theorem zel180 : zelB Tryd.prog 180 = some (D.cells (.val (.slice none 0 0))) := by kernel_rfl
theorem en144 : enterB Tryd.prog 144 = true := by kernel_rfl
theorem ty27 : tyB Tryd.prog 27 = some (false, 1) := by kernel_rfl
theorem fl36_4 : fieldB Tryd.prog 36 4 = some (66, false, 1) := by kernel_rfl
theorem fl36_3 : fieldB Tryd.prog 36 3 = some (65, false, 1) := by kernel_rfl
theorem fl36_2 : fieldB Tryd.prog 36 2 = some (64, false, 1) := by kernel_rfl
theorem fl36_1 : fieldB Tryd.prog 36 1 = some (32, true, 32) := by kernel_rfl
theorem fl36_0 : fieldB Tryd.prog 36 0 = some (0, true, 32) := by kernel_rfl
theorem en143 : enterB Tryd.prog 143 = true := by kernel_rfl
theorem en170 : enterB Tryd.prog 170 = true := by kernel_rfl
theorem ar210 : arrB Tryd.prog 210 = some (8, 1) := by kernel_rfl
theorem ty210 : tyB Tryd.prog 210 = some (true, 8) := by kernel_rfl
theorem pl210_7 : placeB Tryd.prog 210 7 = some (7, 1) := by kernel_rfl
theorem pl210_6 : placeB Tryd.prog 210 6 = some (6, 1) := by kernel_rfl
theorem pl210_5 : placeB Tryd.prog 210 5 = some (5, 1) := by kernel_rfl
theorem pl210_4 : placeB Tryd.prog 210 4 = some (4, 1) := by kernel_rfl
theorem pl210_3 : placeB Tryd.prog 210 3 = some (3, 1) := by kernel_rfl
theorem pl210_2 : placeB Tryd.prog 210 2 = some (2, 1) := by kernel_rfl
theorem pl210_1 : placeB Tryd.prog 210 1 = some (1, 1) := by kernel_rfl
theorem pl210_0 : placeB Tryd.prog 210 0 = some (0, 1) := by kernel_rfl
theorem zr210 : ∃ zv, zeroB Tryd.prog 210 = some zv ∧ ∀ F μ w, RA F μ w (.d (eA209 (List.replicate 8 (0 : Int)))) zv.cells.toList := zero_mk' (by kernel_rfl) (by kernel_rfl)
theorem ag210 : aggB Tryd.prog 210 = true := by kernel_rfl
theorem en160 : enterB Tryd.prog 160 = true := by kernel_rfl
theorem fl_eA209 : ∀ x : (List Int), FlatD (eA209 x) := fun _ => flat_arr fun _ => flat_val
theorem en151 : enterB Tryd.prog 151 = true := by kernel_rfl
theorem en146 : enterB Tryd.prog 146 = true := by kernel_rfl
theorem eq_eI_u8 (a b : Int) : D.eqB (eI_u8 a) (eI_u8 b) = decide (a = b) := by simp only [D.eqB]; rfl
theorem fit5 {d : Nat} (a : Int) : Fits Tryd.prog (d + 1) 5 (eI_u8 a) := .int un5
theorem eq_eA22 (a b : (List Int)) : D.eqB (eA22 a) (eA22 b) = decide (a = b) := by simp only [D.eqB]; exact eqBs_map eq_eI_u8 a b
theorem uda23 : Tryd.prog.underlying 23 = some (.array 32 5) := by kernel_rfl
theorem fit23 {d : Nat} (a : (List Int)) : Fits Tryd.prog (d + 2) 23 (eA22 a) := .arr uda23 ty5 (by intro x hx; obtain ⟨y, _, rfl⟩ := List.mem_map.1 hx; rfl) (by intro x hx; obtain ⟨y, _, rfl⟩ := List.mem_map.1 hx; exact fit5 y)
theorem gd23 : Tryd.prog.eqGuardType Tryd.prog.depth 23 = false := by kernel_rfl
theorem en145 : enterB Tryd.prog 145 = true := by kernel_rfl
theorem ty36 : tyB Tryd.prog 36 = some (true, 99) := by kernel_rfl
theorem fl36_5 : fieldB Tryd.prog 36 5 = some (67, true, 32) := by kernel_rfl
theorem sl184 : slB Tryd.prog 184 = some 32 := by kernel_rfl
theorem en140 : enterB Tryd.prog 140 = true := by kernel_rfl
theorem sl187 : slB Tryd.prog 187 = some 1 := by kernel_rfl
theorem en142 : enterB Tryd.prog 142 = true := by kernel_rfl
theorem en141 : enterB Tryd.prog 141 = true := by kernel_rfl
theorem pl187_2 : placeB Tryd.prog 187 2 = some (2, 1) := by kernel_rfl
theorem pl187_1 : placeB Tryd.prog 187 1 = some (1, 1) := by kernel_rfl
theorem pl187_0 : placeB Tryd.prog 187 0 = some (0, 1) := by kernel_rfl
theorem el187 : elB Tryd.prog 187 = some (1, 8) := by kernel_rfl
theorem zel187 : zelB Tryd.prog 187 = some (D.cells (.val (.int .u64 (0 : Int)))) := by kernel_rfl
theorem en139 : enterB Tryd.prog 139 = true := by kernel_rfl
theorem pl184_1 : placeB Tryd.prog 184 1 = some (32, 32) := by kernel_rfl
theorem pl184_0 : placeB Tryd.prog 184 0 = some (0, 32) := by kernel_rfl
theorem el184 : elB Tryd.prog 184 = some (32, 32) := by kernel_rfl
theorem zel184 : zelB Tryd.prog 184 = some (D.cells (eA22 (List.replicate 32 (0 : Int)))) := by kernel_rfl
theorem en137 : enterB Tryd.prog 137 = true := by kernel_rfl
theorem en138 : enterB Tryd.prog 138 = true := by kernel_rfl
theorem sl72 : slB Tryd.prog 72 = some 33 := by kernel_rfl
theorem sl24 : slB Tryd.prog 24 = some 99 := by kernel_rfl
theorem en118 : enterB Tryd.prog 118 = true := by kernel_rfl
theorem en117 : enterB Tryd.prog 117 = true := by kernel_rfl
theorem ty24 : tyB Tryd.prog 24 = some (false, 1) := by kernel_rfl
theorem fl26_1 : fieldB Tryd.prog 26 1 = some (32, false, 1) := by kernel_rfl
theorem en87 : enterB Tryd.prog 87 = true := by kernel_rfl
theorem fl26_0 : fieldB Tryd.prog 26 0 = some (0, true, 32) := by kernel_rfl
theorem en124 : enterB Tryd.prog 124 = true := by kernel_rfl
theorem ty72 : tyB Tryd.prog 72 = some (false, 1) := by kernel_rfl
theorem fl74_0 : fieldB Tryd.prog 74 0 = some (0, false, 1) := by kernel_rfl
theorem en86 : enterB Tryd.prog 86 = true := by kernel_rfl
theorem ty26 : tyB Tryd.prog 26 = some (true, 33) := by kernel_rfl
theorem zrv26 : ∃ zv, zeroB Tryd.prog 26 = some zv ∧ ∀ F μ w, RA F μ w (.st [.d (eA22 (List.replicate 32 (0 : Int))), .d (.val (.slice none 0 0))]) zv.cells.toList := zero_st (ds := [(eA22 (List.replicate 32 (0 : Int))), (.val (.slice none 0 0))]) (zero_mk' (by kernel_rfl) (by kernel_rfl))
theorem eq_eI_u64 (a b : Int) : D.eqB (eI_u64 a) (eI_u64 b) = decide (a = b) := by simp only [D.eqB]; rfl
theorem fit27 {d : Nat} (a : Int) : Fits Tryd.prog (d + 1) 27 (eI_u64 a) := .int un27
theorem eq_eGTx (a b : GTx) : D.eqB (eGTx a) (eGTx b) = decide (a = b) := by
  show (D.eqB (eA22 a.Pub) (eA22 b.Pub) && (D.eqB (eA22 a.To) (eA22 b.To) && (D.eqB (eI_u64 a.Nonce) (eI_u64 b.Nonce) && (D.eqB (eI_u64 a.Amount) (eI_u64 b.Amount) && (D.eqB (eI_u64 a.Fee) (eI_u64 b.Fee) && (D.eqB (eA22 a.Sign) (eA22 b.Sign) && true)))))) = _
  rw [eq_eA22, eq_eA22, eq_eI_u64, eq_eI_u64, eq_eI_u64, eq_eA22]
  cases a; cases b; simp only [Bool.and_true, GTx.mk.injEq, Bool.decide_and]
theorem udst36 : Tryd.prog.underlying 36 = some (.struct (Tryd.prog.fieldsOf 36)) := by kernel_rfl
theorem sih36 : Tryd.prog.stoodInHeld 36 = false := by kernel_rfl
theorem fq36 : fieldsQ Tryd.prog 36 = [(23, 0, false), (23, 32, false), (27, 64, false), (27, 65, false), (27, 66, false), (23, 67, false)] := by kernel_rfl
theorem fit36 {d : Nat} (a : GTx) : Fits Tryd.prog (d + 3) 36 (eGTx a) := fits_st udst36 sih36 fq36 ⟨rfl, rfl, ty23, fit23 _, ⟨rfl, rfl, ty23, fit23 _, ⟨rfl, rfl, ty27, fit27 _, ⟨rfl, rfl, ty27, fit27 _, ⟨rfl, rfl, ty27, fit27 _, ⟨rfl, rfl, ty23, fit23 _, trivial⟩⟩⟩⟩⟩⟩
theorem gd36 : Tryd.prog.eqGuardType Tryd.prog.depth 36 = false := by kernel_rfl
theorem en115 : enterB Tryd.prog 115 = true := by kernel_rfl
theorem en116 : enterB Tryd.prog 116 = true := by kernel_rfl
theorem sl41 : slB Tryd.prog 41 = some 1 := by kernel_rfl
theorem en78 : enterB Tryd.prog 78 = true := by kernel_rfl
theorem en97 : enterB Tryd.prog 97 = true := by kernel_rfl
theorem ty74 : tyB Tryd.prog 74 = some (true, 1) := by kernel_rfl
theorem en85 : enterB Tryd.prog 85 = true := by kernel_rfl
theorem en84 : enterB Tryd.prog 84 = true := by kernel_rfl
theorem en39 : enterB Tryd.prog 39 = true := by kernel_rfl
theorem en38 : enterB Tryd.prog 38 = true := by kernel_rfl
theorem en92 : enterB Tryd.prog 92 = true := by kernel_rfl
theorem en46 : enterB Tryd.prog 46 = true := by kernel_rfl
theorem en99 : enterB Tryd.prog 99 = true := by kernel_rfl
theorem en20 : enterB Tryd.prog 20 = true := by kernel_rfl
theorem en44 : enterB Tryd.prog 44 = true := by kernel_rfl
theorem el24 : elB Tryd.prog 24 = some (99, 120) := by kernel_rfl
theorem pl26_0 : placeB Tryd.prog 26 0 = some (0, 32) := by kernel_rfl
theorem ag26 : aggB Tryd.prog 26 = true := by kernel_rfl
theorem el72 : elB Tryd.prog 72 = some (33, 56) := by kernel_rfl
theorem pl72_0 : placeB Tryd.prog 72 0 = some (0, 33) := by kernel_rfl
theorem zel72 : zelB Tryd.prog 72 = some (D.cells (.st [(eA22 (List.replicate 32 (0 : Int))), (.val (.slice none 0 0))])) := by kernel_rfl
theorem en40 : enterB Tryd.prog 40 = true := by kernel_rfl
theorem zrv74 : ∃ zv, zeroB Tryd.prog 74 = some zv ∧ ∀ F μ w, RA F μ w (.st [.d (.val (.slice none 0 0))]) zv.cells.toList := zero_st (ds := [(.val (.slice none 0 0))]) (zero_mk' (by kernel_rfl) (by kernel_rfl))
theorem en77 : enterB Tryd.prog 77 = true := by kernel_rfl
theorem zr36 : ∃ zv, zeroB Tryd.prog 36 = some zv ∧ ∀ F μ w, RA F μ w (.d (eGTx (⟨(List.replicate 32 (0 : Int)), (List.replicate 32 (0 : Int)), (0 : Int), (0 : Int), (0 : Int), (List.replicate 32 (0 : Int))⟩ : GTx))) zv.cells.toList := zero_mk' (by kernel_rfl) (by kernel_rfl)
theorem en59 : enterB Tryd.prog 59 = true := by kernel_rfl
theorem en82 : enterB Tryd.prog 82 = true := by kernel_rfl
theorem en58 : enterB Tryd.prog 58 = true := by kernel_rfl
theorem en53 : enterB Tryd.prog 53 = true := by kernel_rfl
theorem en81 : enterB Tryd.prog 81 = true := by kernel_rfl
theorem ty41 : tyB Tryd.prog 41 = some (false, 1) := by kernel_rfl
theorem en56 : enterB Tryd.prog 56 = true := by kernel_rfl
theorem el41 : elB Tryd.prog 41 = some (1, 24) := by kernel_rfl
theorem zeln41 : zelB Tryd.prog 41 = some (D.cells (.st [(.val (.slice none 0 0))])) := by kernel_rfl
theorem pl41_0 : placeB Tryd.prog 41 0 = some (0, 1) := by kernel_rfl
theorem zel41 : zelB Tryd.prog 41 = some (D.cells (.st [(.val (.slice none 0 0))])) := by kernel_rfl
theorem en54 : enterB Tryd.prog 54 = true := by kernel_rfl
theorem en49 : enterB Tryd.prog 49 = true := by kernel_rfl
theorem en21 : enterB Tryd.prog 21 = true := by kernel_rfl
theorem en27 : enterB Tryd.prog 27 = true := by kernel_rfl

/- 182: beadroll/beadrollref02.turn -/
def F182_beadrollref02_turn (n : Nat) (a0 : Int) (a1 : Int) : Option (Int) :=
  (if 0 ≤ a1 then (if 0 ≤ (IntKind.u32.wrap ((32 : Int) - a1)) then some (bOr .u32 (shr .u32 a0 a1) (shl .u32 a0 (IntKind.u32.wrap ((32 : Int) - a1)))) else none) else none)
theorem F182_beadrollref02_turn_ok {n : Nat} {a0 : Int} {a1 : Int} {r : Int} (h : F182_beadrollref02_turn n a0 a1 = some r) :
    ACall Tryd.prog GS 182 [.d (.val (.int .u32 a0)), .d (.val (.int .u32 a1))] [] (fun r' hp' => r' = .d (.val (.int .u32 r)) ∧ hp' = []) := by
 refine acall_of_body mixed Tryd.func182 rfl (by rfl) ?_
 intro C hro hgl hb0
 unfold F182_beadrollref02_turn at h
 refine aw_rs ?_
 refine .as rfl (by rfl) ?_
 refine .nil (aq_then ?_)
 refine aw_rs ?_
 refine .mv rfl (by rfl) ?_
 refine .mv rfl (by rfl) ?_
 obtain ⟨hz1, h⟩ := ifp h
 refine .v (f_shift (by rfl) (shr_ok hz1) (by rfl)) rfl (.c rfl (.c rfl .nil)) .nil ?_
 refine .mv rfl (by rfl) ?_
 refine .mv rfl (by rfl) ?_
 refine .v (f_binI (by rfl) rfl (by rfl)) rfl (.c rfl (.c rfl .nil)) .nil ?_
 obtain ⟨hz2, h⟩ := ifp h
 refine .v (f_shift (by rfl) (shl_ok hz2) (by rfl)) rfl (.c rfl (.c rfl .nil)) .nil ?_
 refine .v (f_binI (r := .int .u32 (bOr .u32 (shr .u32 a0 a1) (shl .u32 a0 (IntKind.u32.wrap ((32 : Int) - a1))))) (by rfl) rfl (by rfl)) rfl (.c rfl (.c rfl .nil)) .nil ?_
 refine .as rfl (by rfl) ?_
 refine .nil (aq_then ?_)
 refine aw_ret ?_
 obtain rfl := Option.some.inj h
 exact aq_finp hb0 rfl (.tmp rfl (by rfl) .nil) (by rfl) rfl ⟨rfl, rfl⟩

/- 180: beadroll/beadrollref02.round -/
def F180_beadrollref02_round (n : Nat) (a0 : (List Int)) (a1 : Int) (a2 : Int) : Option ((List Int)) :=
  ((rd a0 (0 : Int)).bind fun (x1 : Int) => ((rd a0 (1 : Int)).bind fun (x4 : Int) => ((rd a0 (2 : Int)).bind fun (x7 : Int) => ((rd a0 (3 : Int)).bind fun (x10 : Int) => ((rd a0 (4 : Int)).bind fun (x13 : Int) => ((rd a0 (5 : Int)).bind fun (x16 : Int) => ((rd a0 (6 : Int)).bind fun (x19 : Int) => ((rd a0 (7 : Int)).bind fun (x22 : Int) => ((F182_beadrollref02_turn n x13 (6 : Int)).bind fun (y25 : Int) => ((F182_beadrollref02_turn n x13 (11 : Int)).bind fun (y27 : Int) => ((F182_beadrollref02_turn n x13 (25 : Int)).bind fun (y29 : Int) => ((F182_beadrollref02_turn n x1 (2 : Int)).bind fun (y31 : Int) => ((F182_beadrollref02_turn n x1 (13 : Int)).bind fun (y33 : Int) => ((F182_beadrollref02_turn n x1 (22 : Int)).bind fun (y35 : Int) => some ([(IntKind.u32.wrap ((IntKind.u32.wrap ((IntKind.u32.wrap ((IntKind.u32.wrap ((IntKind.u32.wrap (x22 + (bXor .u32 (bXor .u32 y25 y27) y29))) + (bXor .u32 (bAnd .u32 x13 x16) (bAnd .u32 (IntKind.u32.wrap ((4294967295 : Int) - x13)) x19)))) + a1)) + a2)) + (IntKind.u32.wrap ((bXor .u32 (bXor .u32 y31 y33) y35) + (bXor .u32 (bXor .u32 (bAnd .u32 x1 x4) (bAnd .u32 x1 x7)) (bAnd .u32 x4 x7)))))), x1, x4, x7, (IntKind.u32.wrap (x10 + (IntKind.u32.wrap ((IntKind.u32.wrap ((IntKind.u32.wrap ((IntKind.u32.wrap (x22 + (bXor .u32 (bXor .u32 y25 y27) y29))) + (bXor .u32 (bAnd .u32 x13 x16) (bAnd .u32 (IntKind.u32.wrap ((4294967295 : Int) - x13)) x19)))) + a1)) + a2)))), x13, x16, x19] : List Int)))))))))))))))
theorem F180_beadrollref02_round_ok {n : Nat} {a0 : (List Int)} {a1 : Int} {a2 : Int} {r : (List Int)} (h : F180_beadrollref02_round n a0 a1 a2 = some r) :
    ACall Tryd.prog GS 180 [.d (eA209 a0), .d (.val (.int .u32 a1)), .d (.val (.int .u32 a2))] [] (fun r' hp' => r' = .d (eA209 r) ∧ hp' = []) := by
 refine acall_of_body mixed Tryd.func180 rfl (by rfl) ?_
 intro C hro hgl hb0
 unfold F180_beadrollref02_round at h
 refine aw_rs ?_
 refine .n (f_box 3 (by rfl) (by rfl)) rfl (.c rfl .nil) rfl ?_
 refine .n (f_alloc 6 (by rfl) zr209) rfl .nil rfl ?_
 refine .nil (aq_then ?_)
 refine aw_rds ?_
 obtain ⟨x1, hx2, h⟩ := bind_some h
 obtain ⟨hx3, hx2⟩ := rd_some hx2
 refine .v (f_indexO (by rfl) ar209 rfl hx3 (rd_map _ hx2)) rfl (.c rfl (.c rfl .nil)) (.cons rfl .nil) ?_
 refine .v (f_load (n := 0) (o := 3) (off := (0 + ((0 : Int)).toNat * 1)) (p := [((0 : Int)).toNat]) (c := .d (eA209 a0)) (z := .d (.val (.int .u32 x1))) (by rfl) (at_map _ hx2 (by simp)) ty208 (by rfl)) rfl (.c rfl .nil) (.cons rfl .nil) ?_
 obtain ⟨x4, hx5, h⟩ := bind_some h
 obtain ⟨hx6, hx5⟩ := rd_some hx5
 refine .v (f_indexO (by rfl) ar209 rfl hx6 (rd_map _ hx5)) rfl (.c rfl (.c rfl .nil)) (.cons rfl .nil) ?_
 refine .v (f_load (n := 0) (o := 3) (off := (0 + ((1 : Int)).toNat * 1)) (p := [((1 : Int)).toNat]) (c := .d (eA209 a0)) (z := .d (.val (.int .u32 x4))) (by rfl) (at_map _ hx5 (by simp)) ty208 (by rfl)) rfl (.c rfl .nil) (.cons rfl .nil) ?_
 obtain ⟨x7, hx8, h⟩ := bind_some h
 obtain ⟨hx9, hx8⟩ := rd_some hx8
 refine .v (f_indexO (by rfl) ar209 rfl hx9 (rd_map _ hx8)) rfl (.c rfl (.c rfl .nil)) (.cons rfl .nil) ?_
 refine .v (f_load (n := 0) (o := 3) (off := (0 + ((2 : Int)).toNat * 1)) (p := [((2 : Int)).toNat]) (c := .d (eA209 a0)) (z := .d (.val (.int .u32 x7))) (by rfl) (at_map _ hx8 (by simp)) ty208 (by rfl)) rfl (.c rfl .nil) (.cons rfl .nil) ?_
 obtain ⟨x10, hx11, h⟩ := bind_some h
 obtain ⟨hx12, hx11⟩ := rd_some hx11
 refine .v (f_indexO (by rfl) ar209 rfl hx12 (rd_map _ hx11)) rfl (.c rfl (.c rfl .nil)) (.cons rfl .nil) ?_
 refine .v (f_load (n := 0) (o := 3) (off := (0 + ((3 : Int)).toNat * 1)) (p := [((3 : Int)).toNat]) (c := .d (eA209 a0)) (z := .d (.val (.int .u32 x10))) (by rfl) (at_map _ hx11 (by simp)) ty208 (by rfl)) rfl (.c rfl .nil) (.cons rfl .nil) ?_
 obtain ⟨x13, hx14, h⟩ := bind_some h
 obtain ⟨hx15, hx14⟩ := rd_some hx14
 refine .v (f_indexO (by rfl) ar209 rfl hx15 (rd_map _ hx14)) rfl (.c rfl (.c rfl .nil)) (.cons rfl .nil) ?_
 refine .v (f_load (n := 0) (o := 3) (off := (0 + ((4 : Int)).toNat * 1)) (p := [((4 : Int)).toNat]) (c := .d (eA209 a0)) (z := .d (.val (.int .u32 x13))) (by rfl) (at_map _ hx14 (by simp)) ty208 (by rfl)) rfl (.c rfl .nil) (.cons rfl .nil) ?_
 obtain ⟨x16, hx17, h⟩ := bind_some h
 obtain ⟨hx18, hx17⟩ := rd_some hx17
 refine .v (f_indexO (by rfl) ar209 rfl hx18 (rd_map _ hx17)) rfl (.c rfl (.c rfl .nil)) (.cons rfl .nil) ?_
 refine .v (f_load (n := 0) (o := 3) (off := (0 + ((5 : Int)).toNat * 1)) (p := [((5 : Int)).toNat]) (c := .d (eA209 a0)) (z := .d (.val (.int .u32 x16))) (by rfl) (at_map _ hx17 (by simp)) ty208 (by rfl)) rfl (.c rfl .nil) (.cons rfl .nil) ?_
 obtain ⟨x19, hx20, h⟩ := bind_some h
 obtain ⟨hx21, hx20⟩ := rd_some hx20
 refine .v (f_indexO (by rfl) ar209 rfl hx21 (rd_map _ hx20)) rfl (.c rfl (.c rfl .nil)) (.cons rfl .nil) ?_
 refine .v (f_load (n := 0) (o := 3) (off := (0 + ((6 : Int)).toNat * 1)) (p := [((6 : Int)).toNat]) (c := .d (eA209 a0)) (z := .d (.val (.int .u32 x19))) (by rfl) (at_map _ hx20 (by simp)) ty208 (by rfl)) rfl (.c rfl .nil) (.cons rfl .nil) ?_
 obtain ⟨x22, hx23, h⟩ := bind_some h
 obtain ⟨hx24, hx23⟩ := rd_some hx23
 refine .v (f_indexO (by rfl) ar209 rfl hx24 (rd_map _ hx23)) rfl (.c rfl (.c rfl .nil)) (.cons rfl .nil) ?_
 refine .v (f_load (n := 0) (o := 3) (off := (0 + ((7 : Int)).toNat * 1)) (p := [((7 : Int)).toNat]) (c := .d (eA209 a0)) (z := .d (.val (.int .u32 x22))) (by rfl) (at_map _ hx23 (by simp)) ty208 (by rfl)) rfl (.c rfl .nil) (.cons rfl .nil) ?_
 refine .v (f_assign (by rfl)) rfl (.c rfl .nil) .nil ?_
 refine .v (f_assign (by rfl)) rfl (.c rfl .nil) .nil ?_
 refine .v (f_assign (by rfl)) rfl (.c rfl .nil) .nil ?_
 refine .v (f_assign (by rfl)) rfl (.c rfl .nil) .nil ?_
 refine .v (f_assign (by rfl)) rfl (.c rfl .nil) .nil ?_
 refine .v (f_assign (by rfl)) rfl (.c rfl .nil) .nil ?_
 refine .v (f_assign (by rfl)) rfl (.c rfl .nil) .nil ?_
 refine .v (f_assign (by rfl)) rfl (.c rfl .nil) .nil ?_
 refine .nil (by kernel_rfl) ?_
 refine aw_rs ?_
 refine .mv rfl (by rfl) ?_
 refine .mv rfl (by rfl) ?_
 obtain ⟨y25, hy26, h⟩ := bind_some h
 refine .v (f_callP hgl (by rfl) en182 rfl (by rfl) (by rfl) (by rfl) (F182_beadrollref02_turn_ok hy26)) rfl (.c rfl (.c rfl .nil)) .nil ?_
 refine .mv rfl (by rfl) ?_
 obtain ⟨y27, hy28, h⟩ := bind_some h
 refine .v (f_callP hgl (by rfl) en182 rfl (by rfl) (by rfl) (by rfl) (F182_beadrollref02_turn_ok hy28)) rfl (.c rfl (.c rfl .nil)) .nil ?_
 refine .v (f_binI (r := .int .u32 (bXor .u32 y25 y27)) (by rfl) rfl (by rfl)) rfl (.c rfl (.c rfl .nil)) .nil ?_
 refine .mv rfl (by rfl) ?_
 obtain ⟨y29, hy30, h⟩ := bind_some h
 refine .v (f_callP hgl (by rfl) en182 rfl (by rfl) (by rfl) (by rfl) (F182_beadrollref02_turn_ok hy30)) rfl (.c rfl (.c rfl .nil)) .nil ?_
 refine .v (f_binI (r := .int .u32 (bXor .u32 (bXor .u32 y25 y27) y29)) (by rfl) rfl (by rfl)) rfl (.c rfl (.c rfl .nil)) .nil ?_
 refine .v (f_binI (by rfl) rfl (by rfl)) rfl (.c rfl (.c rfl .nil)) .nil ?_
 refine .mv rfl (by rfl) ?_
 refine .mv rfl (by rfl) ?_
 refine .v (f_binI (r := .int .u32 (bAnd .u32 x13 x16)) (by rfl) rfl (by rfl)) rfl (.c rfl (.c rfl .nil)) .nil ?_
 refine .mv rfl (by rfl) ?_
 refine .v (f_binI (by rfl) rfl (by rfl)) rfl (.c rfl (.c rfl .nil)) .nil ?_
 refine .mv rfl (by rfl) ?_
 refine .v (f_binI (r := .int .u32 (bAnd .u32 (IntKind.u32.wrap ((4294967295 : Int) - x13)) x19)) (by rfl) rfl (by rfl)) rfl (.c rfl (.c rfl .nil)) .nil ?_
 refine .v (f_binI (r := .int .u32 (bXor .u32 (bAnd .u32 x13 x16) (bAnd .u32 (IntKind.u32.wrap ((4294967295 : Int) - x13)) x19))) (by rfl) rfl (by rfl)) rfl (.c rfl (.c rfl .nil)) .nil ?_
 refine .v (f_binI (by rfl) rfl (by rfl)) rfl (.c rfl (.c rfl .nil)) .nil ?_
 refine .mv rfl (by rfl) ?_
 refine .v (f_binI (by rfl) rfl (by rfl)) rfl (.c rfl (.c rfl .nil)) .nil ?_
 refine .mv rfl (by rfl) ?_
 refine .v (f_binI (by rfl) rfl (by rfl)) rfl (.c rfl (.c rfl .nil)) .nil ?_
 refine .as rfl (by rfl) ?_
 refine .nil (aq_then ?_)
 refine aw_rs ?_
 refine .mv rfl (by rfl) ?_
 obtain ⟨y31, hy32, h⟩ := bind_some h
 refine .v (f_callP hgl (by rfl) en182 rfl (by rfl) (by rfl) (by rfl) (F182_beadrollref02_turn_ok hy32)) rfl (.c rfl (.c rfl .nil)) .nil ?_
 refine .mv rfl (by rfl) ?_
 obtain ⟨y33, hy34, h⟩ := bind_some h
 refine .v (f_callP hgl (by rfl) en182 rfl (by rfl) (by rfl) (by rfl) (F182_beadrollref02_turn_ok hy34)) rfl (.c rfl (.c rfl .nil)) .nil ?_
 refine .v (f_binI (r := .int .u32 (bXor .u32 y31 y33)) (by rfl) rfl (by rfl)) rfl (.c rfl (.c rfl .nil)) .nil ?_
 refine .mv rfl (by rfl) ?_
 obtain ⟨y35, hy36, h⟩ := bind_some h
 refine .v (f_callP hgl (by rfl) en182 rfl (by rfl) (by rfl) (by rfl) (F182_beadrollref02_turn_ok hy36)) rfl (.c rfl (.c rfl .nil)) .nil ?_
 refine .v (f_binI (r := .int .u32 (bXor .u32 (bXor .u32 y31 y33) y35)) (by rfl) rfl (by rfl)) rfl (.c rfl (.c rfl .nil)) .nil ?_
 refine .mv rfl (by rfl) ?_
 refine .mv rfl (by rfl) ?_
 refine .v (f_binI (r := .int .u32 (bAnd .u32 x1 x4)) (by rfl) rfl (by rfl)) rfl (.c rfl (.c rfl .nil)) .nil ?_
 refine .mv rfl (by rfl) ?_
 refine .mv rfl (by rfl) ?_
 refine .v (f_binI (r := .int .u32 (bAnd .u32 x1 x7)) (by rfl) rfl (by rfl)) rfl (.c rfl (.c rfl .nil)) .nil ?_
 refine .v (f_binI (r := .int .u32 (bXor .u32 (bAnd .u32 x1 x4) (bAnd .u32 x1 x7))) (by rfl) rfl (by rfl)) rfl (.c rfl (.c rfl .nil)) .nil ?_
 refine .mv rfl (by rfl) ?_
 refine .mv rfl (by rfl) ?_
 refine .v (f_binI (r := .int .u32 (bAnd .u32 x4 x7)) (by rfl) rfl (by rfl)) rfl (.c rfl (.c rfl .nil)) .nil ?_
 refine .v (f_binI (r := .int .u32 (bXor .u32 (bXor .u32 (bAnd .u32 x1 x4) (bAnd .u32 x1 x7)) (bAnd .u32 x4 x7))) (by rfl) rfl (by rfl)) rfl (.c rfl (.c rfl .nil)) .nil ?_
 refine .v (f_binI (by rfl) rfl (by rfl)) rfl (.c rfl (.c rfl .nil)) .nil ?_
 refine .as rfl (by rfl) ?_
 refine .nil (aq_then ?_)
 refine aw_rs ?_
 refine .mv rfl (by rfl) ?_
 refine .mv rfl (by rfl) ?_
 refine .v (f_binI (by rfl) rfl (by rfl)) rfl (.c rfl (.c rfl .nil)) .nil ?_
 refine .mv rfl (by rfl) ?_
 refine .mv rfl (by rfl) ?_
 refine .mv rfl (by rfl) ?_
 refine .mv rfl (by rfl) ?_
 refine .mv rfl (by rfl) ?_
 refine .v (f_binI (by rfl) rfl (by rfl)) rfl (.c rfl (.c rfl .nil)) .nil ?_
 refine .mv rfl (by rfl) ?_
 refine .mv rfl (by rfl) ?_
 refine .mv rfl (by rfl) ?_
 refine .v (f_build (xs := [(0, .d (.val (.int .u32 (IntKind.u32.wrap ((IntKind.u32.wrap ((IntKind.u32.wrap ((IntKind.u32.wrap ((IntKind.u32.wrap (x22 + (bXor .u32 (bXor .u32 y25 y27) y29))) + (bXor .u32 (bAnd .u32 x13 x16) (bAnd .u32 (IntKind.u32.wrap ((4294967295 : Int) - x13)) x19)))) + a1)) + a2)) + (IntKind.u32.wrap ((bXor .u32 (bXor .u32 y31 y33) y35) + (bXor .u32 (bXor .u32 (bAnd .u32 x1 x4) (bAnd .u32 x1 x7)) (bAnd .u32 x4 x7))))))))), (1, .d (.val (.int .u32 x1))), (2, .d (.val (.int .u32 x4))), (3, .d (.val (.int .u32 x7))), (4, .d (.val (.int .u32 (IntKind.u32.wrap (x10 + (IntKind.u32.wrap ((IntKind.u32.wrap ((IntKind.u32.wrap ((IntKind.u32.wrap (x22 + (bXor .u32 (bXor .u32 y25 y27) y29))) + (bXor .u32 (bAnd .u32 x13 x16) (bAnd .u32 (IntKind.u32.wrap ((4294967295 : Int) - x13)) x19)))) + a1)) + a2))))))), (5, .d (.val (.int .u32 x13))), (6, .d (.val (.int .u32 x16))), (7, .d (.val (.int .u32 x19)))]) (z' := .d (eA209 ([(IntKind.u32.wrap ((IntKind.u32.wrap ((IntKind.u32.wrap ((IntKind.u32.wrap ((IntKind.u32.wrap (x22 + (bXor .u32 (bXor .u32 y25 y27) y29))) + (bXor .u32 (bAnd .u32 x13 x16) (bAnd .u32 (IntKind.u32.wrap ((4294967295 : Int) - x13)) x19)))) + a1)) + a2)) + (IntKind.u32.wrap ((bXor .u32 (bXor .u32 y31 y33) y35) + (bXor .u32 (bXor .u32 (bAnd .u32 x1 x4) (bAnd .u32 x1 x7)) (bAnd .u32 x4 x7)))))), x1, x4, x7, (IntKind.u32.wrap (x10 + (IntKind.u32.wrap ((IntKind.u32.wrap ((IntKind.u32.wrap ((IntKind.u32.wrap (x22 + (bXor .u32 (bXor .u32 y25 y27) y29))) + (bXor .u32 (bAnd .u32 x13 x16) (bAnd .u32 (IntKind.u32.wrap ((4294967295 : Int) - x13)) x19)))) + a1)) + a2)))), x13, x16, x19] : List Int))) (by rfl) zr209 ag209 rfl (by rfl) ⟨_, _, _, rfl, pl209_0, rfl, rfl, ⟨_, _, _, rfl, pl209_1, rfl, rfl, ⟨_, _, _, rfl, pl209_2, rfl, rfl, ⟨_, _, _, rfl, pl209_3, rfl, rfl, ⟨_, _, _, rfl, pl209_4, rfl, rfl, ⟨_, _, _, rfl, pl209_5, rfl, rfl, ⟨_, _, _, rfl, pl209_6, rfl, rfl, ⟨_, _, _, rfl, pl209_7, rfl, rfl, trivial⟩⟩⟩⟩⟩⟩⟩⟩ (by rfl) (by rfl)) rfl (.c rfl (.c rfl (.c rfl (.c rfl (.c rfl (.c rfl (.c rfl (.c rfl .nil)))))))) .nil ?_
 refine .s (f_store (n := 0) (o := 6) (off := 0) (p := []) (c := .d (eA209 (List.replicate 8 (0 : Int)))) (old := .d (eA209 (List.replicate 8 (0 : Int)))) (z := .d (eA209 ([(IntKind.u32.wrap ((IntKind.u32.wrap ((IntKind.u32.wrap ((IntKind.u32.wrap ((IntKind.u32.wrap (x22 + (bXor .u32 (bXor .u32 y25 y27) y29))) + (bXor .u32 (bAnd .u32 x13 x16) (bAnd .u32 (IntKind.u32.wrap ((4294967295 : Int) - x13)) x19)))) + a1)) + a2)) + (IntKind.u32.wrap ((bXor .u32 (bXor .u32 y31 y33) y35) + (bXor .u32 (bXor .u32 (bAnd .u32 x1 x4) (bAnd .u32 x1 x7)) (bAnd .u32 x4 x7)))))), x1, x4, x7, (IntKind.u32.wrap (x10 + (IntKind.u32.wrap ((IntKind.u32.wrap ((IntKind.u32.wrap ((IntKind.u32.wrap (x22 + (bXor .u32 (bXor .u32 y25 y27) y29))) + (bXor .u32 (bAnd .u32 x13 x16) (bAnd .u32 (IntKind.u32.wrap ((4294967295 : Int) - x13)) x19)))) + a1)) + a2)))), x13, x16, x19] : List Int))) (c' := .d (eA209 ([(IntKind.u32.wrap ((IntKind.u32.wrap ((IntKind.u32.wrap ((IntKind.u32.wrap ((IntKind.u32.wrap (x22 + (bXor .u32 (bXor .u32 y25 y27) y29))) + (bXor .u32 (bAnd .u32 x13 x16) (bAnd .u32 (IntKind.u32.wrap ((4294967295 : Int) - x13)) x19)))) + a1)) + a2)) + (IntKind.u32.wrap ((bXor .u32 (bXor .u32 y31 y33) y35) + (bXor .u32 (bXor .u32 (bAnd .u32 x1 x4) (bAnd .u32 x1 x7)) (bAnd .u32 x4 x7)))))), x1, x4, x7, (IntKind.u32.wrap (x10 + (IntKind.u32.wrap ((IntKind.u32.wrap ((IntKind.u32.wrap ((IntKind.u32.wrap (x22 + (bXor .u32 (bXor .u32 y25 y27) y29))) + (bXor .u32 (bAnd .u32 x13 x16) (bAnd .u32 (IntKind.u32.wrap ((4294967295 : Int) - x13)) x19)))) + a1)) + a2)))), x13, x16, x19] : List Int))) rfl rfl (by rfl) ty209 (by rfl)) rfl (.c rfl (.c rfl .nil)) (.cons rfl .nil) ?_
 refine .nil (aq_then ?_)
 refine aw_ret ?_
 obtain rfl := Option.some.inj h
 exact aq_finp hb0 rfl (.cell rfl rfl ty209 (by rfl) .nil) (by rfl) rfl ⟨rfl, rfl⟩

/- 179: beadroll/beadrollref02.schedule -/
def F179_beadrollref02_schedule_s1 (a0 : (List Int)) (z0_0 : Int) (z1_0 : Int) (z1_1 : (List Int)) : Option ((Int × (List Int)) ⊕ ((List Int))) :=
  (if (decide (z1_0 < (4 : Int))) = true then ((rd z1_1 z0_0).bind fun (x3 : Int) => ((rd a0 (IntKind.i64.wrap ((IntKind.i64.wrap ((4 : Int) * z0_0)) + z1_0))).bind fun (x6 : Int) => ((rd z1_1 z0_0).bind fun (x9 : Int) => some (.inl ((IntKind.i64.wrap (z1_0 + (1 : Int))), (z1_1.set (z0_0).toNat (IntKind.u32.wrap ((IntKind.u32.wrap ((256 : Int) * x3)) + (IntKind.u32.wrap x6))))))))) else some (.inr z1_1))
def F179_beadrollref02_schedule_s0 (n : Nat) (a0 : (List Int)) (z0_0 : Int) (z0_1 : (List Int)) : Option ((Int × (List Int)) ⊕ ((List Int))) :=
  (if (decide (z0_0 < (16 : Int))) = true then ((loopF (fun (z : Int × (List Int)) => F179_beadrollref02_schedule_s1 a0 z0_0 z.1 z.2) n ((0 : Int), z0_1)).bind fun (o12 : (List Int)) => some (.inl ((IntKind.i64.wrap (z0_0 + (1 : Int))), o12))) else some (.inr z0_1))
def F179_beadrollref02_schedule_s2 (n : Nat) (z2_0 : Int) (z2_1 : (List Int)) : Option ((Int × (List Int)) ⊕ ((List Int))) :=
  (if (decide (z2_0 < (64 : Int))) = true then ((rd z2_1 (IntKind.i64.wrap (z2_0 - (15 : Int)))).bind fun (x17 : Int) => ((rd z2_1 (IntKind.i64.wrap (z2_0 - (2 : Int)))).bind fun (x20 : Int) => ((rd z2_1 (IntKind.i64.wrap (z2_0 - (16 : Int)))).bind fun (x23 : Int) => ((F182_beadrollref02_turn n x17 (7 : Int)).bind fun (y26 : Int) => ((F182_beadrollref02_turn n x17 (18 : Int)).bind fun (y28 : Int) => ((rd z2_1 (IntKind.i64.wrap (z2_0 - (7 : Int)))).bind fun (x30 : Int) => ((F182_beadrollref02_turn n x20 (17 : Int)).bind fun (y33 : Int) => ((F182_beadrollref02_turn n x20 (19 : Int)).bind fun (y35 : Int) => ((rd z2_1 z2_0).bind fun (x37 : Int) => some (.inl ((IntKind.i64.wrap (z2_0 + (1 : Int))), (z2_1.set (z2_0).toNat (IntKind.u32.wrap ((IntKind.u32.wrap ((IntKind.u32.wrap (x23 + (bXor .u32 (bXor .u32 y26 y28) (shr .u32 x17 (3 : Int))))) + x30)) + (bXor .u32 (bXor .u32 y33 y35) (shr .u32 x20 (10 : Int))))))))))))))))) else some (.inr z2_1))
def F179_beadrollref02_schedule (n : Nat) (a0 : (List Int)) : Option ((List Int)) :=
  ((loopF (fun (z : Int × (List Int)) => F179_beadrollref02_schedule_s0 n a0 z.1 z.2) n ((0 : Int), (List.replicate 64 (0 : Int)))).bind fun (o14 : (List Int)) => ((loopF (fun (z : Int × (List Int)) => F179_beadrollref02_schedule_s2 n z.1 z.2) n ((16 : Int), o14)).bind fun (o40 : (List Int)) => some o40))
theorem F179_beadrollref02_schedule_ok {n : Nat} {a0 : (List Int)} {r : (List Int)} (h : F179_beadrollref02_schedule n a0 = some r) :
    ACall Tryd.prog GS 179 [.d (eL139 a0)] [] (fun r' hp' => r' = .d (eA223 r) ∧ hp' = []) := by
 refine acall_of_body mixed Tryd.func179 rfl (by rfl) ?_
 intro C hro hgl hb0
 unfold F179_beadrollref02_schedule at h
 refine aw_rs ?_
 refine .n (f_alloc 2 (by rfl) zr223) rfl .nil rfl ?_
 refine .nil (aq_then ?_)
 refine aw_rs ?_
 refine .n (f_alloc 3 (by rfl) zr223) rfl .nil rfl ?_
 refine .nil (aq_then ?_)
 refine aw_seq ?_
 refine aw_rs ?_
 refine .as rfl (by rfl) ?_
 refine .nil (aq_then ?_)
 refine aw_block ?_
 refine aw_weak (s' := ⟨[(0, .d (eL139 a0)), (2, .ptr 2 0 []), (3, .ptr 3 0 []), (4, .d (.val (.int .i64 (0 : Int))))], [(2, .av (.d (eA223 (List.replicate 64 (0 : Int))))), (3, .av (.d (eA223 (List.replicate 64 (0 : Int)))))], []⟩) id hb0 (.keep rfl (.keep rfl (.keep rfl (.keep rfl .nil)))) (.keep rfl (.keep rfl .nil)) rfl (by rfl) ?_
 obtain ⟨o14, ho15, h⟩ := bind_some h
 refine aw_loopX (σ := Int × (List Int)) (fun z => ⟨[(0, .d (eL139 a0)), (2, .ptr 2 0 []), (3, .ptr 3 0 []), (4, .d (.val (.int .i64 z.1)))], [(2, .av (.d (eA223 (List.replicate 64 (0 : Int))))), (3, .av (.d (eA223 z.2)))], []⟩) (fun _ => (.exit 0)) (fun (o14 : (List Int)) => ⟨[(2, .ptr 2 0 []), (3, .ptr 3 0 [])], [(2, .av (.d (eA223 (List.replicate 64 (0 : Int))))), (3, .av (.d (eA223 o14)))], []⟩) ho15 (fun _ => rfl) ?_ ?_
 · clear h ho15
   rintro ⟨z0_0, z0_1⟩ o h
   change F179_beadrollref02_schedule_s0 n a0 z0_0 z0_1 = some o at h
   unfold F179_beadrollref02_schedule_s0 at h
   show AW _ _ _ ⟨[(0, .d (eL139 a0)), (2, .ptr 2 0 []), (3, .ptr 3 0 []), (4, .d (.val (.int .i64 z0_0)))], [(2, .av (.d (eA223 (List.replicate 64 (0 : Int))))), (3, .av (.d (eA223 z0_1)))], []⟩
   refine aw_seq ?_
   refine aw_rs ?_
   refine .mv rfl (by rfl) ?_
   refine .v (f_binI (by rfl) rfl (by rfl)) rfl (.c rfl (.c rfl .nil)) .nil ?_
   refine .nil (aq_then ?_)
   refine aw_cond rfl (fun hc1 => ?_) (fun hc1 => ?_)
   · replace h := ite_t hc1 h
     refine aw_skip ?_
     refine aq_then ?_
     refine aw_seq ?_
     refine aw_block ?_
     refine aw_rs ?_
     refine .as rfl (by rfl) ?_
     refine .nil (aq_then ?_)
     refine aw_block ?_
     refine aw_weak (s' := ⟨[(0, .d (eL139 a0)), (2, .ptr 2 0 []), (3, .ptr 3 0 []), (4, .d (.val (.int .i64 z0_0))), (5, .d (.val (.int .i64 (0 : Int))))], [(2, .av (.d (eA223 (List.replicate 64 (0 : Int))))), (3, .av (.d (eA223 z0_1)))], []⟩) id hb0 (.keep rfl (.keep rfl (.keep rfl (.keep rfl (.keep rfl .nil))))) (.keep rfl (.keep rfl .nil)) rfl (by rfl) ?_
     obtain ⟨o12, ho13, h⟩ := bind_some h
     refine aw_loopX (σ := Int × (List Int)) (fun z => ⟨[(0, .d (eL139 a0)), (2, .ptr 2 0 []), (3, .ptr 3 0 []), (4, .d (.val (.int .i64 z0_0))), (5, .d (.val (.int .i64 z.1)))], [(2, .av (.d (eA223 (List.replicate 64 (0 : Int))))), (3, .av (.d (eA223 z.2)))], []⟩) (fun _ => (.exit 2)) (fun (o12 : (List Int)) => ⟨[(0, .d (eL139 a0)), (2, .ptr 2 0 []), (3, .ptr 3 0 []), (4, .d (.val (.int .i64 z0_0)))], [(2, .av (.d (eA223 (List.replicate 64 (0 : Int))))), (3, .av (.d (eA223 o12)))], []⟩) ho13 (fun _ => rfl) ?_ ?_
     · clear h ho13
       rintro ⟨z1_0, z1_1⟩ o h
       change F179_beadrollref02_schedule_s1 a0 z0_0 z1_0 z1_1 = some o at h
       unfold F179_beadrollref02_schedule_s1 at h
       show AW _ _ _ ⟨[(0, .d (eL139 a0)), (2, .ptr 2 0 []), (3, .ptr 3 0 []), (4, .d (.val (.int .i64 z0_0))), (5, .d (.val (.int .i64 z1_0)))], [(2, .av (.d (eA223 (List.replicate 64 (0 : Int))))), (3, .av (.d (eA223 z1_1)))], []⟩
       refine aw_seq ?_
       refine aw_rs ?_
       refine .mv rfl (by rfl) ?_
       refine .v (f_binI (by rfl) rfl (by rfl)) rfl (.c rfl (.c rfl .nil)) .nil ?_
       refine .nil (aq_then ?_)
       refine aw_cond rfl (fun hc2 => ?_) (fun hc2 => ?_)
       · replace h := ite_t hc2 h
         refine aw_skip ?_
         refine aq_then ?_
         refine aw_seq ?_
         refine aw_block ?_
         refine aw_rd ?_
         refine .v (f_move (by rfl)) rfl (.c rfl .nil) .nil ?_
         refine .v (f_move (by rfl)) rfl (.c rfl .nil) .nil ?_
         obtain ⟨x3, hx4, h⟩ := bind_some h
         obtain ⟨hx5, hx4⟩ := rd_some hx4
         refine .v (f_indexO (by rfl) ar223 rfl hx5 (rd_map _ hx4)) rfl (.c rfl (.c rfl .nil)) (.cons rfl .nil) ?_
         refine .v (f_load (n := 0) (o := 3) (off := (0 + (z0_0).toNat * 1)) (p := [(z0_0).toNat]) (c := .d (eA223 z1_1)) (z := .d (.val (.int .u32 x3))) (by rfl) (at_map _ hx4 (by simp)) ty208 (by rfl)) rfl (.c rfl .nil) (.cons rfl .nil) ?_
         refine .v (f_binI (by rfl) rfl (by rfl)) rfl (.c rfl (.c rfl .nil)) .nil ?_
         refine .v (f_move (by rfl)) rfl (.c rfl .nil) .nil ?_
         refine .v (f_move (by rfl)) rfl (.c rfl .nil) .nil ?_
         refine .v (f_binI (by rfl) rfl (by rfl)) rfl (.c rfl (.c rfl .nil)) .nil ?_
         refine .v (f_move (by rfl)) rfl (.c rfl .nil) .nil ?_
         refine .v (f_binI (by rfl) rfl (by rfl)) rfl (.c rfl (.c rfl .nil)) .nil ?_
         obtain ⟨x6, hx7, h⟩ := bind_some h
         obtain ⟨hx8, hx7⟩ := rd_some hx7
         refine .v (f_indexS (by rfl) sl139 hx8 (rd_map _ hx7)) rfl (.c rfl (.c rfl .nil)) .nil ?_
         refine .v (f_loadR (z := (.val (.int .u8 x6))) (by rfl) ty5) rfl (.c rfl .nil) .nil ?_
         refine .v (f_convI (by rfl) un5 un208) rfl (.c rfl .nil) .nil ?_
         refine .v (f_binI (by rfl) rfl (by rfl)) rfl (.c rfl (.c rfl .nil)) .nil ?_
         obtain ⟨x9, hx10, h⟩ := bind_some h
         obtain ⟨hx11, hx10⟩ := rd_some hx10
         refine .v (f_indexO (by rfl) ar223 rfl hx11 (rd_map _ hx10)) rfl (.c rfl (.c rfl .nil)) (.cons rfl .nil) ?_
         refine .s (f_store (n := 0) (o := 3) (off := (0 + (z0_0).toNat * 1)) (p := [(z0_0).toNat]) (c := .d (eA223 z1_1)) (old := .d (.val (.int .u32 x9))) (z := .d (.val (.int .u32 (IntKind.u32.wrap ((IntKind.u32.wrap ((256 : Int) * x3)) + (IntKind.u32.wrap x6)))))) (c' := .d (eA223 (z1_1.set (z0_0).toNat (IntKind.u32.wrap ((IntKind.u32.wrap ((256 : Int) * x3)) + (IntKind.u32.wrap x6)))))) (at_map _ hx10 (by simp)) (put_map _ hx10) (by rfl) ty208 (by rfl)) rfl (.c rfl (.c rfl .nil)) (.cons rfl .nil) ?_
         refine .nil (by kernel_rfl) ?_
         refine aq_block ?_
         refine aq_then ?_
         refine aw_r ?_
         refine .mv rfl (by rfl) ?_
         refine .v (f_binI (by rfl) rfl (by rfl)) rfl (.c rfl (.c rfl .nil)) .nil ?_
         refine .as rfl (by rfl) ?_
         refine .nil ?_
         obtain rfl := Option.some.inj h
         refine aq_weak (s' := ⟨[(0, .d (eL139 a0)), (2, .ptr 2 0 []), (3, .ptr 3 0 []), (4, .d (.val (.int .i64 z0_0))), (5, .d (.val (.int .i64 (IntKind.i64.wrap (z1_0 + (1 : Int))))))], [(2, .av (.d (eA223 (List.replicate 64 (0 : Int))))), (3, .av (.d (eA223 (z1_1.set (z0_0).toNat (IntKind.u32.wrap ((IntKind.u32.wrap ((256 : Int) * x3)) + (IntKind.u32.wrap x6)))))))], []⟩) id hb0 (.keep rfl (.keep rfl (.keep rfl (.keep rfl (.keep rfl .nil))))) (.keep rfl (.keep rfl .nil)) rfl (by rfl) ?_
         exact jq
       replace h := ite_f hc2 h
       refine aw_exit ?_
       refine aq_then_exit ?_
       obtain rfl := Option.some.inj h
       refine aq_weak (s' := ⟨[(0, .d (eL139 a0)), (2, .ptr 2 0 []), (3, .ptr 3 0 []), (4, .d (.val (.int .i64 z0_0)))], [(2, .av (.d (eA223 (List.replicate 64 (0 : Int))))), (3, .av (.d (eA223 z1_1)))], []⟩) id hb0 (.keep rfl (.keep rfl (.keep rfl (.keep rfl .nil)))) (.keep rfl (.keep rfl .nil)) rfl (by rfl) ?_
       exact jq
     refine aq_block_exit ?_
     refine aq_block ?_
     refine aq_then ?_
     refine aw_r ?_
     refine .mv rfl (by rfl) ?_
     refine .v (f_binI (by rfl) rfl (by rfl)) rfl (.c rfl (.c rfl .nil)) .nil ?_
     refine .as rfl (by rfl) ?_
     refine .nil ?_
     obtain rfl := Option.some.inj h
     refine aq_weak (s' := ⟨[(0, .d (eL139 a0)), (2, .ptr 2 0 []), (3, .ptr 3 0 []), (4, .d (.val (.int .i64 (IntKind.i64.wrap (z0_0 + (1 : Int))))))], [(2, .av (.d (eA223 (List.replicate 64 (0 : Int))))), (3, .av (.d (eA223 o12)))], []⟩) id hb0 (.keep rfl (.keep rfl (.keep rfl (.keep rfl .nil)))) (.keep rfl (.keep rfl .nil)) rfl (by rfl) ?_
     exact jq
   replace h := ite_f hc1 h
   refine aw_exit ?_
   refine aq_then_exit ?_
   obtain rfl := Option.some.inj h
   refine aq_weak (s' := ⟨[(2, .ptr 2 0 []), (3, .ptr 3 0 [])], [(2, .av (.d (eA223 (List.replicate 64 (0 : Int))))), (3, .av (.d (eA223 z0_1)))], []⟩) id hb0 (.keep rfl (.keep rfl .nil)) (.keep rfl (.keep rfl .nil)) rfl (by rfl) ?_
   exact jq
 refine aq_block_exit ?_
 refine aq_then ?_
 refine aw_seq ?_
 refine aw_rs ?_
 refine .as rfl (by rfl) ?_
 refine .nil (aq_then ?_)
 refine aw_block ?_
 refine aw_weak (s' := ⟨[(2, .ptr 2 0 []), (3, .ptr 3 0 []), (6, .d (.val (.int .i64 (16 : Int))))], [(2, .av (.d (eA223 (List.replicate 64 (0 : Int))))), (3, .av (.d (eA223 o14)))], []⟩) id hb0 (.keep rfl (.keep rfl (.keep rfl .nil))) (.keep rfl (.keep rfl .nil)) rfl (by rfl) ?_
 obtain ⟨o40, ho41, h⟩ := bind_some h
 refine aw_loopX (σ := Int × (List Int)) (fun z => ⟨[(2, .ptr 2 0 []), (3, .ptr 3 0 []), (6, .d (.val (.int .i64 z.1)))], [(2, .av (.d (eA223 (List.replicate 64 (0 : Int))))), (3, .av (.d (eA223 z.2)))], []⟩) (fun _ => (.exit 4)) (fun (o40 : (List Int)) => ⟨[(2, .ptr 2 0 []), (3, .ptr 3 0 [])], [(2, .av (.d (eA223 (List.replicate 64 (0 : Int))))), (3, .av (.d (eA223 o40)))], []⟩) ho41 (fun _ => rfl) ?_ ?_
 · clear h ho41
   rintro ⟨z2_0, z2_1⟩ o h
   change F179_beadrollref02_schedule_s2 n z2_0 z2_1 = some o at h
   unfold F179_beadrollref02_schedule_s2 at h
   show AW _ _ _ ⟨[(2, .ptr 2 0 []), (3, .ptr 3 0 []), (6, .d (.val (.int .i64 z2_0)))], [(2, .av (.d (eA223 (List.replicate 64 (0 : Int))))), (3, .av (.d (eA223 z2_1)))], []⟩
   refine aw_seq ?_
   refine aw_rs ?_
   refine .mv rfl (by rfl) ?_
   refine .v (f_binI (by rfl) rfl (by rfl)) rfl (.c rfl (.c rfl .nil)) .nil ?_
   refine .nil (aq_then ?_)
   refine aw_cond rfl (fun hc16 => ?_) (fun hc16 => ?_)
   · replace h := ite_t hc16 h
     refine aw_skip ?_
     refine aq_then ?_
     refine aw_seq ?_
     refine aw_block ?_
     refine aw_rds ?_
     refine .v (f_move (by rfl)) rfl (.c rfl .nil) .nil ?_
     refine .v (f_binI (by rfl) rfl (by rfl)) rfl (.c rfl (.c rfl .nil)) .nil ?_
     obtain ⟨x17, hx18, h⟩ := bind_some h
     obtain ⟨hx19, hx18⟩ := rd_some hx18
     refine .v (f_indexO (by rfl) ar223 rfl hx19 (rd_map _ hx18)) rfl (.c rfl (.c rfl .nil)) (.cons rfl .nil) ?_
     refine .v (f_load (n := 0) (o := 3) (off := (0 + ((IntKind.i64.wrap (z2_0 - (15 : Int)))).toNat * 1)) (p := [((IntKind.i64.wrap (z2_0 - (15 : Int)))).toNat]) (c := .d (eA223 z2_1)) (z := .d (.val (.int .u32 x17))) (by rfl) (at_map _ hx18 (by simp)) ty208 (by rfl)) rfl (.c rfl .nil) (.cons rfl .nil) ?_
     refine .v (f_move (by rfl)) rfl (.c rfl .nil) .nil ?_
     refine .v (f_binI (by rfl) rfl (by rfl)) rfl (.c rfl (.c rfl .nil)) .nil ?_
     obtain ⟨x20, hx21, h⟩ := bind_some h
     obtain ⟨hx22, hx21⟩ := rd_some hx21
     refine .v (f_indexO (by rfl) ar223 rfl hx22 (rd_map _ hx21)) rfl (.c rfl (.c rfl .nil)) (.cons rfl .nil) ?_
     refine .v (f_load (n := 0) (o := 3) (off := (0 + ((IntKind.i64.wrap (z2_0 - (2 : Int)))).toNat * 1)) (p := [((IntKind.i64.wrap (z2_0 - (2 : Int)))).toNat]) (c := .d (eA223 z2_1)) (z := .d (.val (.int .u32 x20))) (by rfl) (at_map _ hx21 (by simp)) ty208 (by rfl)) rfl (.c rfl .nil) (.cons rfl .nil) ?_
     refine .v (f_assign (by rfl)) rfl (.c rfl .nil) .nil ?_
     refine .v (f_assign (by rfl)) rfl (.c rfl .nil) .nil ?_
     refine .nil (by kernel_rfl) ?_
     refine aw_rd ?_
     refine .v (f_move (by rfl)) rfl (.c rfl .nil) .nil ?_
     refine .v (f_move (by rfl)) rfl (.c rfl .nil) .nil ?_
     refine .v (f_binI (by rfl) rfl (by rfl)) rfl (.c rfl (.c rfl .nil)) .nil ?_
     obtain ⟨x23, hx24, h⟩ := bind_some h
     obtain ⟨hx25, hx24⟩ := rd_some hx24
     refine .v (f_indexO (by rfl) ar223 rfl hx25 (rd_map _ hx24)) rfl (.c rfl (.c rfl .nil)) (.cons rfl .nil) ?_
     refine .v (f_load (n := 0) (o := 3) (off := (0 + ((IntKind.i64.wrap (z2_0 - (16 : Int)))).toNat * 1)) (p := [((IntKind.i64.wrap (z2_0 - (16 : Int)))).toNat]) (c := .d (eA223 z2_1)) (z := .d (.val (.int .u32 x23))) (by rfl) (at_map _ hx24 (by simp)) ty208 (by rfl)) rfl (.c rfl .nil) (.cons rfl .nil) ?_
     refine .v (f_move (by rfl)) rfl (.c rfl .nil) .nil ?_
     obtain ⟨y26, hy27, h⟩ := bind_some h
     refine .v (f_callP hgl (by rfl) en182 rfl (by rfl) (by rfl) (by rfl) (F182_beadrollref02_turn_ok hy27)) rfl (.c rfl (.c rfl .nil)) .nil ?_
     refine .v (f_move (by rfl)) rfl (.c rfl .nil) .nil ?_
     obtain ⟨y28, hy29, h⟩ := bind_some h
     refine .v (f_callP hgl (by rfl) en182 rfl (by rfl) (by rfl) (by rfl) (F182_beadrollref02_turn_ok hy29)) rfl (.c rfl (.c rfl .nil)) .nil ?_
     refine .v (f_binI (r := .int .u32 (bXor .u32 y26 y28)) (by rfl) rfl (by rfl)) rfl (.c rfl (.c rfl .nil)) .nil ?_
     refine .v (f_move (by rfl)) rfl (.c rfl .nil) .nil ?_
     refine .v (f_shift (by rfl) (shr_ok (by decide)) (by rfl)) rfl (.c rfl (.c rfl .nil)) .nil ?_
     refine .v (f_binI (r := .int .u32 (bXor .u32 (bXor .u32 y26 y28) (shr .u32 x17 (3 : Int)))) (by rfl) rfl (by rfl)) rfl (.c rfl (.c rfl .nil)) .nil ?_
     refine .v (f_binI (by rfl) rfl (by rfl)) rfl (.c rfl (.c rfl .nil)) .nil ?_
     refine .v (f_move (by rfl)) rfl (.c rfl .nil) .nil ?_
     refine .v (f_binI (by rfl) rfl (by rfl)) rfl (.c rfl (.c rfl .nil)) .nil ?_
     obtain ⟨x30, hx31, h⟩ := bind_some h
     obtain ⟨hx32, hx31⟩ := rd_some hx31
     refine .v (f_indexO (by rfl) ar223 rfl hx32 (rd_map _ hx31)) rfl (.c rfl (.c rfl .nil)) (.cons rfl .nil) ?_
     refine .v (f_load (n := 0) (o := 3) (off := (0 + ((IntKind.i64.wrap (z2_0 - (7 : Int)))).toNat * 1)) (p := [((IntKind.i64.wrap (z2_0 - (7 : Int)))).toNat]) (c := .d (eA223 z2_1)) (z := .d (.val (.int .u32 x30))) (by rfl) (at_map _ hx31 (by simp)) ty208 (by rfl)) rfl (.c rfl .nil) (.cons rfl .nil) ?_
     refine .v (f_binI (by rfl) rfl (by rfl)) rfl (.c rfl (.c rfl .nil)) .nil ?_
     refine .v (f_move (by rfl)) rfl (.c rfl .nil) .nil ?_
     obtain ⟨y33, hy34, h⟩ := bind_some h
     refine .v (f_callP hgl (by rfl) en182 rfl (by rfl) (by rfl) (by rfl) (F182_beadrollref02_turn_ok hy34)) rfl (.c rfl (.c rfl .nil)) .nil ?_
     refine .v (f_move (by rfl)) rfl (.c rfl .nil) .nil ?_
     obtain ⟨y35, hy36, h⟩ := bind_some h
     refine .v (f_callP hgl (by rfl) en182 rfl (by rfl) (by rfl) (by rfl) (F182_beadrollref02_turn_ok hy36)) rfl (.c rfl (.c rfl .nil)) .nil ?_
     refine .v (f_binI (r := .int .u32 (bXor .u32 y33 y35)) (by rfl) rfl (by rfl)) rfl (.c rfl (.c rfl .nil)) .nil ?_
     refine .v (f_move (by rfl)) rfl (.c rfl .nil) .nil ?_
     refine .v (f_shift (by rfl) (shr_ok (by decide)) (by rfl)) rfl (.c rfl (.c rfl .nil)) .nil ?_
     refine .v (f_binI (r := .int .u32 (bXor .u32 (bXor .u32 y33 y35) (shr .u32 x20 (10 : Int)))) (by rfl) rfl (by rfl)) rfl (.c rfl (.c rfl .nil)) .nil ?_
     refine .v (f_binI (by rfl) rfl (by rfl)) rfl (.c rfl (.c rfl .nil)) .nil ?_
     obtain ⟨x37, hx38, h⟩ := bind_some h
     obtain ⟨hx39, hx38⟩ := rd_some hx38
     refine .v (f_indexO (by rfl) ar223 rfl hx39 (rd_map _ hx38)) rfl (.c rfl (.c rfl .nil)) (.cons rfl .nil) ?_
     refine .s (f_store (n := 0) (o := 3) (off := (0 + (z2_0).toNat * 1)) (p := [(z2_0).toNat]) (c := .d (eA223 z2_1)) (old := .d (.val (.int .u32 x37))) (z := .d (.val (.int .u32 (IntKind.u32.wrap ((IntKind.u32.wrap ((IntKind.u32.wrap (x23 + (bXor .u32 (bXor .u32 y26 y28) (shr .u32 x17 (3 : Int))))) + x30)) + (bXor .u32 (bXor .u32 y33 y35) (shr .u32 x20 (10 : Int)))))))) (c' := .d (eA223 (z2_1.set (z2_0).toNat (IntKind.u32.wrap ((IntKind.u32.wrap ((IntKind.u32.wrap (x23 + (bXor .u32 (bXor .u32 y26 y28) (shr .u32 x17 (3 : Int))))) + x30)) + (bXor .u32 (bXor .u32 y33 y35) (shr .u32 x20 (10 : Int)))))))) (at_map _ hx38 (by simp)) (put_map _ hx38) (by rfl) ty208 (by rfl)) rfl (.c rfl (.c rfl .nil)) (.cons rfl .nil) ?_
     refine .nil (by kernel_rfl) ?_
     refine aq_block ?_
     refine aq_then ?_
     refine aw_r ?_
     refine .mv rfl (by rfl) ?_
     refine .v (f_binI (by rfl) rfl (by rfl)) rfl (.c rfl (.c rfl .nil)) .nil ?_
     refine .as rfl (by rfl) ?_
     refine .nil ?_
     obtain rfl := Option.some.inj h
     refine aq_weak (s' := ⟨[(2, .ptr 2 0 []), (3, .ptr 3 0 []), (6, .d (.val (.int .i64 (IntKind.i64.wrap (z2_0 + (1 : Int))))))], [(2, .av (.d (eA223 (List.replicate 64 (0 : Int))))), (3, .av (.d (eA223 (z2_1.set (z2_0).toNat (IntKind.u32.wrap ((IntKind.u32.wrap ((IntKind.u32.wrap (x23 + (bXor .u32 (bXor .u32 y26 y28) (shr .u32 x17 (3 : Int))))) + x30)) + (bXor .u32 (bXor .u32 y33 y35) (shr .u32 x20 (10 : Int)))))))))], []⟩) id hb0 (.keep rfl (.keep rfl (.keep rfl .nil))) (.keep rfl (.keep rfl .nil)) rfl (by rfl) ?_
     exact jq
   replace h := ite_f hc16 h
   refine aw_exit ?_
   refine aq_then_exit ?_
   obtain rfl := Option.some.inj h
   refine aq_weak (s' := ⟨[(2, .ptr 2 0 []), (3, .ptr 3 0 [])], [(2, .av (.d (eA223 (List.replicate 64 (0 : Int))))), (3, .av (.d (eA223 z2_1)))], []⟩) id hb0 (.keep rfl (.keep rfl .nil)) (.keep rfl (.keep rfl .nil)) rfl (by rfl) ?_
   exact jq
 refine aq_block_exit ?_
 refine aq_then ?_
 refine aw_rs ?_
 refine .v (f_load (n := 0) (o := 3) (off := 0) (p := []) (c := .d (eA223 o40)) (z := .d (eA223 o40)) (by rfl) rfl ty223 (by rfl)) rfl (.c rfl .nil) (.cons rfl .nil) ?_
 refine .s (f_store (n := 0) (o := 2) (off := 0) (p := []) (c := .d (eA223 (List.replicate 64 (0 : Int)))) (old := .d (eA223 (List.replicate 64 (0 : Int)))) (z := .d (eA223 o40)) (c' := .d (eA223 o40)) rfl rfl (by rfl) ty223 (by rfl)) rfl (.c rfl (.c rfl .nil)) (.cons rfl .nil) ?_
 refine .nil (aq_then ?_)
 refine aw_ret ?_
 obtain rfl := Option.some.inj h
 exact aq_finp hb0 rfl (.cell rfl rfl ty223 (by rfl) .nil) (by rfl) rfl ⟨rfl, rfl⟩

/- 178: beadroll/beadrollref02.words -/
def F178_beadrollref02_words (n : Nat)  : Option ((List Int)) :=
  some ([(1116352408 : Int), (1899447441 : Int), (3049323471 : Int), (3921009573 : Int), (961987163 : Int), (1508970993 : Int), (2453635748 : Int), (2870763221 : Int), (3624381080 : Int), (310598401 : Int), (607225278 : Int), (1426881987 : Int), (1925078388 : Int), (2162078206 : Int), (2614888103 : Int), (3248222580 : Int), (3835390401 : Int), (4022224774 : Int), (264347078 : Int), (604807628 : Int), (770255983 : Int), (1249150122 : Int), (1555081692 : Int), (1996064986 : Int), (2554220882 : Int), (2821834349 : Int), (2952996808 : Int), (3210313671 : Int), (3336571891 : Int), (3584528711 : Int), (113926993 : Int), (338241895 : Int), (666307205 : Int), (773529912 : Int), (1294757372 : Int), (1396182291 : Int), (1695183700 : Int), (1986661051 : Int), (2177026350 : Int), (2456956037 : Int), (2730485921 : Int), (2820302411 : Int), (3259730800 : Int), (3345764771 : Int), (3516065817 : Int), (3600352804 : Int), (4094571909 : Int), (275423344 : Int), (430227734 : Int), (506948616 : Int), (659060556 : Int), (883997877 : Int), (958139571 : Int), (1322822218 : Int), (1537002063 : Int), (1747873779 : Int), (1955562222 : Int), (2024104815 : Int), (2227730452 : Int), (2361852424 : Int), (2428436474 : Int), (2756734187 : Int), (3204031479 : Int), (3329325298 : Int)] : List Int)
theorem F178_beadrollref02_words_ok {n : Nat}  {r : (List Int)} (h : F178_beadrollref02_words n  = some r) :
    ACall Tryd.prog GS 178 [] [] (fun r' hp' => r' = .d (eA223 r) ∧ hp' = []) := by
 refine acall_of_body mixed Tryd.func178 rfl (by rfl) ?_
 intro C hro hgl hb0
 unfold F178_beadrollref02_words at h
 refine aw_rs ?_
 refine .n (f_alloc 0 (by rfl) zr223) rfl .nil rfl ?_
 refine .nil (aq_then ?_)
 refine aw_rs ?_
 refine .v (f_buildF (vs := (([(1116352408 : Int), (1899447441 : Int), (3049323471 : Int), (3921009573 : Int), (961987163 : Int), (1508970993 : Int), (2453635748 : Int), (2870763221 : Int), (3624381080 : Int), (310598401 : Int), (607225278 : Int), (1426881987 : Int), (1925078388 : Int), (2162078206 : Int), (2614888103 : Int), (3248222580 : Int), (3835390401 : Int), (4022224774 : Int), (264347078 : Int), (604807628 : Int), (770255983 : Int), (1249150122 : Int), (1555081692 : Int), (1996064986 : Int), (2554220882 : Int), (2821834349 : Int), (2952996808 : Int), (3210313671 : Int), (3336571891 : Int), (3584528711 : Int), (113926993 : Int), (338241895 : Int), (666307205 : Int), (773529912 : Int), (1294757372 : Int), (1396182291 : Int), (1695183700 : Int), (1986661051 : Int), (2177026350 : Int), (2456956037 : Int), (2730485921 : Int), (2820302411 : Int), (3259730800 : Int), (3345764771 : Int), (3516065817 : Int), (3600352804 : Int), (4094571909 : Int), (275423344 : Int), (430227734 : Int), (506948616 : Int), (659060556 : Int), (883997877 : Int), (958139571 : Int), (1322822218 : Int), (1537002063 : Int), (1747873779 : Int), (1955562222 : Int), (2024104815 : Int), (2227730452 : Int), (2361852424 : Int), (2428436474 : Int), (2756734187 : Int), (3204031479 : Int), (3329325298 : Int)] : List Int)).map eI_u32) (by rfl) zr223 ag223 ar223 (by rfl) (by rfl) (by rfl) (by intro x hx; obtain ⟨y, _, rfl⟩ := List.mem_map.1 hx; rfl) (by intro x hx; obtain ⟨y, _, rfl⟩ := List.mem_map.1 hx; rfl)) rfl (.c rfl (.c rfl (.c rfl (.c rfl (.c rfl (.c rfl (.c rfl (.c rfl (.c rfl (.c rfl (.c rfl (.c rfl (.c rfl (.c rfl (.c rfl (.c rfl (.c rfl (.c rfl (.c rfl (.c rfl (.c rfl (.c rfl (.c rfl (.c rfl (.c rfl (.c rfl (.c rfl (.c rfl (.c rfl (.c rfl (.c rfl (.c rfl (.c rfl (.c rfl (.c rfl (.c rfl (.c rfl (.c rfl (.c rfl (.c rfl (.c rfl (.c rfl (.c rfl (.c rfl (.c rfl (.c rfl (.c rfl (.c rfl (.c rfl (.c rfl (.c rfl (.c rfl (.c rfl (.c rfl (.c rfl (.c rfl (.c rfl (.c rfl (.c rfl (.c rfl (.c rfl (.c rfl (.c rfl (.c rfl .nil)))))))))))))))))))))))))))))))))))))))))))))))))))))))))))))))) .nil ?_
 refine .s (f_store (n := 0) (o := 0) (off := 0) (p := []) (c := .d (eA223 (List.replicate 64 (0 : Int)))) (old := .d (eA223 (List.replicate 64 (0 : Int)))) (z := .d (eA223 ([(1116352408 : Int), (1899447441 : Int), (3049323471 : Int), (3921009573 : Int), (961987163 : Int), (1508970993 : Int), (2453635748 : Int), (2870763221 : Int), (3624381080 : Int), (310598401 : Int), (607225278 : Int), (1426881987 : Int), (1925078388 : Int), (2162078206 : Int), (2614888103 : Int), (3248222580 : Int), (3835390401 : Int), (4022224774 : Int), (264347078 : Int), (604807628 : Int), (770255983 : Int), (1249150122 : Int), (1555081692 : Int), (1996064986 : Int), (2554220882 : Int), (2821834349 : Int), (2952996808 : Int), (3210313671 : Int), (3336571891 : Int), (3584528711 : Int), (113926993 : Int), (338241895 : Int), (666307205 : Int), (773529912 : Int), (1294757372 : Int), (1396182291 : Int), (1695183700 : Int), (1986661051 : Int), (2177026350 : Int), (2456956037 : Int), (2730485921 : Int), (2820302411 : Int), (3259730800 : Int), (3345764771 : Int), (3516065817 : Int), (3600352804 : Int), (4094571909 : Int), (275423344 : Int), (430227734 : Int), (506948616 : Int), (659060556 : Int), (883997877 : Int), (958139571 : Int), (1322822218 : Int), (1537002063 : Int), (1747873779 : Int), (1955562222 : Int), (2024104815 : Int), (2227730452 : Int), (2361852424 : Int), (2428436474 : Int), (2756734187 : Int), (3204031479 : Int), (3329325298 : Int)] : List Int))) (c' := .d (eA223 ([(1116352408 : Int), (1899447441 : Int), (3049323471 : Int), (3921009573 : Int), (961987163 : Int), (1508970993 : Int), (2453635748 : Int), (2870763221 : Int), (3624381080 : Int), (310598401 : Int), (607225278 : Int), (1426881987 : Int), (1925078388 : Int), (2162078206 : Int), (2614888103 : Int), (3248222580 : Int), (3835390401 : Int), (4022224774 : Int), (264347078 : Int), (604807628 : Int), (770255983 : Int), (1249150122 : Int), (1555081692 : Int), (1996064986 : Int), (2554220882 : Int), (2821834349 : Int), (2952996808 : Int), (3210313671 : Int), (3336571891 : Int), (3584528711 : Int), (113926993 : Int), (338241895 : Int), (666307205 : Int), (773529912 : Int), (1294757372 : Int), (1396182291 : Int), (1695183700 : Int), (1986661051 : Int), (2177026350 : Int), (2456956037 : Int), (2730485921 : Int), (2820302411 : Int), (3259730800 : Int), (3345764771 : Int), (3516065817 : Int), (3600352804 : Int), (4094571909 : Int), (275423344 : Int), (430227734 : Int), (506948616 : Int), (659060556 : Int), (883997877 : Int), (958139571 : Int), (1322822218 : Int), (1537002063 : Int), (1747873779 : Int), (1955562222 : Int), (2024104815 : Int), (2227730452 : Int), (2361852424 : Int), (2428436474 : Int), (2756734187 : Int), (3204031479 : Int), (3329325298 : Int)] : List Int))) rfl rfl (by rfl) ty223 (by rfl)) rfl (.c rfl (.c rfl .nil)) (.cons rfl .nil) ?_
 refine .nil (aq_then ?_)
 refine aw_ret ?_
 obtain rfl := Option.some.inj h
 exact aq_finp hb0 rfl (.cell rfl rfl ty223 (by rfl) .nil) (by rfl) rfl ⟨rfl, rfl⟩

/- 177: beadroll/beadrollref02.padded -/
def F177_beadrollref02_padded_s0 (z0_0 : List Int) : Option ((List Int) ⊕ (List Int)) :=
  (if ((Int.tmod ((z0_0).length : Int) (64 : Int)) != (56 : Int)) = true then (if ((z0_0 ++ ([(0 : Int)] : List Int))).length ≤ 1073741824 then some (.inl (z0_0 ++ ([(0 : Int)] : List Int))) else none) else some (.inr z0_0))
def F177_beadrollref02_padded_s1 (z1_0 : Int) (z1_1 : Int) (z1_2 : (List Int)) : Option ((Int × Int × (List Int)) ⊕ ((List Int))) :=
  (if (decide (z1_1 ≥ (0 : Int))) = true then ((rd z1_2 z1_1).bind fun (x8 : Int) => some (.inl ((IntKind.u64.wrap (Int.tdiv z1_0 (256 : Int))), (IntKind.i64.wrap (z1_1 - (1 : Int))), (z1_2.set (z1_1).toNat (IntKind.u8.wrap (Int.tmod z1_0 (256 : Int))))))) else some (.inr z1_2))
def F177_beadrollref02_padded (n : Nat) (a0 : (List Int)) : Option ((List Int)) :=
  (if ((a0)).length ≤ 1073741824 then (if (((a0) ++ ([(128 : Int)] : List Int))).length ≤ 1073741824 then ((loopF (fun (z : List Int) => F177_beadrollref02_padded_s0  z) n ((a0) ++ ([(128 : Int)] : List Int))).bind fun (o5 : List Int) => ((loopF (fun (z : Int × Int × (List Int)) => F177_beadrollref02_padded_s1  z.1 z.2.1 z.2.2) n ((IntKind.u64.wrap ((8 : Int) * (IntKind.u64.wrap ((a0).length : Int)))), (7 : Int), (List.replicate 8 (0 : Int)))).bind fun (o11 : (List Int)) => (if ((o5 ++ o11)).length ≤ 1073741824 then some (o5 ++ o11) else none))) else none) else none)
theorem F177_beadrollref02_padded_ok {n : Nat} {a0 : (List Int)} {r : (List Int)} (h : F177_beadrollref02_padded n a0 = some r) :
    ACall Tryd.prog GS 177 [.d (eL139 a0)] [] (fun r' hp' => r' = .d (eL139 r) ∧ hp' = []) := by
 refine acall_of_body mixed Tryd.func177 rfl (by rfl) ?_
 intro C hro hgl hb0
 unfold F177_beadrollref02_padded at h
 refine aw_rs ?_
 refine .as rfl (by rfl) ?_
 refine .nil (aq_then ?_)
 refine aw_rs ?_
 refine .as rfl (by rfl) ?_
 refine .nil (aq_then ?_)
 refine aw_rs ?_
 refine .mv rfl (by rfl) ?_
 refine .mv rfl (by rfl) ?_
 obtain ⟨hb1, h⟩ := ifp h
 refine .w (f_appendN (m := ((a0)).length) (ys := (a0 : List Int).map eI_u8) 1001 (by rfl) el139 (by simp) (by omega) (Nat.le_trans hb1 (by decide)) srcD) rfl (.c rfl (.c rfl .nil)) .nil (.cons rfl .nil) ?_
 refine .as rfl (by rfl) ?_
 refine .nil (aq_then ?_)
 refine aw_rs ?_
 refine .mv rfl (by rfl) ?_
 refine .n (f_buildS (xs := [(0, .d (.val (.int .u8 (128 : Int))))]) (z := (.val (.int .u8 (0 : Int)))) (zs := (([(128 : Int)] : List Int)).map eI_u8) 1002 (by rfl) el139 zel139 (by rfl) (by decide) (by decide) rfl (by rfl) ⟨_, _, _, rfl, pl139_0, rfl, rfl, trivial⟩ (by rfl)) rfl (.c rfl .nil) rfl ?_
 obtain ⟨hb2, h⟩ := ifp h
 refine .w (f_appendC (m := (((a0) ++ ([(128 : Int)] : List Int))).length) (ys := (([(128 : Int)] : List Int) : List Int).map eI_u8) (xs := ((a0)).map eI_u8) (zs := (((a0) ++ ([(128 : Int)] : List Int))).map eI_u8) 1003 (by rfl) el139 (by simp) (by simp) (by simp [List.map_drop]) (by simp) (Nat.le_trans (Nat.mul_le_mul_right _ hb2) (by decide)) (Nat.le_trans hb2 (by decide)) srcW) rfl (.c rfl (.c rfl .nil)) (.cons rfl (.cons rfl .nil)) (.cons rfl .nil) ?_
 refine .as rfl (by rfl) ?_
 refine .nil (aq_then ?_)
 refine aw_seq ?_
 refine aw_block ?_
 refine aw_weak (s' := ⟨[(0, .d (eL139 a0)), (3, .slc 1003 0 ((((a0) ++ ([(128 : Int)] : List Int))).length) 1)], [(1003, .av (.d (.arr 1 ((((a0) ++ ([(128 : Int)] : List Int))).length) ((((a0) ++ ([(128 : Int)] : List Int))).map eI_u8))))], []⟩) id hb0 (.keep rfl (.keep rfl .nil)) (.keep rfl .nil) rfl (by rfl) ?_
 obtain ⟨o5, ho6, h⟩ := bind_some h
 refine aw_loopX (σ := List Int) (fun z => ⟨[(0, .d (eL139 a0)), (3, .slc 1003 0 ((z).length) 1)], [(1003, .av (.d (.arr 1 ((z).length) ((z).map eI_u8))))], []⟩) (fun _ => (.exit 0)) (fun (o5 : List Int) => ⟨[(0, .d (eL139 a0)), (3, .slc 1003 0 ((o5).length) 1)], [(1003, .av (.d (.arr 1 ((o5).length) ((o5).map eI_u8))))], []⟩) ho6 (fun _ => rfl) ?_ ?_
 · clear h ho6
   intro z0_0 o h
   change F177_beadrollref02_padded_s0  z0_0 = some o at h
   unfold F177_beadrollref02_padded_s0 at h
   show AW _ _ _ ⟨[(0, .d (eL139 a0)), (3, .slc 1003 0 ((z0_0).length) 1)], [(1003, .av (.d (.arr 1 ((z0_0).length) ((z0_0).map eI_u8))))], []⟩
   refine aw_seq ?_
   refine aw_rs ?_
   refine .mv rfl (by rfl) ?_
   refine .v (f_lenO (by rfl) sl139 rfl) rfl (.c rfl .nil) .nil ?_
   refine .v (f_binI (by rfl) (rem_ok (by decide)) (by rfl)) rfl (.c rfl (.c rfl .nil)) .nil ?_
   refine .v (f_binI (by rfl) rfl (by rfl)) rfl (.c rfl (.c rfl .nil)) .nil ?_
   refine .nil (aq_then ?_)
   refine aw_cond rfl (fun hc3 => ?_) (fun hc3 => ?_)
   · replace h := ite_t hc3 h
     refine aw_skip ?_
     refine aq_then ?_
     refine aw_block ?_
     refine aw_r ?_
     refine .mv rfl (by rfl) ?_
     refine .n (f_buildS (xs := [(0, .d (.val (.int .u8 (0 : Int))))]) (z := (.val (.int .u8 (0 : Int)))) (zs := (([(0 : Int)] : List Int)).map eI_u8) 1006 (by rfl) el139 zel139 (by rfl) (by decide) (by decide) rfl (by rfl) ⟨_, _, _, rfl, pl139_0, rfl, rfl, trivial⟩ (by rfl)) rfl (.c rfl .nil) rfl ?_
     obtain ⟨hb4, h⟩ := ifp h
     refine .w (f_appendC (m := ((z0_0 ++ ([(0 : Int)] : List Int))).length) (ys := (([(0 : Int)] : List Int) : List Int).map eI_u8) (xs := (z0_0).map eI_u8) (zs := ((z0_0 ++ ([(0 : Int)] : List Int))).map eI_u8) 1007 (by rfl) el139 (by simp) (by simp) (by simp [List.map_drop]) (by simp) (Nat.le_trans (Nat.mul_le_mul_right _ hb4) (by decide)) (Nat.le_trans hb4 (by decide)) srcW) rfl (.c rfl (.c rfl .nil)) (.cons rfl (.cons rfl .nil)) (.cons rfl .nil) ?_
     refine .as rfl (by rfl) ?_
     refine .nil ?_
     refine aq_block ?_
     obtain rfl := Option.some.inj h
     refine aq_weak (s' := ⟨[(0, .d (eL139 a0)), (3, .slc 1003 0 (((z0_0 ++ ([(0 : Int)] : List Int))).length) 1)], [(1003, .av (.d (.arr 1 (((z0_0 ++ ([(0 : Int)] : List Int))).length) (((z0_0 ++ ([(0 : Int)] : List Int))).map eI_u8))))], []⟩) (fun i => (bif Nat.beq i 1003 then 1007 else i)) hb0 (.cons rfl (.cons rfl .nil)) (.cons rfl .nil) rfl (by rfl) ?_
     exact jq
   replace h := ite_f hc3 h
   refine aw_exit ?_
   refine aq_then_exit ?_
   obtain rfl := Option.some.inj h
   refine aq_weak (s' := ⟨[(0, .d (eL139 a0)), (3, .slc 1003 0 ((z0_0).length) 1)], [(1003, .av (.d (.arr 1 ((z0_0).length) ((z0_0).map eI_u8))))], []⟩) id hb0 (.keep rfl (.keep rfl .nil)) (.keep rfl .nil) rfl (by rfl) ?_
   exact jq
 refine aq_block_exit ?_
 refine aq_then ?_
 refine aw_rs ?_
 refine .mv rfl (by rfl) ?_
 refine .v (f_lenD (n := (a0).length) (by rfl) sl139 rfl (by simp)) rfl (.c rfl .nil) .nil ?_
 refine .v (f_convI (by rfl) un3 un27) rfl (.c rfl .nil) .nil ?_
 refine .v (f_binI (by rfl) rfl (by rfl)) rfl (.c rfl (.c rfl .nil)) .nil ?_
 refine .as rfl (by rfl) ?_
 refine .nil (aq_then ?_)
 refine aw_rs ?_
 refine .n (f_alloc 5 (by rfl) zr233) rfl .nil rfl ?_
 refine .nil (aq_then ?_)
 refine aw_seq ?_
 refine aw_rs ?_
 refine .as rfl (by rfl) ?_
 refine .nil (aq_then ?_)
 refine aw_block ?_
 refine aw_weak (s' := ⟨[(3, .slc 1003 0 ((o5).length) 1), (4, .d (.val (.int .u64 (IntKind.u64.wrap ((8 : Int) * (IntKind.u64.wrap ((a0).length : Int))))))), (5, .ptr 5 0 []), (6, .d (.val (.int .i64 (7 : Int))))], [(1003, .av (.d (.arr 1 ((o5).length) ((o5).map eI_u8)))), (5, .av (.d (eA233 (List.replicate 8 (0 : Int)))))], []⟩) id hb0 (.keep rfl (.keep rfl (.keep rfl (.keep rfl .nil)))) (.keep rfl (.keep rfl .nil)) rfl (by rfl) ?_
 obtain ⟨o11, ho12, h⟩ := bind_some h
 refine aw_loopX (σ := Int × Int × (List Int)) (fun z => ⟨[(3, .slc 1003 0 ((o5).length) 1), (4, .d (.val (.int .u64 z.1))), (5, .ptr 5 0 []), (6, .d (.val (.int .i64 z.2.1)))], [(1003, .av (.d (.arr 1 ((o5).length) ((o5).map eI_u8)))), (5, .av (.d (eA233 z.2.2)))], []⟩) (fun _ => (.exit 2)) (fun (o11 : (List Int)) => ⟨[(3, .slc 1003 0 ((o5).length) 1), (5, .ptr 5 0 [])], [(1003, .av (.d (.arr 1 ((o5).length) ((o5).map eI_u8)))), (5, .av (.d (eA233 o11)))], []⟩) ho12 (fun _ => rfl) ?_ ?_
 · clear h ho12
   rintro ⟨z1_0, z1_1, z1_2⟩ o h
   change F177_beadrollref02_padded_s1  z1_0 z1_1 z1_2 = some o at h
   unfold F177_beadrollref02_padded_s1 at h
   show AW _ _ _ ⟨[(3, .slc 1003 0 ((o5).length) 1), (4, .d (.val (.int .u64 z1_0))), (5, .ptr 5 0 []), (6, .d (.val (.int .i64 z1_1)))], [(1003, .av (.d (.arr 1 ((o5).length) ((o5).map eI_u8)))), (5, .av (.d (eA233 z1_2)))], []⟩
   refine aw_seq ?_
   refine aw_rs ?_
   refine .mv rfl (by rfl) ?_
   refine .v (f_binI (by rfl) rfl (by rfl)) rfl (.c rfl (.c rfl .nil)) .nil ?_
   refine .nil (aq_then ?_)
   refine aw_cond rfl (fun hc7 => ?_) (fun hc7 => ?_)
   · replace h := ite_t hc7 h
     refine aw_skip ?_
     refine aq_then ?_
     refine aw_seq ?_
     refine aw_block ?_
     refine aw_rs ?_
     refine .mv rfl (by rfl) ?_
     refine .mv rfl (by rfl) ?_
     refine .v (f_binI (by rfl) (rem_ok (by decide)) (by rfl)) rfl (.c rfl (.c rfl .nil)) .nil ?_
     refine .v (f_convI (by rfl) un27 un5) rfl (.c rfl .nil) .nil ?_
     obtain ⟨x8, hx9, h⟩ := bind_some h
     obtain ⟨hx10, hx9⟩ := rd_some hx9
     refine .v (f_indexO (by rfl) ar233 rfl hx10 (rd_map _ hx9)) rfl (.c rfl (.c rfl .nil)) (.cons rfl .nil) ?_
     refine .s (f_store (n := 0) (o := 5) (off := (0 + (z1_1).toNat * 1)) (p := [(z1_1).toNat]) (c := .d (eA233 z1_2)) (old := .d (.val (.int .u8 x8))) (z := .d (.val (.int .u8 (IntKind.u8.wrap (Int.tmod z1_0 (256 : Int)))))) (c' := .d (eA233 (z1_2.set (z1_1).toNat (IntKind.u8.wrap (Int.tmod z1_0 (256 : Int)))))) (at_map _ hx9 (by simp)) (put_map _ hx9) (by rfl) ty5 (by rfl)) rfl (.c rfl (.c rfl .nil)) (.cons rfl .nil) ?_
     refine .nil (aq_then ?_)
     refine aw_r ?_
     refine .mv rfl (by rfl) ?_
     refine .v (f_binI (by rfl) (quo_ok (by decide)) (by rfl)) rfl (.c rfl (.c rfl .nil)) .nil ?_
     refine .as rfl (by rfl) ?_
     refine .nil ?_
     refine aq_block ?_
     refine aq_then ?_
     refine aw_r ?_
     refine .mv rfl (by rfl) ?_
     refine .v (f_binI (by rfl) rfl (by rfl)) rfl (.c rfl (.c rfl .nil)) .nil ?_
     refine .as rfl (by rfl) ?_
     refine .nil ?_
     obtain rfl := Option.some.inj h
     refine aq_weak (s' := ⟨[(3, .slc 1003 0 ((o5).length) 1), (4, .d (.val (.int .u64 (IntKind.u64.wrap (Int.tdiv z1_0 (256 : Int)))))), (5, .ptr 5 0 []), (6, .d (.val (.int .i64 (IntKind.i64.wrap (z1_1 - (1 : Int))))))], [(1003, .av (.d (.arr 1 ((o5).length) ((o5).map eI_u8)))), (5, .av (.d (eA233 (z1_2.set (z1_1).toNat (IntKind.u8.wrap (Int.tmod z1_0 (256 : Int)))))))], []⟩) id hb0 (.keep rfl (.keep rfl (.keep rfl (.keep rfl .nil)))) (.keep rfl (.keep rfl .nil)) rfl (by rfl) ?_
     exact jq
   replace h := ite_f hc7 h
   refine aw_exit ?_
   refine aq_then_exit ?_
   obtain rfl := Option.some.inj h
   refine aq_weak (s' := ⟨[(3, .slc 1003 0 ((o5).length) 1), (5, .ptr 5 0 [])], [(1003, .av (.d (.arr 1 ((o5).length) ((o5).map eI_u8)))), (5, .av (.d (eA233 z1_2)))], []⟩) id hb0 (.keep rfl (.keep rfl .nil)) (.keep rfl (.keep rfl .nil)) rfl (by rfl) ?_
   exact jq
 refine aq_block_exit ?_
 refine aq_then ?_
 refine aw_rs ?_
 refine .mv rfl (by rfl) ?_
 refine .v (f_sliceA (by rfl) ar233) rfl (.c rfl .nil) (.cons rfl .nil) ?_
 obtain ⟨hb13, h⟩ := ifp h
 refine .w (f_appendC (m := ((o5 ++ o11)).length) (ys := (o11 : List Int).map eI_u8) (xs := (o5).map eI_u8) (zs := ((o5 ++ o11)).map eI_u8) 1008 (by rfl) el139 (by simp) (by simp) (by simp [List.map_drop]) (by simp) (Nat.le_trans (Nat.mul_le_mul_right _ hb13) (by decide)) (Nat.le_trans hb13 (by decide)) srcW) rfl (.c rfl (.c rfl .nil)) (.cons rfl (.cons rfl .nil)) (.cons rfl .nil) ?_
 refine .as rfl (by rfl) ?_
 refine .nil (aq_then ?_)
 refine aw_ret ?_
 obtain rfl := Option.some.inj h
 refine aq_freeze [(1008, (.arr 1 (((o5 ++ o11)).length) (((o5 ++ o11)).map eI_u8)))] [(2, .d (eL139 (o5 ++ o11)))] (.cons rfl .nil) (.cons rfl (.whole (.head _)) .nil) ?_
 exact aq_finp hb0 rfl (.tmp rfl (by rfl) .nil) (by rfl) rfl ⟨rfl, rfl⟩

/- 176: math/bits.RotateLeft32 -/
def F176_bits_RotateLeft32 (n : Nat) (a0 : Int) (a1 : Int) : Option (Int) :=
  (if 0 ≤ (bAnd .u64 (IntKind.u64.wrap a1) (31 : Int)) then (if 0 ≤ (IntKind.u64.wrap ((32 : Int) - (bAnd .u64 (IntKind.u64.wrap a1) (31 : Int)))) then some (bOr .u32 (shl .u32 a0 (bAnd .u64 (IntKind.u64.wrap a1) (31 : Int))) (shr .u32 a0 (IntKind.u64.wrap ((32 : Int) - (bAnd .u64 (IntKind.u64.wrap a1) (31 : Int)))))) else none) else none)
theorem F176_bits_RotateLeft32_ok {n : Nat} {a0 : Int} {a1 : Int} {r : Int} (h : F176_bits_RotateLeft32 n a0 a1 = some r) :
    ACall Tryd.prog GS 176 [.d (.val (.int .u32 a0)), .d (.val (.int .i64 a1))] [] (fun r' hp' => r' = .d (.val (.int .u32 r)) ∧ hp' = []) := by
 refine acall_of_body mixed Tryd.func176 rfl (by rfl) ?_
 intro C hro hgl hb0
 unfold F176_bits_RotateLeft32 at h
 refine aw_rs ?_
 refine .as rfl (by rfl) ?_
 refine .nil (aq_then ?_)
 refine aw_rs ?_
 refine .mv rfl (by rfl) ?_
 refine .v (f_convI (by rfl) un3 un202) rfl (.c rfl .nil) .nil ?_
 refine .v (f_binI (r := .int .u64 (bAnd .u64 (IntKind.u64.wrap a1) (31 : Int))) (by rfl) rfl (by rfl)) rfl (.c rfl (.c rfl .nil)) .nil ?_
 refine .as rfl (by rfl) ?_
 refine .nil (aq_then ?_)
 refine aw_rs ?_
 refine .mv rfl (by rfl) ?_
 refine .mv rfl (by rfl) ?_
 obtain ⟨hz1, h⟩ := ifp h
 refine .v (f_shift (by rfl) (shl_ok hz1) (by rfl)) rfl (.c rfl (.c rfl .nil)) .nil ?_
 refine .mv rfl (by rfl) ?_
 refine .mv rfl (by rfl) ?_
 refine .v (f_binI (by rfl) rfl (by rfl)) rfl (.c rfl (.c rfl .nil)) .nil ?_
 obtain ⟨hz2, h⟩ := ifp h
 refine .v (f_shift (by rfl) (shr_ok hz2) (by rfl)) rfl (.c rfl (.c rfl .nil)) .nil ?_
 refine .v (f_binI (r := .int .u32 (bOr .u32 (shl .u32 a0 (bAnd .u64 (IntKind.u64.wrap a1) (31 : Int))) (shr .u32 a0 (IntKind.u64.wrap ((32 : Int) - (bAnd .u64 (IntKind.u64.wrap a1) (31 : Int))))))) (by rfl) rfl (by rfl)) rfl (.c rfl (.c rfl .nil)) .nil ?_
 refine .as rfl (by rfl) ?_
 refine .nil (aq_then ?_)
 refine aw_ret ?_
 obtain rfl := Option.some.inj h
 exact aq_finp hb0 rfl (.tmp rfl (by rfl) .nil) (by rfl) rfl ⟨rfl, rfl⟩

/- 162: beadroll/beadrollref01.Digits -/
def F162_beadrollref01_Digits_s0 (z0_0 : Int) (z0_1 : Int) (z0_2 : List Int) : Option ((Int × Int × List Int) ⊕ (Int × List Int)) :=
  (if (decide (z0_1 ≥ (0 : Int))) = true then ((rd z0_2 z0_1).bind fun (x3 : Int) => some (.inl ((IntKind.u64.wrap (Int.tdiv z0_0 (256 : Int))), (IntKind.i64.wrap (z0_1 - (1 : Int))), (z0_2.set (0 + (z0_1).toNat) (IntKind.u8.wrap (Int.tmod z0_0 (256 : Int))))))) else some (.inr (z0_0, z0_2)))
def F162_beadrollref01_Digits (n : Nat) (a0 : Int) (a1 : Int) : Option ((List Int) × Bool) :=
  (if 0 ≤ a1 ∧ a1 ≤ 1073741824 then ((loopF (fun (z : Int × Int × List Int) => F162_beadrollref01_Digits_s0  z.1 z.2.1 z.2.2) n (a0, (IntKind.i64.wrap (a1 - (1 : Int))), (List.replicate (a1).toNat (0 : Int)))).bind fun (o6 : Int × List Int) => some (o6.2, (o6.1 == (0 : Int)))) else none)
theorem F162_beadrollref01_Digits_ok {n : Nat} {a0 : Int} {a1 : Int} {r : (List Int) × Bool} (h : F162_beadrollref01_Digits n a0 a1 = some r) :
    ACall Tryd.prog GS 162 [.d (.val (.int .u64 a0)), .d (.val (.int .i64 a1))] [] (fun r' hp' => r' = .res [.d (eL139 r.1), .d (.val (.bool r.2))] ∧ hp' = []) := by
 refine acall_of_body mixed Tryd.func162 rfl (by rfl) ?_
 intro C hro hgl hb0
 unfold F162_beadrollref01_Digits at h
 refine aw_rs ?_
 refine .as rfl (by rfl) ?_
 refine .as rfl (by rfl) ?_
 refine .nil (aq_then ?_)
 refine aw_rs ?_
 refine .mv rfl (by rfl) ?_
 obtain ⟨hb1, h⟩ := ifp h
 refine .n (f_makeSE (n := a1) (m := ((List.replicate (a1).toNat (0 : Int))).length) (z := (.val (.int .u8 (0 : Int)))) (zs := ((List.replicate (a1).toNat (0 : Int))).map eI_u8) 1010 (by rfl) el139 zel139 (by rfl) hb1.1 (by omega) (by omega) (by simp) (by simp)) rfl (.c rfl .nil) rfl ?_
 refine .as rfl (by rfl) ?_
 refine .nil (aq_then ?_)
 refine aw_seq ?_
 refine aw_rs ?_
 refine .mv rfl (by rfl) ?_
 refine .v (f_binI (by rfl) rfl (by rfl)) rfl (.c rfl (.c rfl .nil)) .nil ?_
 refine .as rfl (by rfl) ?_
 refine .nil (aq_then ?_)
 refine aw_block ?_
 refine aw_weak (s' := ⟨[(0, .d (.val (.int .u64 a0))), (6, .slc 1010 0 (((List.replicate (a1).toNat (0 : Int))).length) 1), (7, .d (.val (.int .i64 (IntKind.i64.wrap (a1 - (1 : Int))))))], [(1010, .av (.d (.arr 1 (((List.replicate (a1).toNat (0 : Int))).length) (((List.replicate (a1).toNat (0 : Int))).map eI_u8))))], []⟩) id hb0 (.keep rfl (.keep rfl (.keep rfl .nil))) (.keep rfl .nil) rfl (by rfl) ?_
 obtain ⟨o6, ho7, h⟩ := bind_some h
 refine aw_loopX (σ := Int × Int × List Int) (fun z => ⟨[(0, .d (.val (.int .u64 z.1))), (6, .slc 1010 0 ((z.2.2).length) 1), (7, .d (.val (.int .i64 z.2.1)))], [(1010, .av (.d (.arr 1 ((z.2.2).length) ((z.2.2).map eI_u8))))], []⟩) (fun _ => (.exit 0)) (fun (o6 : Int × List Int) => ⟨[(0, .d (.val (.int .u64 o6.1))), (6, .slc 1010 0 ((o6.2).length) 1)], [(1010, .av (.d (.arr 1 ((o6.2).length) ((o6.2).map eI_u8))))], []⟩) ho7 (fun _ => rfl) ?_ ?_
 · clear h ho7
   rintro ⟨z0_0, z0_1, z0_2⟩ o h
   change F162_beadrollref01_Digits_s0  z0_0 z0_1 z0_2 = some o at h
   unfold F162_beadrollref01_Digits_s0 at h
   show AW _ _ _ ⟨[(0, .d (.val (.int .u64 z0_0))), (6, .slc 1010 0 ((z0_2).length) 1), (7, .d (.val (.int .i64 z0_1)))], [(1010, .av (.d (.arr 1 ((z0_2).length) ((z0_2).map eI_u8))))], []⟩
   refine aw_seq ?_
   refine aw_rs ?_
   refine .mv rfl (by rfl) ?_
   refine .v (f_binI (by rfl) rfl (by rfl)) rfl (.c rfl (.c rfl .nil)) .nil ?_
   refine .nil (aq_then ?_)
   refine aw_cond rfl (fun hc2 => ?_) (fun hc2 => ?_)
   · replace h := ite_t hc2 h
     refine aw_skip ?_
     refine aq_then ?_
     refine aw_seq ?_
     refine aw_block ?_
     refine aw_rs ?_
     refine .mv rfl (by rfl) ?_
     refine .mv rfl (by rfl) ?_
     refine .mv rfl (by rfl) ?_
     refine .v (f_binI (by rfl) (rem_ok (by decide)) (by rfl)) rfl (.c rfl (.c rfl .nil)) .nil ?_
     refine .v (f_convI (by rfl) un27 un5) rfl (.c rfl .nil) .nil ?_
     obtain ⟨x3, hx4, h⟩ := bind_some h
     obtain ⟨hx5, hx4⟩ := rd_some hx4
     refine .v (f_indexSW (by rfl) sl139 hx5 (rd_map _ hx4)) rfl (.c rfl (.c rfl .nil)) (.cons rfl .nil) ?_
     refine .s (f_store (n := 0) (o := 1010) (off := ((0 + (z0_1).toNat) * 1)) (p := [0 + (z0_1).toNat]) (c := .d (.arr 1 ((z0_2).length) ((z0_2).map eI_u8))) (old := .d (.val (.int .u8 x3))) (z := .d (.val (.int .u8 (IntKind.u8.wrap (Int.tmod z0_0 (256 : Int)))))) (c' := .d (.arr 1 ((z0_2).length) (((z0_2.set (0 + (z0_1).toNat) (IntKind.u8.wrap (Int.tmod z0_0 (256 : Int))))).map eI_u8))) (at_map _ (by simpa using hx4) rfl) (put_map _ (by simpa using hx4)) (by rfl) ty5 (by rfl)) rfl (.c rfl (.c rfl .nil)) (.cons rfl .nil) ?_
     refine .nil (aq_then ?_)
     refine aw_r ?_
     refine .mv rfl (by rfl) ?_
     refine .v (f_binI (by rfl) (quo_ok (by decide)) (by rfl)) rfl (.c rfl (.c rfl .nil)) .nil ?_
     refine .as rfl (by rfl) ?_
     refine .nil ?_
     refine aq_block ?_
     refine aq_then ?_
     refine aw_r ?_
     refine .mv rfl (by rfl) ?_
     refine .v (f_binI (by rfl) rfl (by rfl)) rfl (.c rfl (.c rfl .nil)) .nil ?_
     refine .as rfl (by rfl) ?_
     refine .nil ?_
     obtain rfl := Option.some.inj h
     refine aq_weak (s' := ⟨[(0, .d (.val (.int .u64 (IntKind.u64.wrap (Int.tdiv z0_0 (256 : Int)))))), (6, .slc 1010 0 (((z0_2.set (0 + (z0_1).toNat) (IntKind.u8.wrap (Int.tmod z0_0 (256 : Int))))).length) 1), (7, .d (.val (.int .i64 (IntKind.i64.wrap (z0_1 - (1 : Int))))))], [(1010, .av (.d (.arr 1 (((z0_2.set (0 + (z0_1).toNat) (IntKind.u8.wrap (Int.tmod z0_0 (256 : Int))))).length) (((z0_2.set (0 + (z0_1).toNat) (IntKind.u8.wrap (Int.tmod z0_0 (256 : Int))))).map eI_u8))))], []⟩) id hb0 (.keep rfl (.keep (by simp only [List.length_set]; rfl) (.keep rfl .nil))) (.keep (by simp only [List.length_set]; rfl) .nil) rfl (by rfl) ?_
     exact jq
   replace h := ite_f hc2 h
   refine aw_exit ?_
   refine aq_then_exit ?_
   obtain rfl := Option.some.inj h
   refine aq_weak (s' := ⟨[(0, .d (.val (.int .u64 z0_0))), (6, .slc 1010 0 ((z0_2).length) 1)], [(1010, .av (.d (.arr 1 ((z0_2).length) ((z0_2).map eI_u8))))], []⟩) id hb0 (.keep rfl (.keep rfl .nil)) (.keep rfl .nil) rfl (by rfl) ?_
   exact jq
 refine aq_block_exit ?_
 refine aq_then ?_
 refine aw_rs ?_
 refine .mv rfl (by rfl) ?_
 refine .mv rfl (by rfl) ?_
 refine .v (f_binI (by rfl) rfl (by rfl)) rfl (.c rfl (.c rfl .nil)) .nil ?_
 refine .as rfl (by rfl) ?_
 refine .as rfl (by rfl) ?_
 refine .nil (aq_then ?_)
 refine aw_ret ?_
 obtain rfl := Option.some.inj h
 refine aq_freeze [(1010, (.arr 1 ((o6.2).length) ((o6.2).map eI_u8)))] [(4, .d (eL139 o6.2)), (5, .d (.val (.bool (o6.1 == (0 : Int)))))] (.cons rfl .nil) (.cons rfl (.whole (.head _)) (.keep rfl .nil)) ?_
 exact aq_finp hb0 rfl (.tmp rfl (by rfl) (.tmp rfl (by rfl) .nil)) (by rfl) rfl ⟨rfl, rfl⟩

/- 172: beadroll/beadrollref03.Bytes -/
def F172_beadrollref03_Bytes_s0 (n : Nat) (a1 : (List (List Int))) (z0_0 : Int) (z0_1 : List Int) : Option ((Int × List Int) ⊕ (List Int)) :=
  (if (decide (z0_0 < ((a1).length : Int))) = true then ((rd a1 z0_0).bind fun (x2 : (List Int)) => ((F162_beadrollref01_Digits n (Int.tmod (IntKind.u64.wrap ((x2).length : Int)) (4294967296 : Int)) (4 : Int)).bind fun (y5 : (List Int) × Bool) => (if ((z0_1 ++ y5.1)).length ≤ 1073741824 then ((rd a1 z0_0).bind fun (x8 : (List Int)) => (if (((z0_1 ++ y5.1) ++ x8)).length ≤ 1073741824 then some (.inl ((IntKind.i64.wrap (z0_0 + (1 : Int))), ((z0_1 ++ y5.1) ++ x8))) else none)) else none))) else some (.inr z0_1))
def F172_beadrollref03_Bytes (n : Nat) (a0 : Int) (a1 : (List (List Int))) : Option ((List Int)) :=
  ((loopF (fun (z : Int × List Int) => F172_beadrollref03_Bytes_s0 n a1 z.1 z.2) n ((0 : Int), ([a0] : List Int))).bind fun (o12 : List Int) => some o12)
theorem F172_beadrollref03_Bytes_ok {n : Nat} {a0 : Int} {a1 : (List (List Int))} {r : (List Int)} (h : F172_beadrollref03_Bytes n a0 a1 = some r) :
    ACall Tryd.prog GS 172 [.d (.val (.int .u8 a0)), .d (eL180 a1)] [] (fun r' hp' => r' = .d (eL139 r) ∧ hp' = []) := by
 refine acall_of_body mixed Tryd.func172 rfl (by rfl) ?_
 intro C hro hgl hb0
 unfold F172_beadrollref03_Bytes at h
 refine aw_rs ?_
 refine .as rfl (by rfl) ?_
 refine .nil (aq_then ?_)
 refine aw_rs ?_
 refine .mv rfl (by rfl) ?_
 refine .n (f_buildS (xs := [(0, .d (.val (.int .u8 a0)))]) (z := (.val (.int .u8 (0 : Int)))) (zs := (([a0] : List Int)).map eI_u8) 1009 (by rfl) el139 zel139 (by rfl) (by decide) (by decide) rfl (by rfl) ⟨_, _, _, rfl, pl139_0, rfl, rfl, trivial⟩ (by rfl)) rfl (.c rfl .nil) rfl ?_
 refine .as rfl (by rfl) ?_
 refine .nil (aq_then ?_)
 refine aw_seq ?_
 refine aw_rs ?_
 refine .as rfl (by rfl) ?_
 refine .nil (aq_then ?_)
 refine aw_block ?_
 refine aw_weak (s' := ⟨[(1, .d (eL180 a1)), (5, .slc 1009 0 ((([a0] : List Int)).length) 1), (6, .d (.val (.int .i64 (0 : Int))))], [(1009, .av (.d (.arr 1 ((([a0] : List Int)).length) ((([a0] : List Int)).map eI_u8))))], []⟩) id hb0 (.keep rfl (.keep rfl (.keep rfl .nil))) (.keep rfl .nil) rfl (by rfl) ?_
 obtain ⟨o12, ho13, h⟩ := bind_some h
 refine aw_loopX (σ := Int × List Int) (fun z => ⟨[(1, .d (eL180 a1)), (5, .slc 1009 0 ((z.2).length) 1), (6, .d (.val (.int .i64 z.1)))], [(1009, .av (.d (.arr 1 ((z.2).length) ((z.2).map eI_u8))))], []⟩) (fun _ => (.exit 0)) (fun (o12 : List Int) => ⟨[(5, .slc 1009 0 ((o12).length) 1)], [(1009, .av (.d (.arr 1 ((o12).length) ((o12).map eI_u8))))], []⟩) ho13 (fun _ => rfl) ?_ ?_
 · clear h ho13
   rintro ⟨z0_0, z0_1⟩ o h
   change F172_beadrollref03_Bytes_s0 n a1 z0_0 z0_1 = some o at h
   unfold F172_beadrollref03_Bytes_s0 at h
   show AW _ _ _ ⟨[(1, .d (eL180 a1)), (5, .slc 1009 0 ((z0_1).length) 1), (6, .d (.val (.int .i64 z0_0)))], [(1009, .av (.d (.arr 1 ((z0_1).length) ((z0_1).map eI_u8))))], []⟩
   refine aw_seq ?_
   refine aw_rs ?_
   refine .mv rfl (by rfl) ?_
   refine .mv rfl (by rfl) ?_
   refine .v (f_lenD (n := (a1).length) (by rfl) sl180 rfl (by simp)) rfl (.c rfl .nil) .nil ?_
   refine .v (f_binI (by rfl) rfl (by rfl)) rfl (.c rfl (.c rfl .nil)) .nil ?_
   refine .nil (aq_then ?_)
   refine aw_cond rfl (fun hc1 => ?_) (fun hc1 => ?_)
   · replace h := ite_t hc1 h
     refine aw_skip ?_
     refine aq_then ?_
     refine aw_seq ?_
     refine aw_block ?_
     refine aw_rs ?_
     refine .mv rfl (by rfl) ?_
     refine .mv rfl (by rfl) ?_
     obtain ⟨x2, hx3, h⟩ := bind_some h
     obtain ⟨hx4, hx3⟩ := rd_some hx3
     refine .v (f_indexS (by rfl) sl180 hx4 (rd_map _ hx3)) rfl (.c rfl (.c rfl .nil)) .nil ?_
     refine .v (f_loadR (z := (eL139 x2)) (by rfl) ty139) rfl (.c rfl .nil) .nil ?_
     refine .v (f_lenD (n := (x2).length) (by rfl) sl139 rfl (by simp)) rfl (.c rfl .nil) .nil ?_
     refine .v (f_convI (by rfl) un3 un27) rfl (.c rfl .nil) .nil ?_
     refine .v (f_binI (by rfl) (rem_ok (by decide)) (by rfl)) rfl (.c rfl (.c rfl .nil)) .nil ?_
     obtain ⟨y5, hy6, h⟩ := bind_some h
     refine .v (f_callP hgl (by rfl) en162 rfl (by rfl) (by rfl) (by rfl) (F162_beadrollref01_Digits_ok hy6)) rfl (.c rfl (.c rfl .nil)) .nil ?_
     refine .mv rfl (by rfl) ?_
     refine .v (f_extract (by rfl) rfl) rfl (.c rfl .nil) .nil ?_
     refine .v (f_extract (by rfl) rfl) rfl (.c rfl .nil) .nil ?_
     refine .as rfl (by rfl) ?_
     refine .as rfl (by rfl) ?_
     refine .nil (aq_then ?_)
     refine aw_rs ?_
     refine .mv rfl (by rfl) ?_
     refine .mv rfl (by rfl) ?_
     obtain ⟨hb7, h⟩ := ifp h
     refine .w (f_appendC (m := ((z0_1 ++ y5.1)).length) (ys := (y5.1 : List Int).map eI_u8) (xs := (z0_1).map eI_u8) (zs := ((z0_1 ++ y5.1)).map eI_u8) 1013 (by rfl) el139 (by simp) (by simp) (by simp [List.map_drop]) (by simp) (Nat.le_trans (Nat.mul_le_mul_right _ hb7) (by decide)) (Nat.le_trans hb7 (by decide)) srcD) rfl (.c rfl (.c rfl .nil)) (.cons rfl .nil) (.cons rfl .nil) ?_
     refine .as rfl (by rfl) ?_
     refine .nil (aq_then ?_)
     refine aw_r ?_
     refine .mv rfl (by rfl) ?_
     refine .mv rfl (by rfl) ?_
     refine .mv rfl (by rfl) ?_
     obtain ⟨x8, hx9, h⟩ := bind_some h
     obtain ⟨hx10, hx9⟩ := rd_some hx9
     refine .v (f_indexS (by rfl) sl180 hx10 (rd_map _ hx9)) rfl (.c rfl (.c rfl .nil)) .nil ?_
     refine .v (f_loadR (z := (eL139 x8)) (by rfl) ty139) rfl (.c rfl .nil) .nil ?_
     obtain ⟨hb11, h⟩ := ifp h
     refine .w (f_appendC (m := (((z0_1 ++ y5.1) ++ x8)).length) (ys := (x8 : List Int).map eI_u8) (xs := ((z0_1 ++ y5.1)).map eI_u8) (zs := (((z0_1 ++ y5.1) ++ x8)).map eI_u8) 1014 (by rfl) el139 (by simp) (by simp) (by simp [List.map_drop]) (by simp) (Nat.le_trans (Nat.mul_le_mul_right _ hb11) (by decide)) (Nat.le_trans hb11 (by decide)) srcD) rfl (.c rfl (.c rfl .nil)) (.cons rfl .nil) (.cons rfl .nil) ?_
     refine .as rfl (by rfl) ?_
     refine .nil ?_
     refine aq_block ?_
     refine aq_then ?_
     refine aw_r ?_
     refine .mv rfl (by rfl) ?_
     refine .v (f_binI (by rfl) rfl (by rfl)) rfl (.c rfl (.c rfl .nil)) .nil ?_
     refine .as rfl (by rfl) ?_
     refine .nil ?_
     obtain rfl := Option.some.inj h
     refine aq_weak (s' := ⟨[(1, .d (eL180 a1)), (5, .slc 1009 0 ((((z0_1 ++ y5.1) ++ x8)).length) 1), (6, .d (.val (.int .i64 (IntKind.i64.wrap (z0_0 + (1 : Int))))))], [(1009, .av (.d (.arr 1 ((((z0_1 ++ y5.1) ++ x8)).length) ((((z0_1 ++ y5.1) ++ x8)).map eI_u8))))], []⟩) (fun i => (bif Nat.beq i 1009 then 1014 else i)) hb0 (.cons rfl (.cons rfl (.cons rfl .nil))) (.cons rfl .nil) rfl (by rfl) ?_
     exact jq
   replace h := ite_f hc1 h
   refine aw_exit ?_
   refine aq_then_exit ?_
   obtain rfl := Option.some.inj h
   refine aq_weak (s' := ⟨[(5, .slc 1009 0 ((z0_1).length) 1)], [(1009, .av (.d (.arr 1 ((z0_1).length) ((z0_1).map eI_u8))))], []⟩) id hb0 (.keep rfl .nil) (.keep rfl .nil) rfl (by rfl) ?_
   exact jq
 refine aq_block_exit ?_
 refine aq_then ?_
 refine aw_rs ?_
 refine .mv rfl (by rfl) ?_
 refine .as rfl (by rfl) ?_
 refine .nil (aq_then ?_)
 refine aw_ret ?_
 obtain rfl := Option.some.inj h
 refine aq_freeze [(1009, (.arr 1 ((o12).length) ((o12).map eI_u8)))] [(4, .d (eL139 o12))] (.cons rfl .nil) (.cons rfl (.whole (.head _)) .nil) ?_
 exact aq_finp hb0 rfl (.tmp rfl (by rfl) .nil) (by rfl) rfl ⟨rfl, rfl⟩

/- 171: beadroll/beadrollref02.Sum -/
def F171_beadrollref02_Sum_s1 (n : Nat) (y3 : (List Int)) (y7 : (List Int)) (z1_0 : Int) (z1_1 : (List Int)) : Option ((Int × (List Int)) ⊕ ((List Int))) :=
  (if (decide (z1_0 < (64 : Int))) = true then ((rd y3 z1_0).bind fun (x10 : Int) => ((rd y7 z1_0).bind fun (x13 : Int) => ((F180_beadrollref02_round n z1_1 x10 x13).bind fun (y16 : (List Int)) => some (.inl ((IntKind.i64.wrap (z1_0 + (1 : Int))), y16))))) else some (.inr z1_1))
def F171_beadrollref02_Sum_s2 (o18 : (List Int)) (z2_0 : Int) (z2_1 : (List Int)) : Option ((Int × (List Int)) ⊕ ((List Int))) :=
  (if (decide (z2_0 < (8 : Int))) = true then ((rd z2_1 z2_0).bind fun (x21 : Int) => ((rd o18 z2_0).bind fun (x24 : Int) => ((rd z2_1 z2_0).bind fun (x27 : Int) => some (.inl ((IntKind.i64.wrap (z2_0 + (1 : Int))), (z2_1.set (z2_0).toNat (IntKind.u32.wrap (x21 + x24)))))))) else some (.inr z2_1))
def F171_beadrollref02_Sum_s0 (n : Nat) (y1 : (List Int)) (y3 : (List Int)) (z0_0 : Int) (z0_1 : (List Int)) : Option ((Int × (List Int)) ⊕ ((List Int))) :=
  (if (decide (z0_0 < ((y1).length : Int))) = true then (if 0 ≤ z0_0 ∧ z0_0 ≤ (IntKind.i64.wrap (z0_0 + (64 : Int))) ∧ (IntKind.i64.wrap (z0_0 + (64 : Int))) ≤ ((y1).length : Int) then ((F179_beadrollref02_schedule n (((y1).take ((IntKind.i64.wrap (z0_0 + (64 : Int)))).toNat).drop (z0_0).toNat)).bind fun (y7 : (List Int)) => ((loopF (fun (z : Int × (List Int)) => F171_beadrollref02_Sum_s1 n y3 y7 z.1 z.2) n ((0 : Int), z0_1)).bind fun (o18 : (List Int)) => ((loopF (fun (z : Int × (List Int)) => F171_beadrollref02_Sum_s2 o18 z.1 z.2) n ((0 : Int), z0_1)).bind fun (o30 : (List Int)) => some (.inl ((IntKind.i64.wrap (z0_0 + (64 : Int))), o30))))) else none) else some (.inr z0_1))
def F171_beadrollref02_Sum_s4 (o32 : (List Int)) (z3_0 : Int) (z4_0 : Int) (z4_1 : (List Int)) : Option ((Int × (List Int)) ⊕ ((List Int))) :=
  (if (decide (z4_0 < (4 : Int))) = true then ((rd o32 z3_0).bind fun (x36 : Int) => (if 0 ≤ (IntKind.u64.wrap (IntKind.i64.wrap ((24 : Int) - (IntKind.i64.wrap ((8 : Int) * z4_0))))) then ((rd z4_1 (IntKind.i64.wrap ((IntKind.i64.wrap ((4 : Int) * z3_0)) + z4_0))).bind fun (x40 : Int) => some (.inl ((IntKind.i64.wrap (z4_0 + (1 : Int))), (z4_1.set ((IntKind.i64.wrap ((IntKind.i64.wrap ((4 : Int) * z3_0)) + z4_0))).toNat (IntKind.u8.wrap (shr .u32 x36 (IntKind.u64.wrap (IntKind.i64.wrap ((24 : Int) - (IntKind.i64.wrap ((8 : Int) * z4_0))))))))))) else none)) else some (.inr z4_1))
def F171_beadrollref02_Sum_s3 (n : Nat) (o32 : (List Int)) (z3_0 : Int) (z3_1 : (List Int)) : Option ((Int × (List Int)) ⊕ ((List Int))) :=
  (if (decide (z3_0 < (8 : Int))) = true then ((loopF (fun (z : Int × (List Int)) => F171_beadrollref02_Sum_s4 o32 z3_0 z.1 z.2) n ((0 : Int), z3_1)).bind fun (o43 : (List Int)) => some (.inl ((IntKind.i64.wrap (z3_0 + (1 : Int))), o43))) else some (.inr z3_1))
def F171_beadrollref02_Sum (n : Nat) (a0 : (List Int)) : Option ((List Int)) :=
  ((F177_beadrollref02_padded n a0).bind fun (y1 : (List Int)) => ((F178_beadrollref02_words n ).bind fun (y3 : (List Int)) => ((loopF (fun (z : Int × (List Int)) => F171_beadrollref02_Sum_s0 n y1 y3 z.1 z.2) n ((0 : Int), ([(1779033703 : Int), (3144134277 : Int), (1013904242 : Int), (2773480762 : Int), (1359893119 : Int), (2600822924 : Int), (528734635 : Int), (1541459225 : Int)] : List Int))).bind fun (o32 : (List Int)) => ((loopF (fun (z : Int × (List Int)) => F171_beadrollref02_Sum_s3 n o32 z.1 z.2) n ((0 : Int), (List.replicate 32 (0 : Int)))).bind fun (o45 : (List Int)) => some o45))))
theorem F171_beadrollref02_Sum_ok {n : Nat} {a0 : (List Int)} {r : (List Int)} (h : F171_beadrollref02_Sum n a0 = some r) :
    ACall Tryd.prog GS 171 [.d (eL139 a0)] [] (fun r' hp' => r' = .d (eA22 r) ∧ hp' = []) := by
 refine acall_of_body mixed Tryd.func171 rfl (by rfl) ?_
 intro C hro hgl hb0
 unfold F171_beadrollref02_Sum at h
 refine aw_rs ?_
 refine .n (f_alloc 2 (by rfl) zr23) rfl .nil rfl ?_
 refine .nil (aq_then ?_)
 refine aw_rs ?_
 refine .v (f_build (xs := [(0, .d (.val (.int .u32 (1779033703 : Int)))), (1, .d (.val (.int .u32 (3144134277 : Int)))), (2, .d (.val (.int .u32 (1013904242 : Int)))), (3, .d (.val (.int .u32 (2773480762 : Int)))), (4, .d (.val (.int .u32 (1359893119 : Int)))), (5, .d (.val (.int .u32 (2600822924 : Int)))), (6, .d (.val (.int .u32 (528734635 : Int)))), (7, .d (.val (.int .u32 (1541459225 : Int))))]) (z' := .d (eA209 ([(1779033703 : Int), (3144134277 : Int), (1013904242 : Int), (2773480762 : Int), (1359893119 : Int), (2600822924 : Int), (528734635 : Int), (1541459225 : Int)] : List Int))) (by rfl) zr209 ag209 rfl (by rfl) ⟨_, _, _, rfl, pl209_0, rfl, rfl, ⟨_, _, _, rfl, pl209_1, rfl, rfl, ⟨_, _, _, rfl, pl209_2, rfl, rfl, ⟨_, _, _, rfl, pl209_3, rfl, rfl, ⟨_, _, _, rfl, pl209_4, rfl, rfl, ⟨_, _, _, rfl, pl209_5, rfl, rfl, ⟨_, _, _, rfl, pl209_6, rfl, rfl, ⟨_, _, _, rfl, pl209_7, rfl, rfl, trivial⟩⟩⟩⟩⟩⟩⟩⟩ (by rfl) (by rfl)) rfl (.c rfl (.c rfl (.c rfl (.c rfl (.c rfl (.c rfl (.c rfl (.c rfl .nil)))))))) .nil ?_
 refine .n (f_alloc 3 (by rfl) zr209) rfl .nil rfl ?_
 refine .s (f_store (n := 0) (o := 3) (off := 0) (p := []) (c := .d (eA209 (List.replicate 8 (0 : Int)))) (old := .d (eA209 (List.replicate 8 (0 : Int)))) (z := .d (eA209 ([(1779033703 : Int), (3144134277 : Int), (1013904242 : Int), (2773480762 : Int), (1359893119 : Int), (2600822924 : Int), (528734635 : Int), (1541459225 : Int)] : List Int))) (c' := .d (eA209 ([(1779033703 : Int), (3144134277 : Int), (1013904242 : Int), (2773480762 : Int), (1359893119 : Int), (2600822924 : Int), (528734635 : Int), (1541459225 : Int)] : List Int))) rfl rfl (by rfl) ty209 (by rfl)) rfl (.c rfl (.c rfl .nil)) (.cons rfl .nil) ?_
 refine .nil (aq_then ?_)
 refine aw_rs ?_
 refine .mv rfl (by rfl) ?_
 obtain ⟨y1, hy2, h⟩ := bind_some h
 refine .v (f_callP hgl (by rfl) en177 rfl (by rfl) (by rfl) (by rfl) (F177_beadrollref02_padded_ok hy2)) rfl (.c rfl .nil) .nil ?_
 refine .as rfl (by rfl) ?_
 refine .nil (aq_then ?_)
 refine aw_rs ?_
 obtain ⟨y3, hy4, h⟩ := bind_some h
 refine .v (f_callP hgl (by rfl) en178 rfl (by rfl) (by rfl) (by rfl) (F178_beadrollref02_words_ok hy4)) rfl .nil .nil ?_
 refine .n (f_alloc 5 (by rfl) zr223) rfl .nil rfl ?_
 refine .s (f_store (n := 0) (o := 5) (off := 0) (p := []) (c := .d (eA223 (List.replicate 64 (0 : Int)))) (old := .d (eA223 (List.replicate 64 (0 : Int)))) (z := .d (eA223 y3)) (c' := .d (eA223 y3)) rfl rfl (by rfl) ty223 (by rfl)) rfl (.c rfl (.c rfl .nil)) (.cons rfl .nil) ?_
 refine .nil (aq_then ?_)
 refine aw_seq ?_
 refine aw_rs ?_
 refine .as rfl (by rfl) ?_
 refine .nil (aq_then ?_)
 refine aw_block ?_
 refine aw_weak (s' := ⟨[(2, .ptr 2 0 []), (3, .ptr 3 0 []), (4, .d (eL139 y1)), (5, .ptr 5 0 []), (6, .d (.val (.int .i64 (0 : Int))))], [(2, .av (.d (eA22 (List.replicate 32 (0 : Int))))), (3, .av (.d (eA209 ([(1779033703 : Int), (3144134277 : Int), (1013904242 : Int), (2773480762 : Int), (1359893119 : Int), (2600822924 : Int), (528734635 : Int), (1541459225 : Int)] : List Int)))), (5, .av (.d (eA223 y3)))], []⟩) id hb0 (.keep rfl (.keep rfl (.keep rfl (.keep rfl (.keep rfl .nil))))) (.keep rfl (.keep rfl (.keep rfl .nil))) rfl (by rfl) ?_
 obtain ⟨o32, ho33, h⟩ := bind_some h
 refine aw_loopX (σ := Int × (List Int)) (fun z => ⟨[(2, .ptr 2 0 []), (3, .ptr 3 0 []), (4, .d (eL139 y1)), (5, .ptr 5 0 []), (6, .d (.val (.int .i64 z.1)))], [(2, .av (.d (eA22 (List.replicate 32 (0 : Int))))), (3, .av (.d (eA209 z.2))), (5, .av (.d (eA223 y3)))], []⟩) (fun _ => (.exit 0)) (fun (o32 : (List Int)) => ⟨[(2, .ptr 2 0 []), (3, .ptr 3 0 [])], [(2, .av (.d (eA22 (List.replicate 32 (0 : Int))))), (3, .av (.d (eA209 o32)))], []⟩) ho33 (fun _ => rfl) ?_ ?_
 · clear h ho33
   rintro ⟨z0_0, z0_1⟩ o h
   change F171_beadrollref02_Sum_s0 n y1 y3 z0_0 z0_1 = some o at h
   unfold F171_beadrollref02_Sum_s0 at h
   show AW _ _ _ ⟨[(2, .ptr 2 0 []), (3, .ptr 3 0 []), (4, .d (eL139 y1)), (5, .ptr 5 0 []), (6, .d (.val (.int .i64 z0_0)))], [(2, .av (.d (eA22 (List.replicate 32 (0 : Int))))), (3, .av (.d (eA209 z0_1))), (5, .av (.d (eA223 y3)))], []⟩
   refine aw_seq ?_
   refine aw_rs ?_
   refine .mv rfl (by rfl) ?_
   refine .mv rfl (by rfl) ?_
   refine .v (f_lenD (n := (y1).length) (by rfl) sl139 rfl (by simp)) rfl (.c rfl .nil) .nil ?_
   refine .v (f_binI (by rfl) rfl (by rfl)) rfl (.c rfl (.c rfl .nil)) .nil ?_
   refine .nil (aq_then ?_)
   refine aw_cond rfl (fun hc5 => ?_) (fun hc5 => ?_)
   · replace h := ite_t hc5 h
     refine aw_skip ?_
     refine aq_then ?_
     refine aw_seq ?_
     refine aw_block ?_
     refine aw_rs ?_
     refine .mv rfl (by rfl) ?_
     refine .mv rfl (by rfl) ?_
     refine .mv rfl (by rfl) ?_
     refine .v (f_binI (by rfl) rfl (by rfl)) rfl (.c rfl (.c rfl .nil)) .nil ?_
     obtain ⟨hb6, h⟩ := ifp h
     refine .v (f_sliceD (k1 := .i64) (k2 := .i64) (i := z0_0) (j := (IntKind.i64.wrap (z0_0 + (64 : Int)))) (xs := (y1).map eI_u8) (zs := (((y1).take ((IntKind.i64.wrap (z0_0 + (64 : Int)))).toNat).drop (z0_0).toNat).map eI_u8) (by rfl) sl139 (by intro hx; first | rfl | cases hx) (by intro hx; first | (simp; done) | cases hx) hb6.1 hb6.2.1 (by rw [List.length_map]; exact hb6.2.2) (by simp [List.map_take, List.map_drop, List.take_of_length_le])) rfl (.c rfl (.c rfl (.c rfl .nil))) .nil ?_
     obtain ⟨y7, hy8, h⟩ := bind_some h
     refine .v (f_callP hgl (by rfl) en179 rfl (by rfl) (by rfl) (by rfl) (F179_beadrollref02_schedule_ok hy8)) rfl (.c rfl .nil) .nil ?_
     refine .n (f_alloc 7 (by rfl) zr223) rfl .nil rfl ?_
     refine .s (f_store (n := 0) (o := 7) (off := 0) (p := []) (c := .d (eA223 (List.replicate 64 (0 : Int)))) (old := .d (eA223 (List.replicate 64 (0 : Int)))) (z := .d (eA223 y7)) (c' := .d (eA223 y7)) rfl rfl (by rfl) ty223 (by rfl)) rfl (.c rfl (.c rfl .nil)) (.cons rfl .nil) ?_
     refine .nil (aq_then ?_)
     refine aw_rs ?_
     refine .v (f_load (n := 0) (o := 3) (off := 0) (p := []) (c := .d (eA209 z0_1)) (z := .d (eA209 z0_1)) (by rfl) rfl ty209 (by rfl)) rfl (.c rfl .nil) (.cons rfl .nil) ?_
     refine .n (f_alloc 8 (by rfl) zr209) rfl .nil rfl ?_
     refine .s (f_store (n := 0) (o := 8) (off := 0) (p := []) (c := .d (eA209 (List.replicate 8 (0 : Int)))) (old := .d (eA209 (List.replicate 8 (0 : Int)))) (z := .d (eA209 z0_1)) (c' := .d (eA209 z0_1)) rfl rfl (by rfl) ty209 (by rfl)) rfl (.c rfl (.c rfl .nil)) (.cons rfl .nil) ?_
     refine .nil (aq_then ?_)
     refine aw_seq ?_
     refine aw_rs ?_
     refine .as rfl (by rfl) ?_
     refine .nil (aq_then ?_)
     refine aw_block ?_
     refine aw_weak (s' := ⟨[(2, .ptr 2 0 []), (3, .ptr 3 0 []), (4, .d (eL139 y1)), (5, .ptr 5 0 []), (6, .d (.val (.int .i64 z0_0))), (7, .ptr 7 0 []), (8, .ptr 8 0 []), (9, .d (.val (.int .i64 (0 : Int))))], [(2, .av (.d (eA22 (List.replicate 32 (0 : Int))))), (3, .av (.d (eA209 z0_1))), (5, .av (.d (eA223 y3))), (7, .av (.d (eA223 y7))), (8, .av (.d (eA209 z0_1)))], []⟩) id hb0 (.keep rfl (.keep rfl (.keep rfl (.keep rfl (.keep rfl (.keep rfl (.keep rfl (.keep rfl .nil)))))))) (.keep rfl (.keep rfl (.keep rfl (.keep rfl (.keep rfl .nil))))) rfl (by rfl) ?_
     obtain ⟨o18, ho19, h⟩ := bind_some h
     refine aw_loopX (σ := Int × (List Int)) (fun z => ⟨[(2, .ptr 2 0 []), (3, .ptr 3 0 []), (4, .d (eL139 y1)), (5, .ptr 5 0 []), (6, .d (.val (.int .i64 z0_0))), (7, .ptr 7 0 []), (8, .ptr 8 0 []), (9, .d (.val (.int .i64 z.1)))], [(2, .av (.d (eA22 (List.replicate 32 (0 : Int))))), (3, .av (.d (eA209 z0_1))), (5, .av (.d (eA223 y3))), (7, .av (.d (eA223 y7))), (8, .av (.d (eA209 z.2)))], []⟩) (fun _ => (.exit 2)) (fun (o18 : (List Int)) => ⟨[(2, .ptr 2 0 []), (3, .ptr 3 0 []), (4, .d (eL139 y1)), (5, .ptr 5 0 []), (6, .d (.val (.int .i64 z0_0))), (8, .ptr 8 0 [])], [(2, .av (.d (eA22 (List.replicate 32 (0 : Int))))), (3, .av (.d (eA209 z0_1))), (5, .av (.d (eA223 y3))), (8, .av (.d (eA209 o18)))], []⟩) ho19 (fun _ => rfl) ?_ ?_
     · clear h ho19
       rintro ⟨z1_0, z1_1⟩ o h
       change F171_beadrollref02_Sum_s1 n y3 y7 z1_0 z1_1 = some o at h
       unfold F171_beadrollref02_Sum_s1 at h
       show AW _ _ _ ⟨[(2, .ptr 2 0 []), (3, .ptr 3 0 []), (4, .d (eL139 y1)), (5, .ptr 5 0 []), (6, .d (.val (.int .i64 z0_0))), (7, .ptr 7 0 []), (8, .ptr 8 0 []), (9, .d (.val (.int .i64 z1_0)))], [(2, .av (.d (eA22 (List.replicate 32 (0 : Int))))), (3, .av (.d (eA209 z0_1))), (5, .av (.d (eA223 y3))), (7, .av (.d (eA223 y7))), (8, .av (.d (eA209 z1_1)))], []⟩
       refine aw_seq ?_
       refine aw_rs ?_
       refine .mv rfl (by rfl) ?_
       refine .v (f_binI (by rfl) rfl (by rfl)) rfl (.c rfl (.c rfl .nil)) .nil ?_
       refine .nil (aq_then ?_)
       refine aw_cond rfl (fun hc9 => ?_) (fun hc9 => ?_)
       · replace h := ite_t hc9 h
         refine aw_skip ?_
         refine aq_then ?_
         refine aw_seq ?_
         refine aw_block ?_
         refine aw_rd ?_
         refine .v (f_load (n := 0) (o := 8) (off := 0) (p := []) (c := .d (eA209 z1_1)) (z := .d (eA209 z1_1)) (by rfl) rfl ty209 (by rfl)) rfl (.c rfl .nil) (.cons rfl .nil) ?_
         refine .v (f_move (by rfl)) rfl (.c rfl .nil) .nil ?_
         obtain ⟨x10, hx11, h⟩ := bind_some h
         obtain ⟨hx12, hx11⟩ := rd_some hx11
         refine .v (f_indexO (by rfl) ar223 rfl hx12 (rd_map _ hx11)) rfl (.c rfl (.c rfl .nil)) (.cons rfl .nil) ?_
         refine .v (f_load (n := 0) (o := 5) (off := (0 + (z1_0).toNat * 1)) (p := [(z1_0).toNat]) (c := .d (eA223 y3)) (z := .d (.val (.int .u32 x10))) (by rfl) (at_map _ hx11 (by simp)) ty208 (by rfl)) rfl (.c rfl .nil) (.cons rfl .nil) ?_
         refine .v (f_move (by rfl)) rfl (.c rfl .nil) .nil ?_
         obtain ⟨x13, hx14, h⟩ := bind_some h
         obtain ⟨hx15, hx14⟩ := rd_some hx14
         refine .v (f_indexO (by rfl) ar223 rfl hx15 (rd_map _ hx14)) rfl (.c rfl (.c rfl .nil)) (.cons rfl .nil) ?_
         refine .v (f_load (n := 0) (o := 7) (off := (0 + (z1_0).toNat * 1)) (p := [(z1_0).toNat]) (c := .d (eA223 y7)) (z := .d (.val (.int .u32 x13))) (by rfl) (at_map _ hx14 (by simp)) ty208 (by rfl)) rfl (.c rfl .nil) (.cons rfl .nil) ?_
         obtain ⟨y16, hy17, h⟩ := bind_some h
         refine .v (f_callP hgl (by rfl) en180 rfl (by rfl) (by rfl) (by rfl) (F180_beadrollref02_round_ok hy17)) rfl (.c rfl (.c rfl (.c rfl .nil))) .nil ?_
         refine .s (f_store (n := 0) (o := 8) (off := 0) (p := []) (c := .d (eA209 z1_1)) (old := .d (eA209 z1_1)) (z := .d (eA209 y16)) (c' := .d (eA209 y16)) rfl rfl (by rfl) ty209 (by rfl)) rfl (.c rfl (.c rfl .nil)) (.cons rfl .nil) ?_
         refine .nil (by kernel_rfl) ?_
         refine aq_block ?_
         refine aq_then ?_
         refine aw_r ?_
         refine .mv rfl (by rfl) ?_
         refine .v (f_binI (by rfl) rfl (by rfl)) rfl (.c rfl (.c rfl .nil)) .nil ?_
         refine .as rfl (by rfl) ?_
         refine .nil ?_
         obtain rfl := Option.some.inj h
         refine aq_weak (s' := ⟨[(2, .ptr 2 0 []), (3, .ptr 3 0 []), (4, .d (eL139 y1)), (5, .ptr 5 0 []), (6, .d (.val (.int .i64 z0_0))), (7, .ptr 7 0 []), (8, .ptr 8 0 []), (9, .d (.val (.int .i64 (IntKind.i64.wrap (z1_0 + (1 : Int))))))], [(2, .av (.d (eA22 (List.replicate 32 (0 : Int))))), (3, .av (.d (eA209 z0_1))), (5, .av (.d (eA223 y3))), (7, .av (.d (eA223 y7))), (8, .av (.d (eA209 y16)))], []⟩) id hb0 (.keep rfl (.keep rfl (.keep rfl (.keep rfl (.keep rfl (.keep rfl (.keep rfl (.keep rfl .nil)))))))) (.keep rfl (.keep rfl (.keep rfl (.keep rfl (.keep rfl .nil))))) rfl (by rfl) ?_
         exact jq
       replace h := ite_f hc9 h
       refine aw_exit ?_
       refine aq_then_exit ?_
       obtain rfl := Option.some.inj h
       refine aq_weak (s' := ⟨[(2, .ptr 2 0 []), (3, .ptr 3 0 []), (4, .d (eL139 y1)), (5, .ptr 5 0 []), (6, .d (.val (.int .i64 z0_0))), (8, .ptr 8 0 [])], [(2, .av (.d (eA22 (List.replicate 32 (0 : Int))))), (3, .av (.d (eA209 z0_1))), (5, .av (.d (eA223 y3))), (8, .av (.d (eA209 z1_1)))], []⟩) id hb0 (.keep rfl (.keep rfl (.keep rfl (.keep rfl (.keep rfl (.keep rfl .nil)))))) (.keep rfl (.keep rfl (.keep rfl (.keep rfl .nil)))) rfl (by rfl) ?_
       exact jq
     refine aq_block_exit ?_
     refine aq_then ?_
     refine aw_rs ?_
     refine .as rfl (by rfl) ?_
     refine .nil (aq_then ?_)
     refine aw_block ?_
     refine aw_weak (s' := ⟨[(2, .ptr 2 0 []), (3, .ptr 3 0 []), (4, .d (eL139 y1)), (5, .ptr 5 0 []), (6, .d (.val (.int .i64 z0_0))), (8, .ptr 8 0 []), (10, .d (.val (.int .i64 (0 : Int))))], [(2, .av (.d (eA22 (List.replicate 32 (0 : Int))))), (3, .av (.d (eA209 z0_1))), (5, .av (.d (eA223 y3))), (8, .av (.d (eA209 o18)))], []⟩) id hb0 (.keep rfl (.keep rfl (.keep rfl (.keep rfl (.keep rfl (.keep rfl (.keep rfl .nil))))))) (.keep rfl (.keep rfl (.keep rfl (.keep rfl .nil)))) rfl (by rfl) ?_
     obtain ⟨o30, ho31, h⟩ := bind_some h
     refine aw_loopX (σ := Int × (List Int)) (fun z => ⟨[(2, .ptr 2 0 []), (3, .ptr 3 0 []), (4, .d (eL139 y1)), (5, .ptr 5 0 []), (6, .d (.val (.int .i64 z0_0))), (8, .ptr 8 0 []), (10, .d (.val (.int .i64 z.1)))], [(2, .av (.d (eA22 (List.replicate 32 (0 : Int))))), (3, .av (.d (eA209 z.2))), (5, .av (.d (eA223 y3))), (8, .av (.d (eA209 o18)))], []⟩) (fun _ => (.exit 4)) (fun (o30 : (List Int)) => ⟨[(2, .ptr 2 0 []), (3, .ptr 3 0 []), (4, .d (eL139 y1)), (5, .ptr 5 0 []), (6, .d (.val (.int .i64 z0_0)))], [(2, .av (.d (eA22 (List.replicate 32 (0 : Int))))), (3, .av (.d (eA209 o30))), (5, .av (.d (eA223 y3)))], []⟩) ho31 (fun _ => rfl) ?_ ?_
     · clear h ho31
       rintro ⟨z2_0, z2_1⟩ o h
       change F171_beadrollref02_Sum_s2 o18 z2_0 z2_1 = some o at h
       unfold F171_beadrollref02_Sum_s2 at h
       show AW _ _ _ ⟨[(2, .ptr 2 0 []), (3, .ptr 3 0 []), (4, .d (eL139 y1)), (5, .ptr 5 0 []), (6, .d (.val (.int .i64 z0_0))), (8, .ptr 8 0 []), (10, .d (.val (.int .i64 z2_0)))], [(2, .av (.d (eA22 (List.replicate 32 (0 : Int))))), (3, .av (.d (eA209 z2_1))), (5, .av (.d (eA223 y3))), (8, .av (.d (eA209 o18)))], []⟩
       refine aw_seq ?_
       refine aw_rs ?_
       refine .mv rfl (by rfl) ?_
       refine .v (f_binI (by rfl) rfl (by rfl)) rfl (.c rfl (.c rfl .nil)) .nil ?_
       refine .nil (aq_then ?_)
       refine aw_cond rfl (fun hc20 => ?_) (fun hc20 => ?_)
       · replace h := ite_t hc20 h
         refine aw_skip ?_
         refine aq_then ?_
         refine aw_seq ?_
         refine aw_block ?_
         refine aw_rd ?_
         refine .v (f_move (by rfl)) rfl (.c rfl .nil) .nil ?_
         obtain ⟨x21, hx22, h⟩ := bind_some h
         obtain ⟨hx23, hx22⟩ := rd_some hx22
         refine .v (f_indexO (by rfl) ar209 rfl hx23 (rd_map _ hx22)) rfl (.c rfl (.c rfl .nil)) (.cons rfl .nil) ?_
         refine .v (f_load (n := 0) (o := 3) (off := (0 + (z2_0).toNat * 1)) (p := [(z2_0).toNat]) (c := .d (eA209 z2_1)) (z := .d (.val (.int .u32 x21))) (by rfl) (at_map _ hx22 (by simp)) ty208 (by rfl)) rfl (.c rfl .nil) (.cons rfl .nil) ?_
         refine .v (f_move (by rfl)) rfl (.c rfl .nil) .nil ?_
         obtain ⟨x24, hx25, h⟩ := bind_some h
         obtain ⟨hx26, hx25⟩ := rd_some hx25
         refine .v (f_indexO (by rfl) ar209 rfl hx26 (rd_map _ hx25)) rfl (.c rfl (.c rfl .nil)) (.cons rfl .nil) ?_
         refine .v (f_load (n := 0) (o := 8) (off := (0 + (z2_0).toNat * 1)) (p := [(z2_0).toNat]) (c := .d (eA209 o18)) (z := .d (.val (.int .u32 x24))) (by rfl) (at_map _ hx25 (by simp)) ty208 (by rfl)) rfl (.c rfl .nil) (.cons rfl .nil) ?_
         refine .v (f_binI (by rfl) rfl (by rfl)) rfl (.c rfl (.c rfl .nil)) .nil ?_
         obtain ⟨x27, hx28, h⟩ := bind_some h
         obtain ⟨hx29, hx28⟩ := rd_some hx28
         refine .v (f_indexO (by rfl) ar209 rfl hx29 (rd_map _ hx28)) rfl (.c rfl (.c rfl .nil)) (.cons rfl .nil) ?_
         refine .s (f_store (n := 0) (o := 3) (off := (0 + (z2_0).toNat * 1)) (p := [(z2_0).toNat]) (c := .d (eA209 z2_1)) (old := .d (.val (.int .u32 x27))) (z := .d (.val (.int .u32 (IntKind.u32.wrap (x21 + x24))))) (c' := .d (eA209 (z2_1.set (z2_0).toNat (IntKind.u32.wrap (x21 + x24))))) (at_map _ hx28 (by simp)) (put_map _ hx28) (by rfl) ty208 (by rfl)) rfl (.c rfl (.c rfl .nil)) (.cons rfl .nil) ?_
         refine .nil (by kernel_rfl) ?_
         refine aq_block ?_
         refine aq_then ?_
         refine aw_r ?_
         refine .mv rfl (by rfl) ?_
         refine .v (f_binI (by rfl) rfl (by rfl)) rfl (.c rfl (.c rfl .nil)) .nil ?_
         refine .as rfl (by rfl) ?_
         refine .nil ?_
         obtain rfl := Option.some.inj h
         refine aq_weak (s' := ⟨[(2, .ptr 2 0 []), (3, .ptr 3 0 []), (4, .d (eL139 y1)), (5, .ptr 5 0 []), (6, .d (.val (.int .i64 z0_0))), (8, .ptr 8 0 []), (10, .d (.val (.int .i64 (IntKind.i64.wrap (z2_0 + (1 : Int))))))], [(2, .av (.d (eA22 (List.replicate 32 (0 : Int))))), (3, .av (.d (eA209 (z2_1.set (z2_0).toNat (IntKind.u32.wrap (x21 + x24)))))), (5, .av (.d (eA223 y3))), (8, .av (.d (eA209 o18)))], []⟩) id hb0 (.keep rfl (.keep rfl (.keep rfl (.keep rfl (.keep rfl (.keep rfl (.keep rfl .nil))))))) (.keep rfl (.keep rfl (.keep rfl (.keep rfl .nil)))) rfl (by rfl) ?_
         exact jq
       replace h := ite_f hc20 h
       refine aw_exit ?_
       refine aq_then_exit ?_
       obtain rfl := Option.some.inj h
       refine aq_weak (s' := ⟨[(2, .ptr 2 0 []), (3, .ptr 3 0 []), (4, .d (eL139 y1)), (5, .ptr 5 0 []), (6, .d (.val (.int .i64 z0_0)))], [(2, .av (.d (eA22 (List.replicate 32 (0 : Int))))), (3, .av (.d (eA209 z2_1))), (5, .av (.d (eA223 y3)))], []⟩) id hb0 (.keep rfl (.keep rfl (.keep rfl (.keep rfl (.keep rfl .nil))))) (.keep rfl (.keep rfl (.keep rfl .nil))) rfl (by rfl) ?_
       exact jq
     refine aq_block_exit ?_
     refine aq_block ?_
     refine aq_then ?_
     refine aw_r ?_
     refine .mv rfl (by rfl) ?_
     refine .v (f_binI (by rfl) rfl (by rfl)) rfl (.c rfl (.c rfl .nil)) .nil ?_
     refine .as rfl (by rfl) ?_
     refine .nil ?_
     obtain rfl := Option.some.inj h
     refine aq_weak (s' := ⟨[(2, .ptr 2 0 []), (3, .ptr 3 0 []), (4, .d (eL139 y1)), (5, .ptr 5 0 []), (6, .d (.val (.int .i64 (IntKind.i64.wrap (z0_0 + (64 : Int))))))], [(2, .av (.d (eA22 (List.replicate 32 (0 : Int))))), (3, .av (.d (eA209 o30))), (5, .av (.d (eA223 y3)))], []⟩) id hb0 (.keep rfl (.keep rfl (.keep rfl (.keep rfl (.keep rfl .nil))))) (.keep rfl (.keep rfl (.keep rfl .nil))) rfl (by rfl) ?_
     exact jq
   replace h := ite_f hc5 h
   refine aw_exit ?_
   refine aq_then_exit ?_
   obtain rfl := Option.some.inj h
   refine aq_weak (s' := ⟨[(2, .ptr 2 0 []), (3, .ptr 3 0 [])], [(2, .av (.d (eA22 (List.replicate 32 (0 : Int))))), (3, .av (.d (eA209 z0_1)))], []⟩) id hb0 (.keep rfl (.keep rfl .nil)) (.keep rfl (.keep rfl .nil)) rfl (by rfl) ?_
   exact jq
 refine aq_block_exit ?_
 refine aq_then ?_
 refine aw_rs ?_
 refine .n (f_alloc 11 (by rfl) zr23) rfl .nil rfl ?_
 refine .nil (aq_then ?_)
 refine aw_seq ?_
 refine aw_rs ?_
 refine .as rfl (by rfl) ?_
 refine .nil (aq_then ?_)
 refine aw_block ?_
 refine aw_weak (s' := ⟨[(2, .ptr 2 0 []), (3, .ptr 3 0 []), (11, .ptr 11 0 []), (12, .d (.val (.int .i64 (0 : Int))))], [(2, .av (.d (eA22 (List.replicate 32 (0 : Int))))), (3, .av (.d (eA209 o32))), (11, .av (.d (eA22 (List.replicate 32 (0 : Int)))))], []⟩) id hb0 (.keep rfl (.keep rfl (.keep rfl (.keep rfl .nil)))) (.keep rfl (.keep rfl (.keep rfl .nil))) rfl (by rfl) ?_
 obtain ⟨o45, ho46, h⟩ := bind_some h
 refine aw_loopX (σ := Int × (List Int)) (fun z => ⟨[(2, .ptr 2 0 []), (3, .ptr 3 0 []), (11, .ptr 11 0 []), (12, .d (.val (.int .i64 z.1)))], [(2, .av (.d (eA22 (List.replicate 32 (0 : Int))))), (3, .av (.d (eA209 o32))), (11, .av (.d (eA22 z.2)))], []⟩) (fun _ => (.exit 6)) (fun (o45 : (List Int)) => ⟨[(2, .ptr 2 0 []), (11, .ptr 11 0 [])], [(2, .av (.d (eA22 (List.replicate 32 (0 : Int))))), (11, .av (.d (eA22 o45)))], []⟩) ho46 (fun _ => rfl) ?_ ?_
 · clear h ho46
   rintro ⟨z3_0, z3_1⟩ o h
   change F171_beadrollref02_Sum_s3 n o32 z3_0 z3_1 = some o at h
   unfold F171_beadrollref02_Sum_s3 at h
   show AW _ _ _ ⟨[(2, .ptr 2 0 []), (3, .ptr 3 0 []), (11, .ptr 11 0 []), (12, .d (.val (.int .i64 z3_0)))], [(2, .av (.d (eA22 (List.replicate 32 (0 : Int))))), (3, .av (.d (eA209 o32))), (11, .av (.d (eA22 z3_1)))], []⟩
   refine aw_seq ?_
   refine aw_rs ?_
   refine .mv rfl (by rfl) ?_
   refine .v (f_binI (by rfl) rfl (by rfl)) rfl (.c rfl (.c rfl .nil)) .nil ?_
   refine .nil (aq_then ?_)
   refine aw_cond rfl (fun hc34 => ?_) (fun hc34 => ?_)
   · replace h := ite_t hc34 h
     refine aw_skip ?_
     refine aq_then ?_
     refine aw_seq ?_
     refine aw_block ?_
     refine aw_rs ?_
     refine .as rfl (by rfl) ?_
     refine .nil (aq_then ?_)
     refine aw_block ?_
     refine aw_weak (s' := ⟨[(2, .ptr 2 0 []), (3, .ptr 3 0 []), (11, .ptr 11 0 []), (12, .d (.val (.int .i64 z3_0))), (13, .d (.val (.int .i64 (0 : Int))))], [(2, .av (.d (eA22 (List.replicate 32 (0 : Int))))), (3, .av (.d (eA209 o32))), (11, .av (.d (eA22 z3_1)))], []⟩) id hb0 (.keep rfl (.keep rfl (.keep rfl (.keep rfl (.keep rfl .nil))))) (.keep rfl (.keep rfl (.keep rfl .nil))) rfl (by rfl) ?_
     obtain ⟨o43, ho44, h⟩ := bind_some h
     refine aw_loopX (σ := Int × (List Int)) (fun z => ⟨[(2, .ptr 2 0 []), (3, .ptr 3 0 []), (11, .ptr 11 0 []), (12, .d (.val (.int .i64 z3_0))), (13, .d (.val (.int .i64 z.1)))], [(2, .av (.d (eA22 (List.replicate 32 (0 : Int))))), (3, .av (.d (eA209 o32))), (11, .av (.d (eA22 z.2)))], []⟩) (fun _ => (.exit 8)) (fun (o43 : (List Int)) => ⟨[(2, .ptr 2 0 []), (3, .ptr 3 0 []), (11, .ptr 11 0 []), (12, .d (.val (.int .i64 z3_0)))], [(2, .av (.d (eA22 (List.replicate 32 (0 : Int))))), (3, .av (.d (eA209 o32))), (11, .av (.d (eA22 o43)))], []⟩) ho44 (fun _ => rfl) ?_ ?_
     · clear h ho44
       rintro ⟨z4_0, z4_1⟩ o h
       change F171_beadrollref02_Sum_s4 o32 z3_0 z4_0 z4_1 = some o at h
       unfold F171_beadrollref02_Sum_s4 at h
       show AW _ _ _ ⟨[(2, .ptr 2 0 []), (3, .ptr 3 0 []), (11, .ptr 11 0 []), (12, .d (.val (.int .i64 z3_0))), (13, .d (.val (.int .i64 z4_0)))], [(2, .av (.d (eA22 (List.replicate 32 (0 : Int))))), (3, .av (.d (eA209 o32))), (11, .av (.d (eA22 z4_1)))], []⟩
       refine aw_seq ?_
       refine aw_rs ?_
       refine .mv rfl (by rfl) ?_
       refine .v (f_binI (by rfl) rfl (by rfl)) rfl (.c rfl (.c rfl .nil)) .nil ?_
       refine .nil (aq_then ?_)
       refine aw_cond rfl (fun hc35 => ?_) (fun hc35 => ?_)
       · replace h := ite_t hc35 h
         refine aw_skip ?_
         refine aq_then ?_
         refine aw_seq ?_
         refine aw_block ?_
         refine aw_r ?_
         refine .mv rfl (by rfl) ?_
         refine .v (f_binI (by rfl) rfl (by rfl)) rfl (.c rfl (.c rfl .nil)) .nil ?_
         refine .mv rfl (by rfl) ?_
         refine .v (f_binI (by rfl) rfl (by rfl)) rfl (.c rfl (.c rfl .nil)) .nil ?_
         refine .mv rfl (by rfl) ?_
         obtain ⟨x36, hx37, h⟩ := bind_some h
         obtain ⟨hx38, hx37⟩ := rd_some hx37
         refine .v (f_indexO (by rfl) ar209 rfl hx38 (rd_map _ hx37)) rfl (.c rfl (.c rfl .nil)) (.cons rfl .nil) ?_
         refine .v (f_load (n := 0) (o := 3) (off := (0 + (z3_0).toNat * 1)) (p := [(z3_0).toNat]) (c := .d (eA209 o32)) (z := .d (.val (.int .u32 x36))) (by rfl) (at_map _ hx37 (by simp)) ty208 (by rfl)) rfl (.c rfl .nil) (.cons rfl .nil) ?_
         refine .mv rfl (by rfl) ?_
         refine .v (f_binI (by rfl) rfl (by rfl)) rfl (.c rfl (.c rfl .nil)) .nil ?_
         refine .v (f_binI (by rfl) rfl (by rfl)) rfl (.c rfl (.c rfl .nil)) .nil ?_
         refine .v (f_convI (by rfl) un3 un202) rfl (.c rfl .nil) .nil ?_
         obtain ⟨hz39, h⟩ := ifp h
         refine .v (f_shift (by rfl) (shr_ok hz39) (by rfl)) rfl (.c rfl (.c rfl .nil)) .nil ?_
         refine .v (f_convI (by rfl) un208 un5) rfl (.c rfl .nil) .nil ?_
         obtain ⟨x40, hx41, h⟩ := bind_some h
         obtain ⟨hx42, hx41⟩ := rd_some hx41
         refine .v (f_indexO (by rfl) ar23 rfl hx42 (rd_map _ hx41)) rfl (.c rfl (.c rfl .nil)) (.cons rfl .nil) ?_
         refine .s (f_store (n := 0) (o := 11) (off := (0 + ((IntKind.i64.wrap ((IntKind.i64.wrap ((4 : Int) * z3_0)) + z4_0))).toNat * 1)) (p := [((IntKind.i64.wrap ((IntKind.i64.wrap ((4 : Int) * z3_0)) + z4_0))).toNat]) (c := .d (eA22 z4_1)) (old := .d (.val (.int .u8 x40))) (z := .d (.val (.int .u8 (IntKind.u8.wrap (shr .u32 x36 (IntKind.u64.wrap (IntKind.i64.wrap ((24 : Int) - (IntKind.i64.wrap ((8 : Int) * z4_0)))))))))) (c' := .d (eA22 (z4_1.set ((IntKind.i64.wrap ((IntKind.i64.wrap ((4 : Int) * z3_0)) + z4_0))).toNat (IntKind.u8.wrap (shr .u32 x36 (IntKind.u64.wrap (IntKind.i64.wrap ((24 : Int) - (IntKind.i64.wrap ((8 : Int) * z4_0)))))))))) (at_map _ hx41 (by simp)) (put_map _ hx41) (by rfl) ty5 (by rfl)) rfl (.c rfl (.c rfl .nil)) (.cons rfl .nil) ?_
         refine .nil ?_
         refine aq_block ?_
         refine aq_then ?_
         refine aw_r ?_
         refine .mv rfl (by rfl) ?_
         refine .v (f_binI (by rfl) rfl (by rfl)) rfl (.c rfl (.c rfl .nil)) .nil ?_
         refine .as rfl (by rfl) ?_
         refine .nil ?_
         obtain rfl := Option.some.inj h
         refine aq_weak (s' := ⟨[(2, .ptr 2 0 []), (3, .ptr 3 0 []), (11, .ptr 11 0 []), (12, .d (.val (.int .i64 z3_0))), (13, .d (.val (.int .i64 (IntKind.i64.wrap (z4_0 + (1 : Int))))))], [(2, .av (.d (eA22 (List.replicate 32 (0 : Int))))), (3, .av (.d (eA209 o32))), (11, .av (.d (eA22 (z4_1.set ((IntKind.i64.wrap ((IntKind.i64.wrap ((4 : Int) * z3_0)) + z4_0))).toNat (IntKind.u8.wrap (shr .u32 x36 (IntKind.u64.wrap (IntKind.i64.wrap ((24 : Int) - (IntKind.i64.wrap ((8 : Int) * z4_0)))))))))))], []⟩) id hb0 (.keep rfl (.keep rfl (.keep rfl (.keep rfl (.keep rfl .nil))))) (.keep rfl (.keep rfl (.keep rfl .nil))) rfl (by rfl) ?_
         exact jq
       replace h := ite_f hc35 h
       refine aw_exit ?_
       refine aq_then_exit ?_
       obtain rfl := Option.some.inj h
       refine aq_weak (s' := ⟨[(2, .ptr 2 0 []), (3, .ptr 3 0 []), (11, .ptr 11 0 []), (12, .d (.val (.int .i64 z3_0)))], [(2, .av (.d (eA22 (List.replicate 32 (0 : Int))))), (3, .av (.d (eA209 o32))), (11, .av (.d (eA22 z4_1)))], []⟩) id hb0 (.keep rfl (.keep rfl (.keep rfl (.keep rfl .nil)))) (.keep rfl (.keep rfl (.keep rfl .nil))) rfl (by rfl) ?_
       exact jq
     refine aq_block_exit ?_
     refine aq_block ?_
     refine aq_then ?_
     refine aw_r ?_
     refine .mv rfl (by rfl) ?_
     refine .v (f_binI (by rfl) rfl (by rfl)) rfl (.c rfl (.c rfl .nil)) .nil ?_
     refine .as rfl (by rfl) ?_
     refine .nil ?_
     obtain rfl := Option.some.inj h
     refine aq_weak (s' := ⟨[(2, .ptr 2 0 []), (3, .ptr 3 0 []), (11, .ptr 11 0 []), (12, .d (.val (.int .i64 (IntKind.i64.wrap (z3_0 + (1 : Int))))))], [(2, .av (.d (eA22 (List.replicate 32 (0 : Int))))), (3, .av (.d (eA209 o32))), (11, .av (.d (eA22 o43)))], []⟩) id hb0 (.keep rfl (.keep rfl (.keep rfl (.keep rfl .nil)))) (.keep rfl (.keep rfl (.keep rfl .nil))) rfl (by rfl) ?_
     exact jq
   replace h := ite_f hc34 h
   refine aw_exit ?_
   refine aq_then_exit ?_
   obtain rfl := Option.some.inj h
   refine aq_weak (s' := ⟨[(2, .ptr 2 0 []), (11, .ptr 11 0 [])], [(2, .av (.d (eA22 (List.replicate 32 (0 : Int))))), (11, .av (.d (eA22 z3_1)))], []⟩) id hb0 (.keep rfl (.keep rfl .nil)) (.keep rfl (.keep rfl .nil)) rfl (by rfl) ?_
   exact jq
 refine aq_block_exit ?_
 refine aq_then ?_
 refine aw_rs ?_
 refine .v (f_load (n := 0) (o := 11) (off := 0) (p := []) (c := .d (eA22 o45)) (z := .d (eA22 o45)) (by rfl) rfl ty23 (by rfl)) rfl (.c rfl .nil) (.cons rfl .nil) ?_
 refine .s (f_store (n := 0) (o := 2) (off := 0) (p := []) (c := .d (eA22 (List.replicate 32 (0 : Int)))) (old := .d (eA22 (List.replicate 32 (0 : Int)))) (z := .d (eA22 o45)) (c' := .d (eA22 o45)) rfl rfl (by rfl) ty23 (by rfl)) rfl (.c rfl (.c rfl .nil)) (.cons rfl .nil) ?_
 refine .nil (aq_then ?_)
 refine aw_ret ?_
 obtain rfl := Option.some.inj h
 exact aq_finp hb0 rfl (.cell rfl rfl ty23 (by rfl) .nil) (by rfl) rfl ⟨rfl, rfl⟩

/- 170: beadroll/sha.turned -/
def F170_sha_turned (n : Nat) (a0 : Int) (a1 : Int) : Option (Int) :=
  ((F176_bits_RotateLeft32 n a0 (IntKind.i64.wrap (0 - a1))).bind fun (y1 : Int) => some y1)
theorem F170_sha_turned_ok {n : Nat} {a0 : Int} {a1 : Int} {r : Int} (h : F170_sha_turned n a0 a1 = some r) :
    ACall Tryd.prog GS 170 [.d (.val (.int .u32 a0)), .d (.val (.int .i64 a1))] [] (fun r' hp' => r' = .d (.val (.int .u32 r)) ∧ hp' = []) := by
 refine acall_of_body mixed Tryd.func170 rfl (by rfl) ?_
 intro C hro hgl hb0
 unfold F170_sha_turned at h
 refine aw_rs ?_
 refine .as rfl (by rfl) ?_
 refine .nil (aq_then ?_)
 refine aw_rs ?_
 refine .mv rfl (by rfl) ?_
 refine .mv rfl (by rfl) ?_
 refine .v (f_neg (by rfl)) rfl (.c rfl .nil) .nil ?_
 obtain ⟨y1, hy2, h⟩ := bind_some h
 refine .v (f_callP hgl (by rfl) en176 rfl (by rfl) (by rfl) (by rfl) (F176_bits_RotateLeft32_ok hy2)) rfl (.c rfl (.c rfl .nil)) .nil ?_
 refine .as rfl (by rfl) ?_
 refine .nil (aq_then ?_)
 refine aw_ret ?_
 obtain rfl := Option.some.inj h
 exact aq_finp hb0 rfl (.tmp rfl (by rfl) .nil) (by rfl) rfl ⟨rfl, rfl⟩

/- 161: beadroll/beadrollref03.Of -/
def F161_beadrollref03_Of (n : Nat) (a0 : Int) (a1 : (List (List Int))) : Option ((List Int)) :=
  ((F172_beadrollref03_Bytes n a0 a1).bind fun (y1 : (List Int)) => ((F171_beadrollref02_Sum n y1).bind fun (y3 : (List Int)) => some y3))
theorem F161_beadrollref03_Of_ok {n : Nat} {a0 : Int} {a1 : (List (List Int))} {r : (List Int)} (h : F161_beadrollref03_Of n a0 a1 = some r) :
    ACall Tryd.prog GS 161 [.d (.val (.int .u8 a0)), .d (eL180 a1)] [] (fun r' hp' => r' = .d (eA22 r) ∧ hp' = []) := by
 refine acall_of_body mixed Tryd.func161 rfl (by rfl) ?_
 intro C hro hgl hb0
 unfold F161_beadrollref03_Of at h
 refine aw_rs ?_
 refine .n (f_alloc 4 (by rfl) zr23) rfl .nil rfl ?_
 refine .nil (aq_then ?_)
 refine aw_rs ?_
 refine .mv rfl (by rfl) ?_
 refine .mv rfl (by rfl) ?_
 obtain ⟨y1, hy2, h⟩ := bind_some h
 refine .v (f_callP hgl (by rfl) en172 rfl (by rfl) (by rfl) (by rfl) (F172_beadrollref03_Bytes_ok hy2)) rfl (.c rfl (.c rfl .nil)) .nil ?_
 obtain ⟨y3, hy4, h⟩ := bind_some h
 refine .v (f_callP hgl (by rfl) en171 rfl (by rfl) (by rfl) (by rfl) (F171_beadrollref02_Sum_ok hy4)) rfl (.c rfl .nil) .nil ?_
 refine .s (f_store (n := 0) (o := 4) (off := 0) (p := []) (c := .d (eA22 (List.replicate 32 (0 : Int)))) (old := .d (eA22 (List.replicate 32 (0 : Int)))) (z := .d (eA22 y3)) (c' := .d (eA22 y3)) rfl rfl (by rfl) ty23 (by rfl)) rfl (.c rfl (.c rfl .nil)) (.cons rfl .nil) ?_
 refine .nil (aq_then ?_)
 refine aw_ret ?_
 obtain rfl := Option.some.inj h
 exact aq_finp hb0 rfl (.cell rfl rfl ty23 (by rfl) .nil) (by rfl) rfl ⟨rfl, rfl⟩

/- 152: beadroll/beadrollref04.At -/
def F152_beadrollref04_At_s0 (a1 : Int) (z0_0 : Int) (z0_1 : Int) : Option ((Int × Int) ⊕ (Int)) :=
  (if (decide (z0_1 > (Int.tmod a1 (8 : Int)))) = true then some (.inl ((IntKind.u8.wrap (Int.tdiv z0_0 (2 : Int))), (IntKind.i64.wrap (z0_1 - (1 : Int))))) else some (.inr z0_0))
def F152_beadrollref04_At (n : Nat) (a0 : (List Int)) (a1 : Int) : Option (Int) :=
  ((rd a0 (IntKind.i64.wrap (Int.tdiv a1 (8 : Int)))).bind fun (x1 : Int) => ((loopF (fun (z : Int × Int) => F152_beadrollref04_At_s0 a1 z.1 z.2) n (x1, (7 : Int))).bind fun (o5 : Int) => some (Int.tmod o5 (2 : Int))))
theorem F152_beadrollref04_At_ok {n : Nat} {a0 : (List Int)} {a1 : Int} {r : Int} (h : F152_beadrollref04_At n a0 a1 = some r) :
    ACall Tryd.prog GS 152 [.d (eA22 a0), .d (.val (.int .i64 a1))] [] (fun r' hp' => r' = .d (.val (.int .u8 r)) ∧ hp' = []) := by
 refine acall_of_body mixed Tryd.func152 rfl (by rfl) ?_
 intro C hro hgl hb0
 unfold F152_beadrollref04_At at h
 refine aw_rs ?_
 refine .n (f_box 2 (by rfl) (by rfl)) rfl (.c rfl .nil) rfl ?_
 refine .as rfl (by rfl) ?_
 refine .nil (aq_then ?_)
 refine aw_rs ?_
 refine .mv rfl (by rfl) ?_
 refine .v (f_binI (by rfl) (quo_ok (by decide)) (by rfl)) rfl (.c rfl (.c rfl .nil)) .nil ?_
 obtain ⟨x1, hx2, h⟩ := bind_some h
 obtain ⟨hx3, hx2⟩ := rd_some hx2
 refine .v (f_indexO (by rfl) ar23 rfl hx3 (rd_map _ hx2)) rfl (.c rfl (.c rfl .nil)) (.cons rfl .nil) ?_
 refine .v (f_load (n := 0) (o := 2) (off := (0 + ((IntKind.i64.wrap (Int.tdiv a1 (8 : Int)))).toNat * 1)) (p := [((IntKind.i64.wrap (Int.tdiv a1 (8 : Int)))).toNat]) (c := .d (eA22 a0)) (z := .d (.val (.int .u8 x1))) (by rfl) (at_map _ hx2 (by simp)) ty5 (by rfl)) rfl (.c rfl .nil) (.cons rfl .nil) ?_
 refine .as rfl (by rfl) ?_
 refine .nil (aq_then ?_)
 refine aw_seq ?_
 refine aw_rs ?_
 refine .as rfl (by rfl) ?_
 refine .nil (aq_then ?_)
 refine aw_block ?_
 refine aw_weak (s' := ⟨[(1, .d (.val (.int .i64 a1))), (5, .d (.val (.int .u8 x1))), (6, .d (.val (.int .i64 (7 : Int))))], [], []⟩) id hb0 (.keep rfl (.keep rfl (.keep rfl .nil))) .nil rfl (by rfl) ?_
 obtain ⟨o5, ho6, h⟩ := bind_some h
 refine aw_loopX (σ := Int × Int) (fun z => ⟨[(1, .d (.val (.int .i64 a1))), (5, .d (.val (.int .u8 z.1))), (6, .d (.val (.int .i64 z.2)))], [], []⟩) (fun _ => (.exit 0)) (fun (o5 : Int) => ⟨[(5, .d (.val (.int .u8 o5)))], [], []⟩) ho6 (fun _ => rfl) ?_ ?_
 · clear h ho6
   rintro ⟨z0_0, z0_1⟩ o h
   change F152_beadrollref04_At_s0 a1 z0_0 z0_1 = some o at h
   unfold F152_beadrollref04_At_s0 at h
   show AW _ _ _ ⟨[(1, .d (.val (.int .i64 a1))), (5, .d (.val (.int .u8 z0_0))), (6, .d (.val (.int .i64 z0_1)))], [], []⟩
   refine aw_seq ?_
   refine aw_rs ?_
   refine .mv rfl (by rfl) ?_
   refine .mv rfl (by rfl) ?_
   refine .v (f_binI (by rfl) (rem_ok (by decide)) (by rfl)) rfl (.c rfl (.c rfl .nil)) .nil ?_
   refine .v (f_binI (by rfl) rfl (by rfl)) rfl (.c rfl (.c rfl .nil)) .nil ?_
   refine .nil (aq_then ?_)
   refine aw_cond rfl (fun hc4 => ?_) (fun hc4 => ?_)
   · replace h := ite_t hc4 h
     refine aw_skip ?_
     refine aq_then ?_
     refine aw_seq ?_
     refine aw_block ?_
     refine aw_r ?_
     refine .mv rfl (by rfl) ?_
     refine .v (f_binI (by rfl) (quo_ok (by decide)) (by rfl)) rfl (.c rfl (.c rfl .nil)) .nil ?_
     refine .as rfl (by rfl) ?_
     refine .nil ?_
     refine aq_block ?_
     refine aq_then ?_
     refine aw_r ?_
     refine .mv rfl (by rfl) ?_
     refine .v (f_binI (by rfl) rfl (by rfl)) rfl (.c rfl (.c rfl .nil)) .nil ?_
     refine .as rfl (by rfl) ?_
     refine .nil ?_
     obtain rfl := Option.some.inj h
     refine aq_weak (s' := ⟨[(1, .d (.val (.int .i64 a1))), (5, .d (.val (.int .u8 (IntKind.u8.wrap (Int.tdiv z0_0 (2 : Int)))))), (6, .d (.val (.int .i64 (IntKind.i64.wrap (z0_1 - (1 : Int))))))], [], []⟩) id hb0 (.keep rfl (.keep rfl (.keep rfl .nil))) .nil rfl (by rfl) ?_
     exact jq
   replace h := ite_f hc4 h
   refine aw_exit ?_
   refine aq_then_exit ?_
   obtain rfl := Option.some.inj h
   refine aq_weak (s' := ⟨[(5, .d (.val (.int .u8 z0_0)))], [], []⟩) id hb0 (.keep rfl .nil) .nil rfl (by rfl) ?_
   exact jq
 refine aq_block_exit ?_
 refine aq_then ?_
 refine aw_rs ?_
 refine .mv rfl (by rfl) ?_
 refine .v (f_binI (by rfl) (rem_ok (by decide)) (by rfl)) rfl (.c rfl (.c rfl .nil)) .nil ?_
 refine .as rfl (by rfl) ?_
 refine .nil (aq_then ?_)
 refine aw_ret ?_
 obtain rfl := Option.some.inj h
 exact aq_finp hb0 rfl (.tmp rfl (by rfl) .nil) (by rfl) rfl ⟨rfl, rfl⟩

/- 151: beadroll/beadrollref04.Shared -/
def F151_beadrollref04_Shared_s0 (n : Nat) (a0 : (List Int)) (a1 : (List Int)) (z0_0 : Int) : Option ((Int) ⊕ (Int)) :=
  (((if (decide (z0_0 < (256 : Int))) = true then ((F152_beadrollref04_At n a0 z0_0).bind fun (y2 : Int) => ((F152_beadrollref04_At n a1 z0_0).bind fun (y4 : Int) => some (y2 == y4))) else some false)).bind fun (o6 : Bool) => (if o6 = true then some (.inl (IntKind.i64.wrap (z0_0 + (1 : Int)))) else some (.inr z0_0)))
def F151_beadrollref04_Shared (n : Nat) (a0 : (List Int)) (a1 : (List Int)) : Option (Int) :=
  ((loopF (fun (z : Int) => F151_beadrollref04_Shared_s0 n a0 a1 z) n (0 : Int)).bind fun (o9 : Int) => some o9)
theorem F151_beadrollref04_Shared_ok {n : Nat} {a0 : (List Int)} {a1 : (List Int)} {r : Int} (h : F151_beadrollref04_Shared n a0 a1 = some r) :
    ACall Tryd.prog GS 151 [.d (eA22 a0), .d (eA22 a1)] [] (fun r' hp' => r' = .d (.val (.int .i64 r)) ∧ hp' = []) := by
 refine acall_of_body mixed Tryd.func151 rfl (by rfl) ?_
 intro C hro hgl hb0
 unfold F151_beadrollref04_Shared at h
 refine aw_rs ?_
 refine .n (f_box 2 (by rfl) (by rfl)) rfl (.c rfl .nil) rfl ?_
 refine .n (f_box 3 (by rfl) (by rfl)) rfl (.c rfl .nil) rfl ?_
 refine .as rfl (by rfl) ?_
 refine .nil (aq_then ?_)
 refine aw_rs ?_
 refine .as rfl (by rfl) ?_
 refine .nil (aq_then ?_)
 refine aw_seq ?_
 refine aw_block ?_
 refine aw_weak (s' := ⟨[(2, .ptr 2 0 []), (3, .ptr 3 0 []), (5, .d (.val (.int .i64 (0 : Int))))], [(2, .av (.d (eA22 a0))), (3, .av (.d (eA22 a1)))], []⟩) id hb0 (.keep rfl (.keep rfl (.keep rfl .nil))) (.keep rfl (.keep rfl .nil)) rfl (by rfl) ?_
 obtain ⟨o9, ho10, h⟩ := bind_some h
 refine aw_loopX (σ := Int) (fun z => ⟨[(2, .ptr 2 0 []), (3, .ptr 3 0 []), (5, .d (.val (.int .i64 z)))], [(2, .av (.d (eA22 a0))), (3, .av (.d (eA22 a1)))], []⟩) (fun _ => (.exit 0)) (fun (o9 : Int) => ⟨[(5, .d (.val (.int .i64 o9)))], [], []⟩) ho10 (fun _ => rfl) ?_ ?_
 · clear h ho10
   intro z0_0 o h
   change F151_beadrollref04_Shared_s0 n a0 a1 z0_0 = some o at h
   unfold F151_beadrollref04_Shared_s0 at h
   show AW _ _ _ ⟨[(2, .ptr 2 0 []), (3, .ptr 3 0 []), (5, .d (.val (.int .i64 z0_0)))], [(2, .av (.d (eA22 a0))), (3, .av (.d (eA22 a1)))], []⟩
   refine aw_seq ?_
   refine aw_seq ?_
   obtain ⟨o6, ho8, h⟩ := bind_some h
   refine aw_join (.normal) ⟨[(2, .ptr 2 0 []), (3, .ptr 3 0 []), (5, .d (.val (.int .i64 z0_0))), (16, .d (.val (.bool o6)))], [(2, .av (.d (eA22 a0))), (3, .av (.d (eA22 a1)))], []⟩ ?_ ?_
   · replace h := ho8
     refine aw_rd ?_
     refine .v (f_move (by rfl)) rfl (.c rfl .nil) .nil ?_
     refine .v (f_binI (by rfl) rfl (by rfl)) rfl (.c rfl (.c rfl .nil)) .nil ?_
     refine .v (f_move (by rfl)) rfl (.c rfl .nil) .nil ?_
     rcases Bool.eq_false_or_eq_true (decide (z0_0 < (256 : Int))) with hc1 | hc1
     · replace h := ite_t hc1 h
       refine .gv (f_load (n := 0) (o := 2) (off := 0) (p := []) (c := .d (eA22 a0)) (z := .d (eA22 a0)) (by rfl) rfl ty23 (by rfl)) rfl rfl rfl hc1 (.c rfl .nil) (.cons rfl .nil) ?_
       refine .gv (f_move (by rfl)) rfl rfl rfl hc1 (.c rfl .nil) .nil ?_
       obtain ⟨y2, hy3, h⟩ := bind_some h
       refine .gv (f_callP hgl (by rfl) en152 rfl (by rfl) (by rfl) (by rfl) (F152_beadrollref04_At_ok hy3)) rfl rfl rfl hc1 (.c rfl (.c rfl .nil)) .nil ?_
       refine .gv (f_load (n := 0) (o := 3) (off := 0) (p := []) (c := .d (eA22 a1)) (z := .d (eA22 a1)) (by rfl) rfl ty23 (by rfl)) rfl rfl rfl hc1 (.c rfl .nil) (.cons rfl .nil) ?_
       refine .gv (f_move (by rfl)) rfl rfl rfl hc1 (.c rfl .nil) .nil ?_
       obtain ⟨y4, hy5, h⟩ := bind_some h
       refine .gv (f_callP hgl (by rfl) en152 rfl (by rfl) (by rfl) (by rfl) (F152_beadrollref04_At_ok hy5)) rfl rfl rfl hc1 (.c rfl (.c rfl .nil)) .nil ?_
       refine .gv (f_binI (by rfl) rfl (by rfl)) rfl rfl rfl hc1 (.c rfl (.c rfl .nil)) .nil ?_
       refine .v (f_pick_true (by rfl) hc1) rfl (.c rfl (.c rfl .nil)) .nil ?_
       refine .nil (by kernel_rfl) ?_
       obtain rfl := Option.some.inj h
       refine aq_weak (s' := ⟨[(2, .ptr 2 0 []), (3, .ptr 3 0 []), (5, .d (.val (.int .i64 z0_0))), (16, .d (.val (.bool (y2 == y4))))], [(2, .av (.d (eA22 a0))), (3, .av (.d (eA22 a1)))], []⟩) id hb0 (.keep rfl (.keep rfl (.keep rfl (.keep rfl .nil)))) (.keep rfl (.keep rfl .nil)) rfl (by rfl) ?_
       exact jq
     replace h := ite_f hc1 h
     refine .off rfl rfl rfl hc1 rfl (by rfl) ?_
     refine .off rfl rfl rfl hc1 rfl (by rfl) ?_
     refine .off rfl rfl rfl hc1 rfl (by rfl) ?_
     refine .off rfl rfl rfl hc1 rfl (by rfl) ?_
     refine .off rfl rfl rfl hc1 rfl (by rfl) ?_
     refine .off rfl rfl rfl hc1 rfl (by rfl) ?_
     refine .off rfl rfl rfl hc1 rfl (by rfl) ?_
     refine .v (f_pick_false (by rfl) hc1) rfl (.c rfl (.c rfl .nil)) .nil ?_
     refine .nil (by kernel_rfl) ?_
     obtain rfl := Option.some.inj h
     refine aq_weak (s' := ⟨[(2, .ptr 2 0 []), (3, .ptr 3 0 []), (5, .d (.val (.int .i64 z0_0))), (16, .d (.val (.bool false)))], [(2, .av (.d (eA22 a0))), (3, .av (.d (eA22 a1)))], []⟩) id hb0 (.keep rfl (.keep rfl (.keep rfl (.keep rfl .nil)))) (.keep rfl (.keep rfl .nil)) rfl (by rfl) ?_
     exact jq
   refine aq_then ?_
   refine aw_cond rfl (fun hc7 => ?_) (fun hc7 => ?_)
   · replace h := ite_t hc7 h
     refine aw_skip ?_
     refine aq_then ?_
     refine aw_block ?_
     refine aw_r ?_
     refine .mv rfl (by rfl) ?_
     refine .v (f_binI (by rfl) rfl (by rfl)) rfl (.c rfl (.c rfl .nil)) .nil ?_
     refine .as rfl (by rfl) ?_
     refine .nil ?_
     refine aq_block ?_
     obtain rfl := Option.some.inj h
     refine aq_weak (s' := ⟨[(2, .ptr 2 0 []), (3, .ptr 3 0 []), (5, .d (.val (.int .i64 (IntKind.i64.wrap (z0_0 + (1 : Int))))))], [(2, .av (.d (eA22 a0))), (3, .av (.d (eA22 a1)))], []⟩) id hb0 (.keep rfl (.keep rfl (.keep rfl .nil))) (.keep rfl (.keep rfl .nil)) rfl (by rfl) ?_
     exact jq
   replace h := ite_f hc7 h
   refine aw_exit ?_
   refine aq_then_exit ?_
   obtain rfl := Option.some.inj h
   refine aq_weak (s' := ⟨[(5, .d (.val (.int .i64 z0_0)))], [], []⟩) id hb0 (.keep rfl .nil) .nil rfl (by rfl) ?_
   exact jq
 refine aq_block_exit ?_
 refine aq_then ?_
 refine aw_rs ?_
 refine .mv rfl (by rfl) ?_
 refine .as rfl (by rfl) ?_
 refine .nil (aq_then ?_)
 refine aw_ret ?_
 obtain rfl := Option.some.inj h
 exact aq_finp hb0 rfl (.tmp rfl (by rfl) .nil) (by rfl) rfl ⟨rfl, rfl⟩

/- 144: beadroll/beadrollref03.One -/
def F144_beadrollref03_One (n : Nat) (a0 : Int) (a1 : (List Int)) : Option ((List Int)) :=
  ((F161_beadrollref03_Of n a0 ([a1] : List (List Int))).bind fun (y1 : (List Int)) => some y1)
theorem F144_beadrollref03_One_ok {n : Nat} {a0 : Int} {a1 : (List Int)} {r : (List Int)} (h : F144_beadrollref03_One n a0 a1 = some r) :
    ACall Tryd.prog GS 144 [.d (.val (.int .u8 a0)), .d (eL139 a1)] [] (fun r' hp' => r' = .d (eA22 r) ∧ hp' = []) := by
 refine acall_of_body mixed Tryd.func144 rfl (by rfl) ?_
 intro C hro hgl hb0
 unfold F144_beadrollref03_One at h
 refine aw_rs ?_
 refine .n (f_alloc 4 (by rfl) zr23) rfl .nil rfl ?_
 refine .nil (aq_then ?_)
 refine aw_rs ?_
 refine .mv rfl (by rfl) ?_
 refine .mv rfl (by rfl) ?_
 refine .n (f_buildS (xs := [(0, .d (eL139 a1))]) (z := (.val (.slice none 0 0))) (zs := (([a1] : List (List Int))).map eL139) 1015 (by rfl) el180 zel180 (by rfl) (by decide) (by decide) rfl (by rfl) ⟨_, _, _, rfl, pl180_0, rfl, rfl, trivial⟩ (by rfl)) rfl (.c rfl .nil) rfl ?_
 obtain ⟨y1, hy2, h⟩ := bind_some h
 refine .w (f_callH0 (xs := [.d (.val (.int .u8 a0)), .slc 1015 0 ((([a1] : List (List Int))).length) 1]) (r := .d (eA22 y1)) (hr := []) (fun i => i) [(1015, (.arr 1 ((([a1] : List (List Int))).length) ((([a1] : List (List Int))).map eL139)))] hgl (by rfl) (cal_f en161) rfl (by rfl) (by rfl) (by rfl) (by rfl) (by rfl) (.cons (.same _) (.cons (.whole (.head _)) .nil)) rfl rfl (fl_eA22 _) trivial (F161_beadrollref03_Of_ok hy2)) rfl (.c rfl (.c rfl .nil)) (.cons rfl .nil) .nil ?_
 refine .s (f_store (n := 0) (o := 4) (off := 0) (p := []) (c := .d (eA22 (List.replicate 32 (0 : Int)))) (old := .d (eA22 (List.replicate 32 (0 : Int)))) (z := .d (eA22 y1)) (c' := .d (eA22 y1)) rfl rfl (by rfl) ty23 (by rfl)) rfl (.c rfl (.c rfl .nil)) (.cons rfl .nil) ?_
 refine .nil (aq_then ?_)
 refine aw_ret ?_
 obtain rfl := Option.some.inj h
 exact aq_finp hb0 rfl (.cell rfl rfl ty23 (by rfl) .nil) (by rfl) rfl ⟨rfl, rfl⟩

/- 146: beadroll/beadrollref10.Key -/
def F146_beadrollref10_Key (n : Nat) (a0 : (List Int)) : Option ((List Int)) :=
  ((F144_beadrollref03_One n (3 : Int) a0).bind fun (y1 : (List Int)) => some y1)
theorem F146_beadrollref10_Key_ok {n : Nat} {a0 : (List Int)} {r : (List Int)} (h : F146_beadrollref10_Key n a0 = some r) :
    ACall Tryd.prog GS 146 [.d (eA22 a0)] [] (fun r' hp' => r' = .d (eA22 r) ∧ hp' = []) := by
 refine acall_of_body mixed Tryd.func146 rfl (by rfl) ?_
 intro C hro hgl hb0
 unfold F146_beadrollref10_Key at h
 refine aw_rs ?_
 refine .n (f_box 1 (by rfl) (by rfl)) rfl (.c rfl .nil) rfl ?_
 refine .n (f_alloc 2 (by rfl) zr23) rfl .nil rfl ?_
 refine .nil (aq_then ?_)
 refine aw_rs ?_
 refine .v (f_sliceA (by rfl) ar23) rfl (.c rfl .nil) (.cons rfl .nil) ?_
 obtain ⟨y1, hy2, h⟩ := bind_some h
 refine .w (f_callH0 (xs := [.d (.val (.int .u8 (3 : Int))), .slc 1 0 32 1]) (r := .d (eA22 y1)) (hr := []) (fun i => i) [(1, (eA22 a0))] hgl (by rfl) (cal_f en144) rfl (by rfl) (by rfl) (by rfl) (by rfl) (by rfl) (.cons (.same _) (.cons (.whole (.head _)) .nil)) rfl rfl (fl_eA22 _) trivial (F144_beadrollref03_One_ok hy2)) rfl (.c rfl (.c rfl .nil)) (.cons rfl .nil) .nil ?_
 refine .s (f_store (n := 0) (o := 2) (off := 0) (p := []) (c := .d (eA22 (List.replicate 32 (0 : Int)))) (old := .d (eA22 (List.replicate 32 (0 : Int)))) (z := .d (eA22 y1)) (c' := .d (eA22 y1)) rfl rfl (by rfl) ty23 (by rfl)) rfl (.c rfl (.c rfl .nil)) (.cons rfl .nil) ?_
 refine .nil (aq_then ?_)
 refine aw_ret ?_
 obtain rfl := Option.some.inj h
 exact aq_finp hb0 rfl (.cell rfl rfl ty23 (by rfl) .nil) (by rfl) rfl ⟨rfl, rfl⟩

/- 145: beadroll/beadrollref11.Body -/
def F145_beadrollref11_Body (n : Nat) (a0 : GTx) : Option ((List Int)) :=
  (if (a0.Pub).length ≤ 1073741824 then (if ((a0.Pub ++ a0.To)).length ≤ 1073741824 then ((F162_beadrollref01_Digits n a0.Nonce (8 : Int)).bind fun (y3 : (List Int) × Bool) => ((F162_beadrollref01_Digits n a0.Amount (8 : Int)).bind fun (y5 : (List Int) × Bool) => ((F162_beadrollref01_Digits n a0.Fee (8 : Int)).bind fun (y7 : (List Int) × Bool) => (if (((a0.Pub ++ a0.To) ++ y3.1)).length ≤ 1073741824 then (if ((((a0.Pub ++ a0.To) ++ y3.1) ++ y5.1)).length ≤ 1073741824 then (if (((((a0.Pub ++ a0.To) ++ y3.1) ++ y5.1) ++ y7.1)).length ≤ 1073741824 then some ((((a0.Pub ++ a0.To) ++ y3.1) ++ y5.1) ++ y7.1) else none) else none) else none)))) else none) else none)
theorem F145_beadrollref11_Body_ok {n : Nat} {a0 : GTx} {r : (List Int)} (h : F145_beadrollref11_Body n a0 = some r) :
    ACall Tryd.prog GS 145 [.d (eGTx a0)] [] (fun r' hp' => r' = .d (eL139 r) ∧ hp' = []) := by
 refine acall_of_body mixed Tryd.func145 rfl (by rfl) ?_
 intro C hro hgl hb0
 unfold F145_beadrollref11_Body at h
 refine aw_rs ?_
 refine .n (f_box 1 (by rfl) (by rfl)) rfl (.c rfl .nil) rfl ?_
 refine .as rfl (by rfl) ?_
 refine .nil (aq_then ?_)
 refine aw_rs ?_
 refine .as rfl (by rfl) ?_
 refine .nil (aq_then ?_)
 refine aw_rs ?_
 refine .mv rfl (by rfl) ?_
 refine .v (f_fieldAddr (n := 0) (by rfl) fl36_0 (by decide)) rfl (.c rfl .nil) .nil ?_
 refine .v (f_sliceP (p := [0]) (c := .d (eGTx a0)) (off := (0 + 0)) (xs := (a0.Pub).map eI_u8) (k := (0 + 0)) (by rfl) ar23 rfl (by simp)) rfl (.c rfl .nil) (.cons rfl .nil) ?_
 obtain ⟨hb1, h⟩ := ifp h
 refine .w (f_appendN (m := (a0.Pub).length) (ys := (a0.Pub : List Int).map eI_u8) 1016 (by rfl) el139 (by simp) (Nat.le_trans (Nat.mul_le_mul_right _ hb1) (by decide)) (Nat.le_trans hb1 (by decide)) (srcP (p := [0]) (c := .d (eGTx a0)) (off := (0 + 0)) rfl (by simp))) rfl (.c rfl (.c rfl .nil)) (.cons rfl .nil) (.cons rfl .nil) ?_
 refine .as rfl (by rfl) ?_
 refine .nil (aq_then ?_)
 refine aw_rs ?_
 refine .mv rfl (by rfl) ?_
 refine .v (f_fieldAddr (n := 32) (by rfl) fl36_1 (by decide)) rfl (.c rfl .nil) .nil ?_
 refine .v (f_sliceP (p := [1]) (c := .d (eGTx a0)) (off := (0 + 32)) (xs := (a0.To).map eI_u8) (k := (0 + 32)) (by rfl) ar23 rfl (by simp)) rfl (.c rfl .nil) (.cons rfl .nil) ?_
 obtain ⟨hb2, h⟩ := ifp h
 refine .w (f_appendC (m := ((a0.Pub ++ a0.To)).length) (ys := (a0.To : List Int).map eI_u8) (xs := (a0.Pub).map eI_u8) (zs := ((a0.Pub ++ a0.To)).map eI_u8) 1017 (by rfl) el139 (by simp) (by simp) (by simp [List.map_drop]) (by simp) (Nat.le_trans (Nat.mul_le_mul_right _ hb2) (by decide)) (Nat.le_trans hb2 (by decide)) (srcP (p := [1]) (c := .d (eGTx a0)) (off := (0 + 32)) rfl (by simp))) rfl (.c rfl (.c rfl .nil)) (.cons rfl (.cons rfl .nil)) (.cons rfl .nil) ?_
 refine .as rfl (by rfl) ?_
 refine .nil (aq_then ?_)
 refine aw_rs ?_
 refine .v (f_fieldAddr (n := 64) (by rfl) fl36_2 (by decide)) rfl (.c rfl .nil) .nil ?_
 refine .v (f_load (n := 0) (o := 1) (off := (0 + 64)) (p := [2]) (c := .d (eGTx a0)) (z := .d (.val (.int .u64 a0.Nonce))) (by rfl) rfl ty27 (by rfl)) rfl (.c rfl .nil) (.cons rfl .nil) ?_
 obtain ⟨y3, hy4, h⟩ := bind_some h
 refine .v (f_callP hgl (by rfl) en162 rfl (by rfl) (by rfl) (by rfl) (F162_beadrollref01_Digits_ok hy4)) rfl (.c rfl (.c rfl .nil)) .nil ?_
 refine .mv rfl (by rfl) ?_
 refine .v (f_extract (by rfl) rfl) rfl (.c rfl .nil) .nil ?_
 refine .v (f_extract (by rfl) rfl) rfl (.c rfl .nil) .nil ?_
 refine .as rfl (by rfl) ?_
 refine .as rfl (by rfl) ?_
 refine .nil (aq_then ?_)
 refine aw_rs ?_
 refine .v (f_fieldAddr (n := 65) (by rfl) fl36_3 (by decide)) rfl (.c rfl .nil) .nil ?_
 refine .v (f_load (n := 0) (o := 1) (off := (0 + 65)) (p := [3]) (c := .d (eGTx a0)) (z := .d (.val (.int .u64 a0.Amount))) (by rfl) rfl ty27 (by rfl)) rfl (.c rfl .nil) (.cons rfl .nil) ?_
 obtain ⟨y5, hy6, h⟩ := bind_some h
 refine .v (f_callP hgl (by rfl) en162 rfl (by rfl) (by rfl) (by rfl) (F162_beadrollref01_Digits_ok hy6)) rfl (.c rfl (.c rfl .nil)) .nil ?_
 refine .mv rfl (by rfl) ?_
 refine .v (f_extract (by rfl) rfl) rfl (.c rfl .nil) .nil ?_
 refine .v (f_extract (by rfl) rfl) rfl (.c rfl .nil) .nil ?_
 refine .as rfl (by rfl) ?_
 refine .as rfl (by rfl) ?_
 refine .nil (aq_then ?_)
 refine aw_rs ?_
 refine .v (f_fieldAddr (n := 66) (by rfl) fl36_4 (by decide)) rfl (.c rfl .nil) .nil ?_
 refine .v (f_load (n := 0) (o := 1) (off := (0 + 66)) (p := [4]) (c := .d (eGTx a0)) (z := .d (.val (.int .u64 a0.Fee))) (by rfl) rfl ty27 (by rfl)) rfl (.c rfl .nil) (.cons rfl .nil) ?_
 obtain ⟨y7, hy8, h⟩ := bind_some h
 refine .v (f_callP hgl (by rfl) en162 rfl (by rfl) (by rfl) (by rfl) (F162_beadrollref01_Digits_ok hy8)) rfl (.c rfl (.c rfl .nil)) .nil ?_
 refine .mv rfl (by rfl) ?_
 refine .v (f_extract (by rfl) rfl) rfl (.c rfl .nil) .nil ?_
 refine .v (f_extract (by rfl) rfl) rfl (.c rfl .nil) .nil ?_
 refine .as rfl (by rfl) ?_
 refine .as rfl (by rfl) ?_
 refine .nil (aq_then ?_)
 refine aw_rs ?_
 refine .mv rfl (by rfl) ?_
 refine .mv rfl (by rfl) ?_
 obtain ⟨hb9, h⟩ := ifp h
 refine .w (f_appendC (m := (((a0.Pub ++ a0.To) ++ y3.1)).length) (ys := (y3.1 : List Int).map eI_u8) (xs := ((a0.Pub ++ a0.To)).map eI_u8) (zs := (((a0.Pub ++ a0.To) ++ y3.1)).map eI_u8) 1018 (by rfl) el139 (by simp) (by simp) (by simp [List.map_drop]) (by simp) (Nat.le_trans (Nat.mul_le_mul_right _ hb9) (by decide)) (Nat.le_trans hb9 (by decide)) srcD) rfl (.c rfl (.c rfl .nil)) (.cons rfl .nil) (.cons rfl .nil) ?_
 refine .as rfl (by rfl) ?_
 refine .nil (aq_then ?_)
 refine aw_rs ?_
 refine .mv rfl (by rfl) ?_
 refine .mv rfl (by rfl) ?_
 obtain ⟨hb10, h⟩ := ifp h
 refine .w (f_appendC (m := ((((a0.Pub ++ a0.To) ++ y3.1) ++ y5.1)).length) (ys := (y5.1 : List Int).map eI_u8) (xs := (((a0.Pub ++ a0.To) ++ y3.1)).map eI_u8) (zs := ((((a0.Pub ++ a0.To) ++ y3.1) ++ y5.1)).map eI_u8) 1019 (by rfl) el139 (by simp) (by simp) (by simp [List.map_drop]) (by simp) (Nat.le_trans (Nat.mul_le_mul_right _ hb10) (by decide)) (Nat.le_trans hb10 (by decide)) srcD) rfl (.c rfl (.c rfl .nil)) (.cons rfl .nil) (.cons rfl .nil) ?_
 refine .as rfl (by rfl) ?_
 refine .nil (aq_then ?_)
 refine aw_rs ?_
 refine .mv rfl (by rfl) ?_
 refine .mv rfl (by rfl) ?_
 obtain ⟨hb11, h⟩ := ifp h
 refine .w (f_appendC (m := (((((a0.Pub ++ a0.To) ++ y3.1) ++ y5.1) ++ y7.1)).length) (ys := (y7.1 : List Int).map eI_u8) (xs := ((((a0.Pub ++ a0.To) ++ y3.1) ++ y5.1)).map eI_u8) (zs := (((((a0.Pub ++ a0.To) ++ y3.1) ++ y5.1) ++ y7.1)).map eI_u8) 1020 (by rfl) el139 (by simp) (by simp) (by simp [List.map_drop]) (by simp) (Nat.le_trans (Nat.mul_le_mul_right _ hb11) (by decide)) (Nat.le_trans hb11 (by decide)) srcD) rfl (.c rfl (.c rfl .nil)) (.cons rfl .nil) (.cons rfl .nil) ?_
 refine .as rfl (by rfl) ?_
 refine .nil (aq_then ?_)
 refine aw_ret ?_
 obtain rfl := Option.some.inj h
 refine aq_freeze [(1020, (.arr 1 ((((((a0.Pub ++ a0.To) ++ y3.1) ++ y5.1) ++ y7.1)).length) ((((((a0.Pub ++ a0.To) ++ y3.1) ++ y5.1) ++ y7.1)).map eI_u8)))] [(2, .d (eL139 ((((a0.Pub ++ a0.To) ++ y3.1) ++ y5.1) ++ y7.1)))] (.cons rfl .nil) (.cons rfl (.whole (.head _)) .nil) ?_
 exact aq_finp hb0 rfl (.tmp rfl (by rfl) .nil) (by rfl) rfl ⟨rfl, rfl⟩

/- 143: beadroll/num.Put -/
def F143_num_Put_s0 (a0 : Int) (a1 : Int) (z0_0 : Int) (z0_1 : List Int) : Option ((Int × List Int) ⊕ (List Int)) :=
  (if (decide (z0_0 < a1)) = true then (if 0 ≤ (IntKind.i64.wrap ((8 : Int) * z0_0)) then ((rd z0_1 (IntKind.i64.wrap ((IntKind.i64.wrap (a1 - (1 : Int))) - z0_0))).bind fun (x11 : Int) => some (.inl ((IntKind.i64.wrap (z0_0 + (1 : Int))), (z0_1.set (0 + ((IntKind.i64.wrap ((IntKind.i64.wrap (a1 - (1 : Int))) - z0_0))).toNat) (IntKind.u8.wrap (shr .u64 a0 (IntKind.i64.wrap ((8 : Int) * z0_0)))))))) else none) else some (.inr z0_1))
def F143_num_Put (n : Nat) (a0 : Int) (a1 : Int) : Option ((List Int) × Int) :=
  (((if (decide (a1 < (1 : Int))) = true then some true else some (decide (a1 > (8 : Int))))).bind fun (o2 : Bool) => (if o2 = true then some ([], (2 : Int)) else (((if (decide (a1 < (8 : Int))) = true then (if 0 ≤ (IntKind.i64.wrap ((8 : Int) * a1)) then some (decide ((shr .u64 a0 (IntKind.i64.wrap ((8 : Int) * a1))) > (0 : Int))) else none) else some false)).bind fun (o6 : Bool) => (if o6 = true then some ([], (4 : Int)) else (if 0 ≤ a1 ∧ a1 ≤ 1073741824 then ((loopF (fun (z : Int × List Int) => F143_num_Put_s0 a0 a1 z.1 z.2) n ((0 : Int), (List.replicate (a1).toNat (0 : Int)))).bind fun (o14 : List Int) => some (o14, (0 : Int))) else none)))))
theorem F143_num_Put_ok {n : Nat} {a0 : Int} {a1 : Int} {r : (List Int) × Int} (h : F143_num_Put n a0 a1 = some r) :
    ACall Tryd.prog GS 143 [.d (.val (.int .u64 a0)), .d (.val (.int .i64 a1))] [] (fun r' hp' => r' = .res [.d (eL139 r.1), .d (.val (.int .i64 r.2))] ∧ hp' = []) := by
 refine acall_of_body mixed Tryd.func143 rfl (by rfl) ?_
 intro C hro hgl hb0
 unfold F143_num_Put at h
 refine aw_rs ?_
 refine .as rfl (by rfl) ?_
 refine .as rfl (by rfl) ?_
 refine .nil (aq_then ?_)
 refine aw_seq ?_
 refine aw_block ?_
 refine aw_seq ?_
 obtain ⟨o2, ho17, h⟩ := bind_some h
 refine aw_join (.normal) ⟨[(0, .d (.val (.int .u64 a0))), (1, .d (.val (.int .i64 a1))), (8, .d (.val (.bool o2)))], [], []⟩ ?_ ?_
 · replace h := ho17
   refine aw_r ?_
   refine .mv rfl (by rfl) ?_
   refine .v (f_binI (by rfl) rfl (by rfl)) rfl (.c rfl (.c rfl .nil)) .nil ?_
   refine .mv rfl (by rfl) ?_
   rcases Bool.eq_false_or_eq_true (decide (a1 < (1 : Int))) with hc1 | hc1
   · replace h := ite_t hc1 h
     refine .off rfl rfl rfl hc1 rfl (by rfl) ?_
     refine .off rfl rfl rfl hc1 rfl (by rfl) ?_
     refine .v (f_pick_true (by rfl) hc1) rfl (.c rfl (.c rfl .nil)) .nil ?_
     refine .as rfl (by rfl) ?_
     refine .nil ?_
     obtain rfl := Option.some.inj h
     refine aq_weak (s' := ⟨[(0, .d (.val (.int .u64 a0))), (1, .d (.val (.int .i64 a1))), (8, .d (.val (.bool true)))], [], []⟩) id hb0 (.keep rfl (.keep rfl (.keep rfl .nil))) .nil rfl (by rfl) ?_
     exact jq
   replace h := ite_f hc1 h
   refine .gv (f_move (by rfl)) rfl rfl rfl hc1 (.c rfl .nil) .nil ?_
   refine .gv (f_binI (by rfl) rfl (by rfl)) rfl rfl rfl hc1 (.c rfl (.c rfl .nil)) .nil ?_
   refine .v (f_pick_false (by rfl) hc1) rfl (.c rfl (.c rfl .nil)) .nil ?_
   refine .as rfl (by rfl) ?_
   refine .nil ?_
   obtain rfl := Option.some.inj h
   refine aq_weak (s' := ⟨[(0, .d (.val (.int .u64 a0))), (1, .d (.val (.int .i64 a1))), (8, .d (.val (.bool (decide (a1 > (8 : Int))))))], [], []⟩) id hb0 (.keep rfl (.keep rfl (.keep rfl .nil))) .nil rfl (by rfl) ?_
   exact jq
 refine aq_then ?_
 refine aw_cond rfl (fun hc3 => ?_) (fun hc3 => ?_)
 · replace h := ite_t hc3 h
   refine aw_rs ?_
   refine .as rfl (by rfl) ?_
   refine .as rfl (by rfl) ?_
   refine .nil (aq_then ?_)
   refine aw_ret ?_
   refine aq_block_ret ?_
   refine aq_then_ret ?_
   obtain rfl := Option.some.inj h
   refine aq_freeze [] [(4, .d (eL139 ([]))), (5, .d (.val (.int .i64 (2 : Int))))] .nil (.cons rfl .nil (.keep rfl .nil)) ?_
   exact aq_finp hb0 rfl (.tmp rfl (by rfl) (.tmp rfl (by rfl) .nil)) (by rfl) rfl ⟨rfl, rfl⟩
 replace h := ite_f hc3 h
 refine aw_seq ?_
 obtain ⟨o6, ho16, h⟩ := bind_some h
 refine aw_join (.normal) ⟨[(0, .d (.val (.int .u64 a0))), (1, .d (.val (.int .i64 a1))), (15, .d (.val (.bool o6)))], [], []⟩ ?_ ?_
 · replace h := ho16
   refine aw_r ?_
   refine .mv rfl (by rfl) ?_
   refine .v (f_binI (by rfl) rfl (by rfl)) rfl (.c rfl (.c rfl .nil)) .nil ?_
   refine .mv rfl (by rfl) ?_
   rcases Bool.eq_false_or_eq_true (decide (a1 < (8 : Int))) with hc4 | hc4
   · replace h := ite_t hc4 h
     refine .gv (f_move (by rfl)) rfl rfl rfl hc4 (.c rfl .nil) .nil ?_
     refine .gv (f_move (by rfl)) rfl rfl rfl hc4 (.c rfl .nil) .nil ?_
     refine .gv (f_binI (by rfl) rfl (by rfl)) rfl rfl rfl hc4 (.c rfl (.c rfl .nil)) .nil ?_
     obtain ⟨hz5, h⟩ := ifp h
     refine .gv (f_shift (by rfl) (shr_ok hz5) (by rfl)) rfl rfl rfl hc4 (.c rfl (.c rfl .nil)) .nil ?_
     refine .gv (f_binI (by rfl) rfl (by rfl)) rfl rfl rfl hc4 (.c rfl (.c rfl .nil)) .nil ?_
     refine .v (f_pick_true (by rfl) hc4) rfl (.c rfl (.c rfl .nil)) .nil ?_
     refine .as rfl (by rfl) ?_
     refine .nil ?_
     obtain rfl := Option.some.inj h
     refine aq_weak (s' := ⟨[(0, .d (.val (.int .u64 a0))), (1, .d (.val (.int .i64 a1))), (15, .d (.val (.bool (decide ((shr .u64 a0 (IntKind.i64.wrap ((8 : Int) * a1))) > (0 : Int))))))], [], []⟩) id hb0 (.keep rfl (.keep rfl (.keep rfl .nil))) .nil rfl (by rfl) ?_
     exact jq
   replace h := ite_f hc4 h
   refine .off rfl rfl rfl hc4 rfl (by rfl) ?_
   refine .off rfl rfl rfl hc4 rfl (by rfl) ?_
   refine .off rfl rfl rfl hc4 rfl (by rfl) ?_
   refine .off rfl rfl rfl hc4 rfl (by rfl) ?_
   refine .off rfl rfl rfl hc4 rfl (by rfl) ?_
   refine .v (f_pick_false (by rfl) hc4) rfl (.c rfl (.c rfl .nil)) .nil ?_
   refine .as rfl (by rfl) ?_
   refine .nil ?_
   obtain rfl := Option.some.inj h
   refine aq_weak (s' := ⟨[(0, .d (.val (.int .u64 a0))), (1, .d (.val (.int .i64 a1))), (15, .d (.val (.bool false)))], [], []⟩) id hb0 (.keep rfl (.keep rfl (.keep rfl .nil))) .nil rfl (by rfl) ?_
   exact jq
 refine aq_then ?_
 refine aw_cond rfl (fun hc7 => ?_) (fun hc7 => ?_)
 · replace h := ite_t hc7 h
   refine aw_rs ?_
   refine .as rfl (by rfl) ?_
   refine .as rfl (by rfl) ?_
   refine .nil (aq_then ?_)
   refine aw_ret ?_
   refine aq_block_ret ?_
   refine aq_then_ret ?_
   obtain rfl := Option.some.inj h
   refine aq_freeze [] [(4, .d (eL139 ([]))), (5, .d (.val (.int .i64 (4 : Int))))] .nil (.cons rfl .nil (.keep rfl .nil)) ?_
   exact aq_finp hb0 rfl (.tmp rfl (by rfl) (.tmp rfl (by rfl) .nil)) (by rfl) rfl ⟨rfl, rfl⟩
 replace h := ite_f hc7 h
 refine aw_skip ?_
 refine aq_block ?_
 refine aq_then ?_
 refine aw_rs ?_
 refine .mv rfl (by rfl) ?_
 obtain ⟨hb8, h⟩ := ifp h
 refine .n (f_makeSE (n := a1) (m := ((List.replicate (a1).toNat (0 : Int))).length) (z := (.val (.int .u8 (0 : Int)))) (zs := ((List.replicate (a1).toNat (0 : Int))).map eI_u8) 1021 (by rfl) el139 zel139 (by rfl) hb8.1 (by omega) (by omega) (by simp) (by simp)) rfl (.c rfl .nil) rfl ?_
 refine .as rfl (by rfl) ?_
 refine .nil (aq_then ?_)
 refine aw_seq ?_
 refine aw_rs ?_
 refine .mv rfl (by rfl) ?_
 refine .mv rfl (by rfl) ?_
 refine .nil (aq_then ?_)
 refine aw_block ?_
 refine aw_weak (s' := ⟨[(0, .d (.val (.int .u64 a0))), (1, .d (.val (.int .i64 a1))), (6, .slc 1021 0 (((List.replicate (a1).toNat (0 : Int))).length) 1), (27, .d (.val (.int .i64 a1))), (28, .d (.val (.int .i64 (0 : Int))))], [(1021, .av (.d (.arr 1 (((List.replicate (a1).toNat (0 : Int))).length) (((List.replicate (a1).toNat (0 : Int))).map eI_u8))))], []⟩) id hb0 (.keep rfl (.keep rfl (.keep rfl (.keep rfl (.keep rfl .nil))))) (.keep rfl .nil) rfl (by rfl) ?_
 obtain ⟨o14, ho15, h⟩ := bind_some h
 refine aw_loopX (σ := Int × List Int) (fun z => ⟨[(0, .d (.val (.int .u64 a0))), (1, .d (.val (.int .i64 a1))), (6, .slc 1021 0 ((z.2).length) 1), (27, .d (.val (.int .i64 a1))), (28, .d (.val (.int .i64 z.1)))], [(1021, .av (.d (.arr 1 ((z.2).length) ((z.2).map eI_u8))))], []⟩) (fun _ => (.exit 1)) (fun (o14 : List Int) => ⟨[(6, .slc 1021 0 ((o14).length) 1)], [(1021, .av (.d (.arr 1 ((o14).length) ((o14).map eI_u8))))], []⟩) ho15 (fun _ => rfl) ?_ ?_
 · clear h ho15
   rintro ⟨z0_0, z0_1⟩ o h
   change F143_num_Put_s0 a0 a1 z0_0 z0_1 = some o at h
   unfold F143_num_Put_s0 at h
   show AW _ _ _ ⟨[(0, .d (.val (.int .u64 a0))), (1, .d (.val (.int .i64 a1))), (6, .slc 1021 0 ((z0_1).length) 1), (27, .d (.val (.int .i64 a1))), (28, .d (.val (.int .i64 z0_0)))], [(1021, .av (.d (.arr 1 ((z0_1).length) ((z0_1).map eI_u8))))], []⟩
   refine aw_rs ?_
   refine .v (f_binI (by rfl) rfl (by rfl)) rfl (.c rfl (.c rfl .nil)) .nil ?_
   refine .nil (aq_then ?_)
   refine aw_seq ?_
   refine aw_cond rfl (fun hc9 => ?_) (fun hc9 => ?_)
   · replace h := ite_t hc9 h
     refine aw_skip ?_
     refine aq_then ?_
     refine aw_seq ?_
     refine aw_block ?_
     refine aw_rs ?_
     refine .mv rfl (by rfl) ?_
     refine .as rfl (by rfl) ?_
     refine .nil (aq_then ?_)
     refine aw_r ?_
     refine .mv rfl (by rfl) ?_
     refine .mv rfl (by rfl) ?_
     refine .v (f_binI (by rfl) rfl (by rfl)) rfl (.c rfl (.c rfl .nil)) .nil ?_
     refine .mv rfl (by rfl) ?_
     refine .v (f_binI (by rfl) rfl (by rfl)) rfl (.c rfl (.c rfl .nil)) .nil ?_
     refine .mv rfl (by rfl) ?_
     refine .mv rfl (by rfl) ?_
     refine .v (f_binI (by rfl) rfl (by rfl)) rfl (.c rfl (.c rfl .nil)) .nil ?_
     obtain ⟨hz10, h⟩ := ifp h
     refine .v (f_shift (by rfl) (shr_ok hz10) (by rfl)) rfl (.c rfl (.c rfl .nil)) .nil ?_
     refine .v (f_convI (by rfl) un27 un5) rfl (.c rfl .nil) .nil ?_
     obtain ⟨x11, hx12, h⟩ := bind_some h
     obtain ⟨hx13, hx12⟩ := rd_some hx12
     refine .v (f_indexSW (by rfl) sl139 hx13 (rd_map _ hx12)) rfl (.c rfl (.c rfl .nil)) (.cons rfl .nil) ?_
     refine .s (f_store (n := 0) (o := 1021) (off := ((0 + ((IntKind.i64.wrap ((IntKind.i64.wrap (a1 - (1 : Int))) - z0_0))).toNat) * 1)) (p := [0 + ((IntKind.i64.wrap ((IntKind.i64.wrap (a1 - (1 : Int))) - z0_0))).toNat]) (c := .d (.arr 1 ((z0_1).length) ((z0_1).map eI_u8))) (old := .d (.val (.int .u8 x11))) (z := .d (.val (.int .u8 (IntKind.u8.wrap (shr .u64 a0 (IntKind.i64.wrap ((8 : Int) * z0_0))))))) (c' := .d (.arr 1 ((z0_1).length) (((z0_1.set (0 + ((IntKind.i64.wrap ((IntKind.i64.wrap (a1 - (1 : Int))) - z0_0))).toNat) (IntKind.u8.wrap (shr .u64 a0 (IntKind.i64.wrap ((8 : Int) * z0_0)))))).map eI_u8))) (at_map _ (by simpa using hx12) rfl) (put_map _ (by simpa using hx12)) (by rfl) ty5 (by rfl)) rfl (.c rfl (.c rfl .nil)) (.cons rfl .nil) ?_
     refine .nil ?_
     refine aq_block ?_
     refine aq_then ?_
     refine aw_r ?_
     refine .v (f_binI (by rfl) rfl (by rfl)) rfl (.c rfl (.c rfl .nil)) .nil ?_
     refine .mv rfl (by rfl) ?_
     refine .nil ?_
     obtain rfl := Option.some.inj h
     refine aq_weak (s' := ⟨[(0, .d (.val (.int .u64 a0))), (1, .d (.val (.int .i64 a1))), (6, .slc 1021 0 (((z0_1.set (0 + ((IntKind.i64.wrap ((IntKind.i64.wrap (a1 - (1 : Int))) - z0_0))).toNat) (IntKind.u8.wrap (shr .u64 a0 (IntKind.i64.wrap ((8 : Int) * z0_0)))))).length) 1), (27, .d (.val (.int .i64 a1))), (28, .d (.val (.int .i64 (IntKind.i64.wrap (z0_0 + (1 : Int))))))], [(1021, .av (.d (.arr 1 (((z0_1.set (0 + ((IntKind.i64.wrap ((IntKind.i64.wrap (a1 - (1 : Int))) - z0_0))).toNat) (IntKind.u8.wrap (shr .u64 a0 (IntKind.i64.wrap ((8 : Int) * z0_0)))))).length) (((z0_1.set (0 + ((IntKind.i64.wrap ((IntKind.i64.wrap (a1 - (1 : Int))) - z0_0))).toNat) (IntKind.u8.wrap (shr .u64 a0 (IntKind.i64.wrap ((8 : Int) * z0_0)))))).map eI_u8))))], []⟩) id hb0 (.keep rfl (.keep rfl (.keep (by simp only [List.length_set]; rfl) (.keep rfl (.keep rfl .nil))))) (.keep (by simp only [List.length_set]; rfl) .nil) rfl (by rfl) ?_
     exact jq
   replace h := ite_f hc9 h
   refine aw_exit ?_
   refine aq_then_exit ?_
   obtain rfl := Option.some.inj h
   refine aq_weak (s' := ⟨[(6, .slc 1021 0 ((z0_1).length) 1)], [(1021, .av (.d (.arr 1 ((z0_1).length) ((z0_1).map eI_u8))))], []⟩) id hb0 (.keep rfl .nil) (.keep rfl .nil) rfl (by rfl) ?_
   exact jq
 refine aq_block_exit ?_
 refine aq_then ?_
 refine aw_rs ?_
 refine .mv rfl (by rfl) ?_
 refine .as rfl (by rfl) ?_
 refine .as rfl (by rfl) ?_
 refine .nil (aq_then ?_)
 refine aw_ret ?_
 obtain rfl := Option.some.inj h
 refine aq_freeze [(1021, (.arr 1 ((o14).length) ((o14).map eI_u8)))] [(4, .d (eL139 o14)), (5, .d (.val (.int .i64 (0 : Int))))] (.cons rfl .nil) (.cons rfl (.whole (.head _)) (.keep rfl .nil)) ?_
 exact aq_finp hb0 rfl (.tmp rfl (by rfl) (.tmp rfl (by rfl) .nil)) (by rfl) rfl ⟨rfl, rfl⟩

/- 142: beadroll/tx.Body$2 -/
def F142_tx_Body_2 (n : Nat) (a0 : Int) : Option ((List Int)) :=
  ((F143_num_Put n a0 (8 : Int)).bind fun (y1 : (List Int) × Int) => some y1.1)
theorem F142_tx_Body_2_ok {n : Nat} {a0 : Int} {r : (List Int)} (h : F142_tx_Body_2 n a0 = some r) :
    ACall Tryd.prog GS 142 [.d (.val (.int .u64 a0))] [] (fun r' hp' => r' = .d (eL139 r) ∧ hp' = []) := by
 refine acall_of_body mixed Tryd.func142 rfl (by rfl) ?_
 intro C hro hgl hb0
 unfold F142_tx_Body_2 at h
 refine aw_rs ?_
 refine .as rfl (by rfl) ?_
 refine .nil (aq_then ?_)
 refine aw_rs ?_
 refine .mv rfl (by rfl) ?_
 obtain ⟨y1, hy2, h⟩ := bind_some h
 refine .v (f_callP hgl (by rfl) en143 rfl (by rfl) (by rfl) (by rfl) (F143_num_Put_ok hy2)) rfl (.c rfl (.c rfl .nil)) .nil ?_
 refine .mv rfl (by rfl) ?_
 refine .v (f_extract (by rfl) rfl) rfl (.c rfl .nil) .nil ?_
 refine .v (f_extract (by rfl) rfl) rfl (.c rfl .nil) .nil ?_
 refine .as rfl (by rfl) ?_
 refine .as rfl (by rfl) ?_
 refine .nil (aq_then ?_)
 refine aw_rs ?_
 refine .mv rfl (by rfl) ?_
 refine .as rfl (by rfl) ?_
 refine .nil (aq_then ?_)
 refine aw_ret ?_
 obtain rfl := Option.some.inj h
 exact aq_finp hb0 rfl (.tmp rfl (by rfl) .nil) (by rfl) rfl ⟨rfl, rfl⟩

/- 140: beadroll/tx.Body$1 -/
def F140_tx_Body_1 (n : Nat) (a0 : (List Int)) : Option ((List Int)) :=
  some a0
theorem F140_tx_Body_1_ok {n : Nat} {a0 : (List Int)} {r : (List Int)} (h : F140_tx_Body_1 n a0 = some r) :
    ACall Tryd.prog GS 140 [.d (eA22 a0)] [] (fun r' hp' => r' = .d (eL139 r) ∧ hp' = []) := by
 refine acall_of_body mixed Tryd.func140 rfl (by rfl) ?_
 intro C hro hgl hb0
 unfold F140_tx_Body_1 at h
 refine aw_rs ?_
 refine .n (f_box 1 (by rfl) (by rfl)) rfl (.c rfl .nil) rfl ?_
 refine .as rfl (by rfl) ?_
 refine .nil (aq_then ?_)
 refine aw_rs ?_
 refine .v (f_sliceA (by rfl) ar23) rfl (.c rfl .nil) (.cons rfl .nil) ?_
 refine .as rfl (by rfl) ?_
 refine .nil (aq_then ?_)
 refine aw_ret ?_
 obtain rfl := Option.some.inj h
 refine aq_freeze [(1, (eA22 a0))] [(2, .d (eL139 a0))] (.cons rfl .nil) (.cons rfl (.whole (.head _)) .nil) ?_
 exact aq_finp hb0 rfl (.tmp rfl (by rfl) .nil) (by rfl) rfl ⟨rfl, rfl⟩

/- 138: beadroll/tag.Bytes -/
def F138_tag_Bytes_s0 (n : Nat) (a1 : (List (List Int))) (z0_0 : Int) (z0_1 : List Int) : Option ((Int × List Int) ⊕ (List Int)) :=
  (if (decide (z0_0 < ((a1).length : Int))) = true then ((rd a1 z0_0).bind fun (x2 : (List Int)) => ((F143_num_Put n (IntKind.u64.wrap (IntKind.u32.wrap ((x2).length : Int))) (4 : Int)).bind fun (y5 : (List Int) × Int) => (if ((z0_1 ++ y5.1)).length ≤ 1073741824 then (if (((z0_1 ++ y5.1) ++ x2)).length ≤ 1073741824 then some (.inl ((IntKind.i64.wrap (z0_0 + (1 : Int))), ((z0_1 ++ y5.1) ++ x2))) else none) else none))) else some (.inr z0_1))
def F138_tag_Bytes (n : Nat) (a0 : Int) (a1 : (List (List Int))) : Option ((List Int)) :=
  ((loopF (fun (z : Int × List Int) => F138_tag_Bytes_s0 n a1 z.1 z.2) n ((0 : Int), ([a0] : List Int))).bind fun (o9 : List Int) => some o9)
theorem F138_tag_Bytes_ok {n : Nat} {a0 : Int} {a1 : (List (List Int))} {r : (List Int)} (h : F138_tag_Bytes n a0 a1 = some r) :
    ACall Tryd.prog GS 138 [.d (.val (.int .u8 a0)), .d (eL180 a1)] [] (fun r' hp' => r' = .d (eL139 r) ∧ hp' = []) := by
 refine acall_of_body mixed Tryd.func138 rfl (by rfl) ?_
 intro C hro hgl hb0
 unfold F138_tag_Bytes at h
 refine aw_rs ?_
 refine .as rfl (by rfl) ?_
 refine .nil (aq_then ?_)
 refine aw_rs ?_
 refine .mv rfl (by rfl) ?_
 refine .n (f_buildS (xs := [(0, .d (.val (.int .u8 a0)))]) (z := (.val (.int .u8 (0 : Int)))) (zs := (([a0] : List Int)).map eI_u8) 1022 (by rfl) el139 zel139 (by rfl) (by decide) (by decide) rfl (by rfl) ⟨_, _, _, rfl, pl139_0, rfl, rfl, trivial⟩ (by rfl)) rfl (.c rfl .nil) rfl ?_
 refine .as rfl (by rfl) ?_
 refine .nil (aq_then ?_)
 refine aw_seq ?_
 refine aw_rs ?_
 refine .mv rfl (by rfl) ?_
 refine .v (f_lenD (n := (a1).length) (by rfl) sl180 rfl (by simp)) rfl (.c rfl .nil) .nil ?_
 refine .mv rfl (by rfl) ?_
 refine .nil (aq_then ?_)
 refine aw_block ?_
 refine aw_weak (s' := ⟨[(5, .slc 1022 0 ((([a0] : List Int)).length) 1), (12, .d (eL180 a1)), (13, .d (.val (.int .i64 ((a1).length : Int)))), (14, .d (.val (.int .i64 (0 : Int))))], [(1022, .av (.d (.arr 1 ((([a0] : List Int)).length) ((([a0] : List Int)).map eI_u8))))], []⟩) id hb0 (.keep rfl (.keep rfl (.keep rfl (.keep rfl .nil)))) (.keep rfl .nil) rfl (by rfl) ?_
 obtain ⟨o9, ho10, h⟩ := bind_some h
 refine aw_loopX (σ := Int × List Int) (fun z => ⟨[(5, .slc 1022 0 ((z.2).length) 1), (12, .d (eL180 a1)), (13, .d (.val (.int .i64 ((a1).length : Int)))), (14, .d (.val (.int .i64 z.1)))], [(1022, .av (.d (.arr 1 ((z.2).length) ((z.2).map eI_u8))))], []⟩) (fun _ => (.exit 0)) (fun (o9 : List Int) => ⟨[(5, .slc 1022 0 ((o9).length) 1)], [(1022, .av (.d (.arr 1 ((o9).length) ((o9).map eI_u8))))], []⟩) ho10 (fun _ => rfl) ?_ ?_
 · clear h ho10
   rintro ⟨z0_0, z0_1⟩ o h
   change F138_tag_Bytes_s0 n a1 z0_0 z0_1 = some o at h
   unfold F138_tag_Bytes_s0 at h
   show AW _ _ _ ⟨[(5, .slc 1022 0 ((z0_1).length) 1), (12, .d (eL180 a1)), (13, .d (.val (.int .i64 ((a1).length : Int)))), (14, .d (.val (.int .i64 z0_0)))], [(1022, .av (.d (.arr 1 ((z0_1).length) ((z0_1).map eI_u8))))], []⟩
   refine aw_rs ?_
   refine .v (f_binI (by rfl) rfl (by rfl)) rfl (.c rfl (.c rfl .nil)) .nil ?_
   refine .nil (aq_then ?_)
   refine aw_seq ?_
   refine aw_cond rfl (fun hc1 => ?_) (fun hc1 => ?_)
   · replace h := ite_t hc1 h
     refine aw_skip ?_
     refine aq_then ?_
     refine aw_seq ?_
     refine aw_block ?_
     refine aw_rs ?_
     obtain ⟨x2, hx3, h⟩ := bind_some h
     obtain ⟨hx4, hx3⟩ := rd_some hx3
     refine .v (f_indexS (by rfl) sl180 hx4 (rd_map _ hx3)) rfl (.c rfl (.c rfl .nil)) .nil ?_
     refine .v (f_loadR (z := (eL139 x2)) (by rfl) ty139) rfl (.c rfl .nil) .nil ?_
     refine .as rfl (by rfl) ?_
     refine .nil (aq_then ?_)
     refine aw_rs ?_
     refine .mv rfl (by rfl) ?_
     refine .v (f_lenD (n := (x2).length) (by rfl) sl139 rfl (by simp)) rfl (.c rfl .nil) .nil ?_
     refine .v (f_convI (by rfl) un3 un208) rfl (.c rfl .nil) .nil ?_
     refine .v (f_convI (by rfl) un208 un27) rfl (.c rfl .nil) .nil ?_
     obtain ⟨y5, hy6, h⟩ := bind_some h
     refine .v (f_callP hgl (by rfl) en143 rfl (by rfl) (by rfl) (by rfl) (F143_num_Put_ok hy6)) rfl (.c rfl (.c rfl .nil)) .nil ?_
     refine .mv rfl (by rfl) ?_
     refine .v (f_extract (by rfl) rfl) rfl (.c rfl .nil) .nil ?_
     refine .v (f_extract (by rfl) rfl) rfl (.c rfl .nil) .nil ?_
     refine .as rfl (by rfl) ?_
     refine .as rfl (by rfl) ?_
     refine .nil (aq_then ?_)
     refine aw_r ?_
     refine .mv rfl (by rfl) ?_
     refine .mv rfl (by rfl) ?_
     obtain ⟨hb7, h⟩ := ifp h
     refine .w (f_appendC (m := ((z0_1 ++ y5.1)).length) (ys := (y5.1 : List Int).map eI_u8) (xs := (z0_1).map eI_u8) (zs := ((z0_1 ++ y5.1)).map eI_u8) 1025 (by rfl) el139 (by simp) (by simp) (by simp [List.map_drop]) (by simp) (Nat.le_trans (Nat.mul_le_mul_right _ hb7) (by decide)) (Nat.le_trans hb7 (by decide)) srcD) rfl (.c rfl (.c rfl .nil)) (.cons rfl .nil) (.cons rfl .nil) ?_
     refine .mv rfl (by rfl) ?_
     obtain ⟨hb8, h⟩ := ifp h
     refine .w (f_appendC (m := (((z0_1 ++ y5.1) ++ x2)).length) (ys := (x2 : List Int).map eI_u8) (xs := ((z0_1 ++ y5.1)).map eI_u8) (zs := (((z0_1 ++ y5.1) ++ x2)).map eI_u8) 1026 (by rfl) el139 (by simp) (by simp) (by simp [List.map_drop]) (by simp) (Nat.le_trans (Nat.mul_le_mul_right _ hb8) (by decide)) (Nat.le_trans hb8 (by decide)) srcD) rfl (.c rfl (.c rfl .nil)) (.cons rfl .nil) (.cons rfl .nil) ?_
     refine .as rfl (by rfl) ?_
     refine .nil ?_
     refine aq_block ?_
     refine aq_then ?_
     refine aw_r ?_
     refine .v (f_binI (by rfl) rfl (by rfl)) rfl (.c rfl (.c rfl .nil)) .nil ?_
     refine .mv rfl (by rfl) ?_
     refine .nil ?_
     obtain rfl := Option.some.inj h
     refine aq_weak (s' := ⟨[(5, .slc 1022 0 ((((z0_1 ++ y5.1) ++ x2)).length) 1), (12, .d (eL180 a1)), (13, .d (.val (.int .i64 ((a1).length : Int)))), (14, .d (.val (.int .i64 (IntKind.i64.wrap (z0_0 + (1 : Int))))))], [(1022, .av (.d (.arr 1 ((((z0_1 ++ y5.1) ++ x2)).length) ((((z0_1 ++ y5.1) ++ x2)).map eI_u8))))], []⟩) (fun i => (bif Nat.beq i 1022 then 1026 else i)) hb0 (.cons rfl (.cons rfl (.cons rfl (.cons rfl .nil)))) (.cons rfl .nil) rfl (by rfl) ?_
     exact jq
   replace h := ite_f hc1 h
   refine aw_exit ?_
   refine aq_then_exit ?_
   obtain rfl := Option.some.inj h
   refine aq_weak (s' := ⟨[(5, .slc 1022 0 ((z0_1).length) 1)], [(1022, .av (.d (.arr 1 ((z0_1).length) ((z0_1).map eI_u8))))], []⟩) id hb0 (.keep rfl .nil) (.keep rfl .nil) rfl (by rfl) ?_
   exact jq
 refine aq_block_exit ?_
 refine aq_then ?_
 refine aw_rs ?_
 refine .mv rfl (by rfl) ?_
 refine .as rfl (by rfl) ?_
 refine .nil (aq_then ?_)
 refine aw_ret ?_
 obtain rfl := Option.some.inj h
 refine aq_freeze [(1022, (.arr 1 ((o9).length) ((o9).map eI_u8)))] [(4, .d (eL139 o9))] (.cons rfl .nil) (.cons rfl (.whole (.head _)) .nil) ?_
 exact aq_finp hb0 rfl (.tmp rfl (by rfl) .nil) (by rfl) rfl ⟨rfl, rfl⟩

/- 160: (*beadroll/sha.state).block -/
def F160_sha_state_block_f5d_s0 (n : Nat) (a0 : (List Int)) (z0_0 : Int) (z0_1 : (List Int)) : Option ((Int × (List Int)) ⊕ ((List Int))) :=
  (if (decide (z0_0 < (64 : Int))) = true then (((if (decide (z0_0 < (16 : Int))) = true then ((rd a0 (IntKind.i64.wrap ((4 : Int) * z0_0))).bind fun (x3 : Int) => ((rd a0 (IntKind.i64.wrap ((IntKind.i64.wrap ((4 : Int) * z0_0)) + (1 : Int)))).bind fun (x6 : Int) => ((rd a0 (IntKind.i64.wrap ((IntKind.i64.wrap ((4 : Int) * z0_0)) + (2 : Int)))).bind fun (x9 : Int) => ((rd a0 (IntKind.i64.wrap ((IntKind.i64.wrap ((4 : Int) * z0_0)) + (3 : Int)))).bind fun (x12 : Int) => ((rd z0_1 z0_0).bind fun (x15 : Int) => some (z0_1.set (z0_0).toNat (bOr .u32 (bOr .u32 (bOr .u32 (shl .u32 (IntKind.u32.wrap x3) (24 : Int)) (shl .u32 (IntKind.u32.wrap x6) (16 : Int))) (shl .u32 (IntKind.u32.wrap x9) (8 : Int))) (IntKind.u32.wrap x12)))))))) else ((rd z0_1 (IntKind.i64.wrap (z0_0 - (15 : Int)))).bind fun (x18 : Int) => ((rd z0_1 (IntKind.i64.wrap (z0_0 - (2 : Int)))).bind fun (x21 : Int) => ((rd z0_1 (IntKind.i64.wrap (z0_0 - (16 : Int)))).bind fun (x24 : Int) => ((F170_sha_turned n x18 (7 : Int)).bind fun (y27 : Int) => ((F170_sha_turned n x18 (18 : Int)).bind fun (y29 : Int) => ((rd z0_1 (IntKind.i64.wrap (z0_0 - (7 : Int)))).bind fun (x31 : Int) => ((F170_sha_turned n x21 (17 : Int)).bind fun (y34 : Int) => ((F170_sha_turned n x21 (19 : Int)).bind fun (y36 : Int) => ((rd z0_1 z0_0).bind fun (x38 : Int) => some (z0_1.set (z0_0).toNat (IntKind.u32.wrap ((IntKind.u32.wrap ((IntKind.u32.wrap (x24 + (bXor .u32 (bXor .u32 y27 y29) (shr .u32 x18 (3 : Int))))) + x31)) + (bXor .u32 (bXor .u32 y34 y36) (shr .u32 x21 (10 : Int))))))))))))))))).bind fun (o41 : (List Int)) => some (.inl ((IntKind.i64.wrap (z0_0 + (1 : Int))), o41))) else some (.inr z0_1))
def F160_sha_state_block_f5d_s1 (n : Nat) (o43 : (List Int)) (z1_0 : Int) (z1_1 : (List Int)) : Option ((Int × (List Int)) ⊕ ((List Int))) :=
  (if (decide (z1_0 < (64 : Int))) = true then ((rd z1_1 (0 : Int)).bind fun (x46 : Int) => ((rd z1_1 (1 : Int)).bind fun (x49 : Int) => ((rd z1_1 (2 : Int)).bind fun (x52 : Int) => ((rd z1_1 (4 : Int)).bind fun (x55 : Int) => ((rd z1_1 (5 : Int)).bind fun (x58 : Int) => ((rd z1_1 (6 : Int)).bind fun (x61 : Int) => ((rd z1_1 (7 : Int)).bind fun (x64 : Int) => ((F170_sha_turned n x55 (6 : Int)).bind fun (y67 : Int) => ((F170_sha_turned n x55 (11 : Int)).bind fun (y69 : Int) => ((F170_sha_turned n x55 (25 : Int)).bind fun (y71 : Int) => ((rd shaK z1_0).bind fun (x73 : Int) => ((rd o43 z1_0).bind fun (x76 : Int) => ((F170_sha_turned n x46 (2 : Int)).bind fun (y79 : Int) => ((F170_sha_turned n x46 (13 : Int)).bind fun (y81 : Int) => ((F170_sha_turned n x46 (22 : Int)).bind fun (y83 : Int) => ((rd z1_1 (3 : Int)).bind fun (x85 : Int) => some (.inl ((IntKind.i64.wrap (z1_0 + (1 : Int))), ([(IntKind.u32.wrap ((IntKind.u32.wrap ((IntKind.u32.wrap ((IntKind.u32.wrap ((IntKind.u32.wrap (x64 + (bXor .u32 (bXor .u32 y67 y69) y71))) + (bXor .u32 (bAnd .u32 x55 x58) (bAnd .u32 (bCom .u32 x55) x61)))) + x73)) + x76)) + (IntKind.u32.wrap ((bXor .u32 (bXor .u32 y79 y81) y83) + (bXor .u32 (bXor .u32 (bAnd .u32 x46 x49) (bAnd .u32 x46 x52)) (bAnd .u32 x49 x52)))))), x46, x49, x52, (IntKind.u32.wrap (x85 + (IntKind.u32.wrap ((IntKind.u32.wrap ((IntKind.u32.wrap ((IntKind.u32.wrap (x64 + (bXor .u32 (bXor .u32 y67 y69) y71))) + (bXor .u32 (bAnd .u32 x55 x58) (bAnd .u32 (bCom .u32 x55) x61)))) + x73)) + x76)))), x55, x58, x61] : List Int))))))))))))))))))) else some (.inr z1_1))
def F160_sha_state_block_f5d_s2 (o88 : (List Int)) (z2_0 : Int) (z2_1 : (List Int)) : Option ((Int × (List Int)) ⊕ ((List Int))) :=
  (if (decide (z2_0 < (8 : Int))) = true then ((rd z2_1 z2_0).bind fun (x91 : Int) => ((rd o88 z2_0).bind fun (x94 : Int) => ((rd z2_1 z2_0).bind fun (x97 : Int) => some (.inl ((IntKind.i64.wrap (z2_0 + (1 : Int))), (z2_1.set (z2_0).toNat (IntKind.u32.wrap (x91 + x94)))))))) else some (.inr z2_1))
def F160_sha_state_block_f5d (n : Nat) (a0 : (List Int)) (a1 : (List Int)) : Option ((List Int)) :=
  ((loopF (fun (z : Int × (List Int)) => F160_sha_state_block_f5d_s0 n a0 z.1 z.2) n ((0 : Int), (List.replicate 64 (0 : Int)))).bind fun (o43 : (List Int)) => ((loopF (fun (z : Int × (List Int)) => F160_sha_state_block_f5d_s1 n o43 z.1 z.2) n ((0 : Int), a1)).bind fun (o88 : (List Int)) => ((loopF (fun (z : Int × (List Int)) => F160_sha_state_block_f5d_s2 o88 z.1 z.2) n ((0 : Int), a1)).bind fun (o100 : (List Int)) => some o100)))
theorem F160_sha_state_block_f5d_ok {n : Nat} {a0 : (List Int)} {a1 : (List Int)} {r : (List Int)} (h : F160_sha_state_block_f5d n a0 a1 = some r) :
    ACall Tryd.prog GS 160 [.ptr 0 0 [], .d (eL139 a0)] [(0, .av (.d (eA209 a1)))] (fun r' hp' => r' = .res [] ∧ hp' = [(0, .av (.d (eA209 r)))]) := by
 refine acall_of_body mixed Tryd.func160 rfl (by rfl) ?_
 intro C hro hgl hb0
 unfold F160_sha_state_block_f5d at h
 refine aw_rs ?_
 refine .n (f_alloc 4 (by rfl) zr223) rfl .nil rfl ?_
 refine .nil (aq_then ?_)
 refine aw_seq ?_
 refine aw_rs ?_
 refine .mv rfl (by rfl) ?_
 refine .nil (aq_then ?_)
 refine aw_block ?_
 refine aw_weak (s' := ⟨[(0, .ptr 0 0 []), (1, .d (eL139 a0)), (4, .ptr 4 0 []), (19, .d (.val (.int .i64 (0 : Int))))], [(0, .av (.d (eA209 a1))), (4, .av (.d (eA223 (List.replicate 64 (0 : Int)))))], []⟩) id hb0 (.keep rfl (.keep rfl (.keep rfl (.keep rfl .nil)))) (.keep rfl (.keep rfl .nil)) rfl (by rfl) ?_
 obtain ⟨o43, ho44, h⟩ := bind_some h
 refine aw_loopX (σ := Int × (List Int)) (fun z => ⟨[(0, .ptr 0 0 []), (1, .d (eL139 a0)), (4, .ptr 4 0 []), (19, .d (.val (.int .i64 z.1)))], [(0, .av (.d (eA209 a1))), (4, .av (.d (eA223 z.2)))], []⟩) (fun _ => (.exit 0)) (fun (o43 : (List Int)) => ⟨[(0, .ptr 0 0 []), (4, .ptr 4 0 [])], [(0, .av (.d (eA209 a1))), (4, .av (.d (eA223 o43)))], []⟩) ho44 (fun _ => rfl) ?_ ?_
 · clear h ho44
   rintro ⟨z0_0, z0_1⟩ o h
   change F160_sha_state_block_f5d_s0 n a0 z0_0 z0_1 = some o at h
   unfold F160_sha_state_block_f5d_s0 at h
   show AW _ _ _ ⟨[(0, .ptr 0 0 []), (1, .d (eL139 a0)), (4, .ptr 4 0 []), (19, .d (.val (.int .i64 z0_0)))], [(0, .av (.d (eA209 a1))), (4, .av (.d (eA223 z0_1)))], []⟩
   refine aw_rs ?_
   refine .v (f_binI (by rfl) rfl (by rfl)) rfl (.c rfl (.c rfl .nil)) .nil ?_
   refine .nil (aq_then ?_)
   refine aw_seq ?_
   refine aw_cond rfl (fun hc1 => ?_) (fun hc1 => ?_)
   · replace h := ite_t hc1 h
     refine aw_skip ?_
     refine aq_then ?_
     refine aw_seq ?_
     obtain ⟨o41, ho42, h⟩ := bind_some h
     refine aw_join (.normal) ⟨[(0, .ptr 0 0 []), (1, .d (eL139 a0)), (4, .ptr 4 0 []), (19, .d (.val (.int .i64 z0_0)))], [(0, .av (.d (eA209 a1))), (4, .av (.d (eA223 o41)))], []⟩ ?_ ?_
     · replace h := ho42
       refine aw_block ?_
       refine aw_rs ?_
       refine .mv rfl (by rfl) ?_
       refine .as rfl (by rfl) ?_
       refine .nil (aq_then ?_)
       refine aw_seq ?_
       refine aw_rs ?_
       refine .mv rfl (by rfl) ?_
       refine .v (f_binI (by rfl) rfl (by rfl)) rfl (.c rfl (.c rfl .nil)) .nil ?_
       refine .nil (aq_then ?_)
       refine aw_cond rfl (fun hc2 => ?_) (fun hc2 => ?_)
       · replace h := ite_t hc2 h
         refine aw_rds ?_
         refine .v (f_move (by rfl)) rfl (.c rfl .nil) .nil ?_
         refine .v (f_move (by rfl)) rfl (.c rfl .nil) .nil ?_
         refine .v (f_move (by rfl)) rfl (.c rfl .nil) .nil ?_
         refine .v (f_binI (by rfl) rfl (by rfl)) rfl (.c rfl (.c rfl .nil)) .nil ?_
         obtain ⟨x3, hx4, h⟩ := bind_some h
         obtain ⟨hx5, hx4⟩ := rd_some hx4
         refine .v (f_indexS (by rfl) sl139 hx5 (rd_map _ hx4)) rfl (.c rfl (.c rfl .nil)) .nil ?_
         refine .v (f_loadR (z := (.val (.int .u8 x3))) (by rfl) ty5) rfl (.c rfl .nil) .nil ?_
         refine .v (f_convI (by rfl) un5 un208) rfl (.c rfl .nil) .nil ?_
         refine .v (f_shift (by rfl) (shl_ok (by decide)) (by rfl)) rfl (.c rfl (.c rfl .nil)) .nil ?_
         refine .v (f_move (by rfl)) rfl (.c rfl .nil) .nil ?_
         refine .v (f_move (by rfl)) rfl (.c rfl .nil) .nil ?_
         refine .v (f_binI (by rfl) rfl (by rfl)) rfl (.c rfl (.c rfl .nil)) .nil ?_
         refine .v (f_binI (by rfl) rfl (by rfl)) rfl (.c rfl (.c rfl .nil)) .nil ?_
         obtain ⟨x6, hx7, h⟩ := bind_some h
         obtain ⟨hx8, hx7⟩ := rd_some hx7
         refine .v (f_indexS (by rfl) sl139 hx8 (rd_map _ hx7)) rfl (.c rfl (.c rfl .nil)) .nil ?_
         refine .v (f_loadR (z := (.val (.int .u8 x6))) (by rfl) ty5) rfl (.c rfl .nil) .nil ?_
         refine .v (f_convI (by rfl) un5 un208) rfl (.c rfl .nil) .nil ?_
         refine .v (f_shift (by rfl) (shl_ok (by decide)) (by rfl)) rfl (.c rfl (.c rfl .nil)) .nil ?_
         refine .v (f_binI (r := .int .u32 (bOr .u32 (shl .u32 (IntKind.u32.wrap x3) (24 : Int)) (shl .u32 (IntKind.u32.wrap x6) (16 : Int)))) (by rfl) rfl (by rfl)) rfl (.c rfl (.c rfl .nil)) .nil ?_
         refine .v (f_move (by rfl)) rfl (.c rfl .nil) .nil ?_
         refine .v (f_move (by rfl)) rfl (.c rfl .nil) .nil ?_
         refine .v (f_binI (by rfl) rfl (by rfl)) rfl (.c rfl (.c rfl .nil)) .nil ?_
         refine .v (f_binI (by rfl) rfl (by rfl)) rfl (.c rfl (.c rfl .nil)) .nil ?_
         obtain ⟨x9, hx10, h⟩ := bind_some h
         obtain ⟨hx11, hx10⟩ := rd_some hx10
         refine .v (f_indexS (by rfl) sl139 hx11 (rd_map _ hx10)) rfl (.c rfl (.c rfl .nil)) .nil ?_
         refine .v (f_loadR (z := (.val (.int .u8 x9))) (by rfl) ty5) rfl (.c rfl .nil) .nil ?_
         refine .v (f_convI (by rfl) un5 un208) rfl (.c rfl .nil) .nil ?_
         refine .v (f_shift (by rfl) (shl_ok (by decide)) (by rfl)) rfl (.c rfl (.c rfl .nil)) .nil ?_
         refine .v (f_binI (r := .int .u32 (bOr .u32 (bOr .u32 (shl .u32 (IntKind.u32.wrap x3) (24 : Int)) (shl .u32 (IntKind.u32.wrap x6) (16 : Int))) (shl .u32 (IntKind.u32.wrap x9) (8 : Int)))) (by rfl) rfl (by rfl)) rfl (.c rfl (.c rfl .nil)) .nil ?_
         refine .v (f_move (by rfl)) rfl (.c rfl .nil) .nil ?_
         refine .v (f_move (by rfl)) rfl (.c rfl .nil) .nil ?_
         refine .v (f_binI (by rfl) rfl (by rfl)) rfl (.c rfl (.c rfl .nil)) .nil ?_
         refine .v (f_binI (by rfl) rfl (by rfl)) rfl (.c rfl (.c rfl .nil)) .nil ?_
         obtain ⟨x12, hx13, h⟩ := bind_some h
         obtain ⟨hx14, hx13⟩ := rd_some hx13
         refine .v (f_indexS (by rfl) sl139 hx14 (rd_map _ hx13)) rfl (.c rfl (.c rfl .nil)) .nil ?_
         refine .v (f_loadR (z := (.val (.int .u8 x12))) (by rfl) ty5) rfl (.c rfl .nil) .nil ?_
         refine .v (f_convI (by rfl) un5 un208) rfl (.c rfl .nil) .nil ?_
         refine .v (f_binI (r := .int .u32 (bOr .u32 (bOr .u32 (bOr .u32 (shl .u32 (IntKind.u32.wrap x3) (24 : Int)) (shl .u32 (IntKind.u32.wrap x6) (16 : Int))) (shl .u32 (IntKind.u32.wrap x9) (8 : Int))) (IntKind.u32.wrap x12))) (by rfl) rfl (by rfl)) rfl (.c rfl (.c rfl .nil)) .nil ?_
         obtain ⟨x15, hx16, h⟩ := bind_some h
         obtain ⟨hx17, hx16⟩ := rd_some hx16
         refine .v (f_indexO (by rfl) ar223 rfl hx17 (rd_map _ hx16)) rfl (.c rfl (.c rfl .nil)) (.cons rfl .nil) ?_
         refine .s (f_store (n := 0) (o := 4) (off := (0 + (z0_0).toNat * 1)) (p := [(z0_0).toNat]) (c := .d (eA223 z0_1)) (old := .d (.val (.int .u32 x15))) (z := .d (.val (.int .u32 (bOr .u32 (bOr .u32 (bOr .u32 (shl .u32 (IntKind.u32.wrap x3) (24 : Int)) (shl .u32 (IntKind.u32.wrap x6) (16 : Int))) (shl .u32 (IntKind.u32.wrap x9) (8 : Int))) (IntKind.u32.wrap x12))))) (c' := .d (eA223 (z0_1.set (z0_0).toNat (bOr .u32 (bOr .u32 (bOr .u32 (shl .u32 (IntKind.u32.wrap x3) (24 : Int)) (shl .u32 (IntKind.u32.wrap x6) (16 : Int))) (shl .u32 (IntKind.u32.wrap x9) (8 : Int))) (IntKind.u32.wrap x12))))) (at_map _ hx16 (by simp)) (put_map _ hx16) (by rfl) ty208 (by rfl)) rfl (.c rfl (.c rfl .nil)) (.cons rfl .nil) ?_
         refine .nil (by kernel_rfl) ?_
         refine aw_exit ?_
         refine aq_then_exit ?_
         refine aq_block_exit ?_
         obtain rfl := Option.some.inj h
         refine aq_weak (s' := ⟨[(0, .ptr 0 0 []), (1, .d (eL139 a0)), (4, .ptr 4 0 []), (19, .d (.val (.int .i64 z0_0)))], [(0, .av (.d (eA209 a1))), (4, .av (.d (eA223 (z0_1.set (z0_0).toNat (bOr .u32 (bOr .u32 (bOr .u32 (shl .u32 (IntKind.u32.wrap x3) (24 : Int)) (shl .u32 (IntKind.u32.wrap x6) (16 : Int))) (shl .u32 (IntKind.u32.wrap x9) (8 : Int))) (IntKind.u32.wrap x12))))))], []⟩) id hb0 (.keep rfl (.keep rfl (.keep rfl (.keep rfl .nil)))) (.keep rfl (.keep rfl .nil)) rfl (by rfl) ?_
         exact jq
       replace h := ite_f hc2 h
       refine aw_skip ?_
       refine aq_then ?_
       refine aw_rds ?_
       refine .v (f_move (by rfl)) rfl (.c rfl .nil) .nil ?_
       refine .v (f_binI (by rfl) rfl (by rfl)) rfl (.c rfl (.c rfl .nil)) .nil ?_
       obtain ⟨x18, hx19, h⟩ := bind_some h
       obtain ⟨hx20, hx19⟩ := rd_some hx19
       refine .v (f_indexO (by rfl) ar223 rfl hx20 (rd_map _ hx19)) rfl (.c rfl (.c rfl .nil)) (.cons rfl .nil) ?_
       refine .v (f_load (n := 0) (o := 4) (off := (0 + ((IntKind.i64.wrap (z0_0 - (15 : Int)))).toNat * 1)) (p := [((IntKind.i64.wrap (z0_0 - (15 : Int)))).toNat]) (c := .d (eA223 z0_1)) (z := .d (.val (.int .u32 x18))) (by rfl) (at_map _ hx19 (by simp)) ty208 (by rfl)) rfl (.c rfl .nil) (.cons rfl .nil) ?_
       refine .v (f_move (by rfl)) rfl (.c rfl .nil) .nil ?_
       refine .v (f_binI (by rfl) rfl (by rfl)) rfl (.c rfl (.c rfl .nil)) .nil ?_
       obtain ⟨x21, hx22, h⟩ := bind_some h
       obtain ⟨hx23, hx22⟩ := rd_some hx22
       refine .v (f_indexO (by rfl) ar223 rfl hx23 (rd_map _ hx22)) rfl (.c rfl (.c rfl .nil)) (.cons rfl .nil) ?_
       refine .v (f_load (n := 0) (o := 4) (off := (0 + ((IntKind.i64.wrap (z0_0 - (2 : Int)))).toNat * 1)) (p := [((IntKind.i64.wrap (z0_0 - (2 : Int)))).toNat]) (c := .d (eA223 z0_1)) (z := .d (.val (.int .u32 x21))) (by rfl) (at_map _ hx22 (by simp)) ty208 (by rfl)) rfl (.c rfl .nil) (.cons rfl .nil) ?_
       refine .v (f_assign (by rfl)) rfl (.c rfl .nil) .nil ?_
       refine .v (f_assign (by rfl)) rfl (.c rfl .nil) .nil ?_
       refine .nil (by kernel_rfl) ?_
       refine aw_rd ?_
       refine .v (f_move (by rfl)) rfl (.c rfl .nil) .nil ?_
       refine .v (f_move (by rfl)) rfl (.c rfl .nil) .nil ?_
       refine .v (f_binI (by rfl) rfl (by rfl)) rfl (.c rfl (.c rfl .nil)) .nil ?_
       obtain ⟨x24, hx25, h⟩ := bind_some h
       obtain ⟨hx26, hx25⟩ := rd_some hx25
       refine .v (f_indexO (by rfl) ar223 rfl hx26 (rd_map _ hx25)) rfl (.c rfl (.c rfl .nil)) (.cons rfl .nil) ?_
       refine .v (f_load (n := 0) (o := 4) (off := (0 + ((IntKind.i64.wrap (z0_0 - (16 : Int)))).toNat * 1)) (p := [((IntKind.i64.wrap (z0_0 - (16 : Int)))).toNat]) (c := .d (eA223 z0_1)) (z := .d (.val (.int .u32 x24))) (by rfl) (at_map _ hx25 (by simp)) ty208 (by rfl)) rfl (.c rfl .nil) (.cons rfl .nil) ?_
       refine .v (f_move (by rfl)) rfl (.c rfl .nil) .nil ?_
       obtain ⟨y27, hy28, h⟩ := bind_some h
       refine .v (f_callP hgl (by rfl) en170 rfl (by rfl) (by rfl) (by rfl) (F170_sha_turned_ok hy28)) rfl (.c rfl (.c rfl .nil)) .nil ?_
       refine .v (f_move (by rfl)) rfl (.c rfl .nil) .nil ?_
       obtain ⟨y29, hy30, h⟩ := bind_some h
       refine .v (f_callP hgl (by rfl) en170 rfl (by rfl) (by rfl) (by rfl) (F170_sha_turned_ok hy30)) rfl (.c rfl (.c rfl .nil)) .nil ?_
       refine .v (f_binI (r := .int .u32 (bXor .u32 y27 y29)) (by rfl) rfl (by rfl)) rfl (.c rfl (.c rfl .nil)) .nil ?_
       refine .v (f_move (by rfl)) rfl (.c rfl .nil) .nil ?_
       refine .v (f_shift (by rfl) (shr_ok (by decide)) (by rfl)) rfl (.c rfl (.c rfl .nil)) .nil ?_
       refine .v (f_binI (r := .int .u32 (bXor .u32 (bXor .u32 y27 y29) (shr .u32 x18 (3 : Int)))) (by rfl) rfl (by rfl)) rfl (.c rfl (.c rfl .nil)) .nil ?_
       refine .v (f_binI (by rfl) rfl (by rfl)) rfl (.c rfl (.c rfl .nil)) .nil ?_
       refine .v (f_move (by rfl)) rfl (.c rfl .nil) .nil ?_
       refine .v (f_binI (by rfl) rfl (by rfl)) rfl (.c rfl (.c rfl .nil)) .nil ?_
       obtain ⟨x31, hx32, h⟩ := bind_some h
       obtain ⟨hx33, hx32⟩ := rd_some hx32
       refine .v (f_indexO (by rfl) ar223 rfl hx33 (rd_map _ hx32)) rfl (.c rfl (.c rfl .nil)) (.cons rfl .nil) ?_
       refine .v (f_load (n := 0) (o := 4) (off := (0 + ((IntKind.i64.wrap (z0_0 - (7 : Int)))).toNat * 1)) (p := [((IntKind.i64.wrap (z0_0 - (7 : Int)))).toNat]) (c := .d (eA223 z0_1)) (z := .d (.val (.int .u32 x31))) (by rfl) (at_map _ hx32 (by simp)) ty208 (by rfl)) rfl (.c rfl .nil) (.cons rfl .nil) ?_
       refine .v (f_binI (by rfl) rfl (by rfl)) rfl (.c rfl (.c rfl .nil)) .nil ?_
       refine .v (f_move (by rfl)) rfl (.c rfl .nil) .nil ?_
       obtain ⟨y34, hy35, h⟩ := bind_some h
       refine .v (f_callP hgl (by rfl) en170 rfl (by rfl) (by rfl) (by rfl) (F170_sha_turned_ok hy35)) rfl (.c rfl (.c rfl .nil)) .nil ?_
       refine .v (f_move (by rfl)) rfl (.c rfl .nil) .nil ?_
       obtain ⟨y36, hy37, h⟩ := bind_some h
       refine .v (f_callP hgl (by rfl) en170 rfl (by rfl) (by rfl) (by rfl) (F170_sha_turned_ok hy37)) rfl (.c rfl (.c rfl .nil)) .nil ?_
       refine .v (f_binI (r := .int .u32 (bXor .u32 y34 y36)) (by rfl) rfl (by rfl)) rfl (.c rfl (.c rfl .nil)) .nil ?_
       refine .v (f_move (by rfl)) rfl (.c rfl .nil) .nil ?_
       refine .v (f_shift (by rfl) (shr_ok (by decide)) (by rfl)) rfl (.c rfl (.c rfl .nil)) .nil ?_
       refine .v (f_binI (r := .int .u32 (bXor .u32 (bXor .u32 y34 y36) (shr .u32 x21 (10 : Int)))) (by rfl) rfl (by rfl)) rfl (.c rfl (.c rfl .nil)) .nil ?_
       refine .v (f_binI (by rfl) rfl (by rfl)) rfl (.c rfl (.c rfl .nil)) .nil ?_
       obtain ⟨x38, hx39, h⟩ := bind_some h
       obtain ⟨hx40, hx39⟩ := rd_some hx39
       refine .v (f_indexO (by rfl) ar223 rfl hx40 (rd_map _ hx39)) rfl (.c rfl (.c rfl .nil)) (.cons rfl .nil) ?_
       refine .s (f_store (n := 0) (o := 4) (off := (0 + (z0_0).toNat * 1)) (p := [(z0_0).toNat]) (c := .d (eA223 z0_1)) (old := .d (.val (.int .u32 x38))) (z := .d (.val (.int .u32 (IntKind.u32.wrap ((IntKind.u32.wrap ((IntKind.u32.wrap (x24 + (bXor .u32 (bXor .u32 y27 y29) (shr .u32 x18 (3 : Int))))) + x31)) + (bXor .u32 (bXor .u32 y34 y36) (shr .u32 x21 (10 : Int)))))))) (c' := .d (eA223 (z0_1.set (z0_0).toNat (IntKind.u32.wrap ((IntKind.u32.wrap ((IntKind.u32.wrap (x24 + (bXor .u32 (bXor .u32 y27 y29) (shr .u32 x18 (3 : Int))))) + x31)) + (bXor .u32 (bXor .u32 y34 y36) (shr .u32 x21 (10 : Int)))))))) (at_map _ hx39 (by simp)) (put_map _ hx39) (by rfl) ty208 (by rfl)) rfl (.c rfl (.c rfl .nil)) (.cons rfl .nil) ?_
       refine .nil (by kernel_rfl) ?_
       refine aq_block ?_
       obtain rfl := Option.some.inj h
       refine aq_weak (s' := ⟨[(0, .ptr 0 0 []), (1, .d (eL139 a0)), (4, .ptr 4 0 []), (19, .d (.val (.int .i64 z0_0)))], [(0, .av (.d (eA209 a1))), (4, .av (.d (eA223 (z0_1.set (z0_0).toNat (IntKind.u32.wrap ((IntKind.u32.wrap ((IntKind.u32.wrap (x24 + (bXor .u32 (bXor .u32 y27 y29) (shr .u32 x18 (3 : Int))))) + x31)) + (bXor .u32 (bXor .u32 y34 y36) (shr .u32 x21 (10 : Int)))))))))], []⟩) id hb0 (.keep rfl (.keep rfl (.keep rfl (.keep rfl .nil)))) (.keep rfl (.keep rfl .nil)) rfl (by rfl) ?_
       exact jq
     refine aq_then ?_
     refine aw_r ?_
     refine .v (f_binI (by rfl) rfl (by rfl)) rfl (.c rfl (.c rfl .nil)) .nil ?_
     refine .mv rfl (by rfl) ?_
     refine .nil ?_
     obtain rfl := Option.some.inj h
     refine aq_weak (s' := ⟨[(0, .ptr 0 0 []), (1, .d (eL139 a0)), (4, .ptr 4 0 []), (19, .d (.val (.int .i64 (IntKind.i64.wrap (z0_0 + (1 : Int))))))], [(0, .av (.d (eA209 a1))), (4, .av (.d (eA223 o41)))], []⟩) id hb0 (.keep rfl (.keep rfl (.keep rfl (.keep rfl .nil)))) (.keep rfl (.keep rfl .nil)) rfl (by rfl) ?_
     exact jq
   replace h := ite_f hc1 h
   refine aw_exit ?_
   refine aq_then_exit ?_
   obtain rfl := Option.some.inj h
   refine aq_weak (s' := ⟨[(0, .ptr 0 0 []), (4, .ptr 4 0 [])], [(0, .av (.d (eA209 a1))), (4, .av (.d (eA223 z0_1)))], []⟩) id hb0 (.keep rfl (.keep rfl .nil)) (.keep rfl (.keep rfl .nil)) rfl (by rfl) ?_
   exact jq
 refine aq_block_exit ?_
 refine aq_then ?_
 refine aw_rs ?_
 refine .mv rfl (by rfl) ?_
 refine .v (f_nilCheck (by rfl)) rfl (.c rfl .nil) .nil ?_
 refine .v (f_load (n := 0) (o := 0) (off := 0) (p := []) (c := .d (eA209 a1)) (z := .d (eA209 a1)) (by rfl) rfl ty210 (by rfl)) rfl (.c rfl .nil) (.cons rfl .nil) ?_
 refine .n (f_alloc 8 (by rfl) zr210) rfl .nil rfl ?_
 refine .s (f_store (n := 0) (o := 8) (off := 0) (p := []) (c := .d (eA209 (List.replicate 8 (0 : Int)))) (old := .d (eA209 (List.replicate 8 (0 : Int)))) (z := .d (eA209 a1)) (c' := .d (eA209 a1)) rfl rfl (by rfl) ty210 (by rfl)) rfl (.c rfl (.c rfl .nil)) (.cons rfl .nil) ?_
 refine .nil (aq_then ?_)
 refine aw_seq ?_
 refine aw_rs ?_
 refine .mv rfl (by rfl) ?_
 refine .nil (aq_then ?_)
 refine aw_block ?_
 refine aw_weak (s' := ⟨[(0, .ptr 0 0 []), (4, .ptr 4 0 []), (8, .ptr 8 0 []), (100, .d (.val (.int .i64 (0 : Int))))], [(0, .av (.d (eA209 a1))), (4, .av (.d (eA223 o43))), (8, .av (.d (eA209 a1)))], []⟩) id hb0 (.keep rfl (.keep rfl (.keep rfl (.keep rfl .nil)))) (.keep rfl (.keep rfl (.keep rfl .nil))) rfl (by rfl) ?_
 obtain ⟨o88, ho89, h⟩ := bind_some h
 refine aw_loopX (σ := Int × (List Int)) (fun z => ⟨[(0, .ptr 0 0 []), (4, .ptr 4 0 []), (8, .ptr 8 0 []), (100, .d (.val (.int .i64 z.1)))], [(0, .av (.d (eA209 a1))), (4, .av (.d (eA223 o43))), (8, .av (.d (eA209 z.2)))], []⟩) (fun _ => (.exit 2)) (fun (o88 : (List Int)) => ⟨[(0, .ptr 0 0 []), (8, .ptr 8 0 [])], [(0, .av (.d (eA209 a1))), (8, .av (.d (eA209 o88)))], []⟩) ho89 (fun _ => rfl) ?_ ?_
 · clear h ho89
   rintro ⟨z1_0, z1_1⟩ o h
   change F160_sha_state_block_f5d_s1 n o43 z1_0 z1_1 = some o at h
   unfold F160_sha_state_block_f5d_s1 at h
   show AW _ _ _ ⟨[(0, .ptr 0 0 []), (4, .ptr 4 0 []), (8, .ptr 8 0 []), (100, .d (.val (.int .i64 z1_0)))], [(0, .av (.d (eA209 a1))), (4, .av (.d (eA223 o43))), (8, .av (.d (eA209 z1_1)))], []⟩
   refine aw_rs ?_
   refine .v (f_binI (by rfl) rfl (by rfl)) rfl (.c rfl (.c rfl .nil)) .nil ?_
   refine .nil (aq_then ?_)
   refine aw_seq ?_
   refine aw_cond rfl (fun hc45 => ?_) (fun hc45 => ?_)
   · replace h := ite_t hc45 h
     refine aw_skip ?_
     refine aq_then ?_
     refine aw_seq ?_
     refine aw_block ?_
     refine aw_rs ?_
     refine .mv rfl (by rfl) ?_
     refine .as rfl (by rfl) ?_
     refine .nil (aq_then ?_)
     refine aw_rds ?_
     obtain ⟨x46, hx47, h⟩ := bind_some h
     obtain ⟨hx48, hx47⟩ := rd_some hx47
     refine .v (f_indexO (by rfl) ar210 rfl hx48 (rd_map _ hx47)) rfl (.c rfl (.c rfl .nil)) (.cons rfl .nil) ?_
     refine .v (f_load (n := 0) (o := 8) (off := (0 + ((0 : Int)).toNat * 1)) (p := [((0 : Int)).toNat]) (c := .d (eA209 z1_1)) (z := .d (.val (.int .u32 x46))) (by rfl) (at_map _ hx47 (by simp)) ty208 (by rfl)) rfl (.c rfl .nil) (.cons rfl .nil) ?_
     obtain ⟨x49, hx50, h⟩ := bind_some h
     obtain ⟨hx51, hx50⟩ := rd_some hx50
     refine .v (f_indexO (by rfl) ar210 rfl hx51 (rd_map _ hx50)) rfl (.c rfl (.c rfl .nil)) (.cons rfl .nil) ?_
     refine .v (f_load (n := 0) (o := 8) (off := (0 + ((1 : Int)).toNat * 1)) (p := [((1 : Int)).toNat]) (c := .d (eA209 z1_1)) (z := .d (.val (.int .u32 x49))) (by rfl) (at_map _ hx50 (by simp)) ty208 (by rfl)) rfl (.c rfl .nil) (.cons rfl .nil) ?_
     obtain ⟨x52, hx53, h⟩ := bind_some h
     obtain ⟨hx54, hx53⟩ := rd_some hx53
     refine .v (f_indexO (by rfl) ar210 rfl hx54 (rd_map _ hx53)) rfl (.c rfl (.c rfl .nil)) (.cons rfl .nil) ?_
     refine .v (f_load (n := 0) (o := 8) (off := (0 + ((2 : Int)).toNat * 1)) (p := [((2 : Int)).toNat]) (c := .d (eA209 z1_1)) (z := .d (.val (.int .u32 x52))) (by rfl) (at_map _ hx53 (by simp)) ty208 (by rfl)) rfl (.c rfl .nil) (.cons rfl .nil) ?_
     obtain ⟨x55, hx56, h⟩ := bind_some h
     obtain ⟨hx57, hx56⟩ := rd_some hx56
     refine .v (f_indexO (by rfl) ar210 rfl hx57 (rd_map _ hx56)) rfl (.c rfl (.c rfl .nil)) (.cons rfl .nil) ?_
     refine .v (f_load (n := 0) (o := 8) (off := (0 + ((4 : Int)).toNat * 1)) (p := [((4 : Int)).toNat]) (c := .d (eA209 z1_1)) (z := .d (.val (.int .u32 x55))) (by rfl) (at_map _ hx56 (by simp)) ty208 (by rfl)) rfl (.c rfl .nil) (.cons rfl .nil) ?_
     obtain ⟨x58, hx59, h⟩ := bind_some h
     obtain ⟨hx60, hx59⟩ := rd_some hx59
     refine .v (f_indexO (by rfl) ar210 rfl hx60 (rd_map _ hx59)) rfl (.c rfl (.c rfl .nil)) (.cons rfl .nil) ?_
     refine .v (f_load (n := 0) (o := 8) (off := (0 + ((5 : Int)).toNat * 1)) (p := [((5 : Int)).toNat]) (c := .d (eA209 z1_1)) (z := .d (.val (.int .u32 x58))) (by rfl) (at_map _ hx59 (by simp)) ty208 (by rfl)) rfl (.c rfl .nil) (.cons rfl .nil) ?_
     obtain ⟨x61, hx62, h⟩ := bind_some h
     obtain ⟨hx63, hx62⟩ := rd_some hx62
     refine .v (f_indexO (by rfl) ar210 rfl hx63 (rd_map _ hx62)) rfl (.c rfl (.c rfl .nil)) (.cons rfl .nil) ?_
     refine .v (f_load (n := 0) (o := 8) (off := (0 + ((6 : Int)).toNat * 1)) (p := [((6 : Int)).toNat]) (c := .d (eA209 z1_1)) (z := .d (.val (.int .u32 x61))) (by rfl) (at_map _ hx62 (by simp)) ty208 (by rfl)) rfl (.c rfl .nil) (.cons rfl .nil) ?_
     refine .v (f_assign (by rfl)) rfl (.c rfl .nil) .nil ?_
     refine .v (f_assign (by rfl)) rfl (.c rfl .nil) .nil ?_
     refine .v (f_assign (by rfl)) rfl (.c rfl .nil) .nil ?_
     refine .v (f_assign (by rfl)) rfl (.c rfl .nil) .nil ?_
     refine .v (f_assign (by rfl)) rfl (.c rfl .nil) .nil ?_
     refine .v (f_assign (by rfl)) rfl (.c rfl .nil) .nil ?_
     refine .nil (by kernel_rfl) ?_
     refine aw_rds ?_
     obtain ⟨x64, hx65, h⟩ := bind_some h
     obtain ⟨hx66, hx65⟩ := rd_some hx65
     refine .v (f_indexO (by rfl) ar210 rfl hx66 (rd_map _ hx65)) rfl (.c rfl (.c rfl .nil)) (.cons rfl .nil) ?_
     refine .v (f_load (n := 0) (o := 8) (off := (0 + ((7 : Int)).toNat * 1)) (p := [((7 : Int)).toNat]) (c := .d (eA209 z1_1)) (z := .d (.val (.int .u32 x64))) (by rfl) (at_map _ hx65 (by simp)) ty208 (by rfl)) rfl (.c rfl .nil) (.cons rfl .nil) ?_
     refine .v (f_move (by rfl)) rfl (.c rfl .nil) .nil ?_
     obtain ⟨y67, hy68, h⟩ := bind_some h
     refine .v (f_callP hgl (by rfl) en170 rfl (by rfl) (by rfl) (by rfl) (F170_sha_turned_ok hy68)) rfl (.c rfl (.c rfl .nil)) .nil ?_
     refine .v (f_move (by rfl)) rfl (.c rfl .nil) .nil ?_
     obtain ⟨y69, hy70, h⟩ := bind_some h
     refine .v (f_callP hgl (by rfl) en170 rfl (by rfl) (by rfl) (by rfl) (F170_sha_turned_ok hy70)) rfl (.c rfl (.c rfl .nil)) .nil ?_
     refine .v (f_binI (r := .int .u32 (bXor .u32 y67 y69)) (by rfl) rfl (by rfl)) rfl (.c rfl (.c rfl .nil)) .nil ?_
     refine .v (f_move (by rfl)) rfl (.c rfl .nil) .nil ?_
     obtain ⟨y71, hy72, h⟩ := bind_some h
     refine .v (f_callP hgl (by rfl) en170 rfl (by rfl) (by rfl) (by rfl) (F170_sha_turned_ok hy72)) rfl (.c rfl (.c rfl .nil)) .nil ?_
     refine .v (f_binI (r := .int .u32 (bXor .u32 (bXor .u32 y67 y69) y71)) (by rfl) rfl (by rfl)) rfl (.c rfl (.c rfl .nil)) .nil ?_
     refine .v (f_binI (by rfl) rfl (by rfl)) rfl (.c rfl (.c rfl .nil)) .nil ?_
     refine .v (f_move (by rfl)) rfl (.c rfl .nil) .nil ?_
     refine .v (f_move (by rfl)) rfl (.c rfl .nil) .nil ?_
     refine .v (f_binI (r := .int .u32 (bAnd .u32 x55 x58)) (by rfl) rfl (by rfl)) rfl (.c rfl (.c rfl .nil)) .nil ?_
     refine .v (f_move (by rfl)) rfl (.c rfl .nil) .nil ?_
     refine .v (f_compl (by rfl)) rfl (.c rfl .nil) .nil ?_
     refine .v (f_move (by rfl)) rfl (.c rfl .nil) .nil ?_
     refine .v (f_binI (r := .int .u32 (bAnd .u32 (bCom .u32 x55) x61)) (by rfl) rfl (by rfl)) rfl (.c rfl (.c rfl .nil)) .nil ?_
     refine .v (f_binI (r := .int .u32 (bXor .u32 (bAnd .u32 x55 x58) (bAnd .u32 (bCom .u32 x55) x61))) (by rfl) rfl (by rfl)) rfl (.c rfl (.c rfl .nil)) .nil ?_
     refine .v (f_binI (by rfl) rfl (by rfl)) rfl (.c rfl (.c rfl .nil)) .nil ?_
     refine .v (f_move (by rfl)) rfl (.c rfl .nil) .nil ?_
     obtain ⟨x73, hx74, h⟩ := bind_some h
     obtain ⟨hx75, hx74⟩ := rd_some hx74
     refine .v (f_indexAR (by rfl) ar223 hx75 (rd_map _ hx74)) rfl (.c (glob_ev hgl rfl) (.c rfl .nil)) .nil ?_
     refine .v (f_loadR (z := (.val (.int .u32 x73))) (by rfl) ty208) rfl (.c rfl .nil) .nil ?_
     refine .v (f_binI (by rfl) rfl (by rfl)) rfl (.c rfl (.c rfl .nil)) .nil ?_
     refine .v (f_move (by rfl)) rfl (.c rfl .nil) .nil ?_
     obtain ⟨x76, hx77, h⟩ := bind_some h
     obtain ⟨hx78, hx77⟩ := rd_some hx77
     refine .v (f_indexO (by rfl) ar223 rfl hx78 (rd_map _ hx77)) rfl (.c rfl (.c rfl .nil)) (.cons rfl .nil) ?_
     refine .v (f_load (n := 0) (o := 4) (off := (0 + (z1_0).toNat * 1)) (p := [(z1_0).toNat]) (c := .d (eA223 o43)) (z := .d (.val (.int .u32 x76))) (by rfl) (at_map _ hx77 (by simp)) ty208 (by rfl)) rfl (.c rfl .nil) (.cons rfl .nil) ?_
     refine .v (f_binI (by rfl) rfl (by rfl)) rfl (.c rfl (.c rfl .nil)) .nil ?_
     refine .v (f_assign (by rfl)) rfl (.c rfl .nil) .nil ?_
     refine .nil (by kernel_rfl) ?_
     refine aw_rs ?_
     refine .mv rfl (by rfl) ?_
     obtain ⟨y79, hy80, h⟩ := bind_some h
     refine .v (f_callP hgl (by rfl) en170 rfl (by rfl) (by rfl) (by rfl) (F170_sha_turned_ok hy80)) rfl (.c rfl (.c rfl .nil)) .nil ?_
     refine .mv rfl (by rfl) ?_
     obtain ⟨y81, hy82, h⟩ := bind_some h
     refine .v (f_callP hgl (by rfl) en170 rfl (by rfl) (by rfl) (by rfl) (F170_sha_turned_ok hy82)) rfl (.c rfl (.c rfl .nil)) .nil ?_
     refine .v (f_binI (r := .int .u32 (bXor .u32 y79 y81)) (by rfl) rfl (by rfl)) rfl (.c rfl (.c rfl .nil)) .nil ?_
     refine .mv rfl (by rfl) ?_
     obtain ⟨y83, hy84, h⟩ := bind_some h
     refine .v (f_callP hgl (by rfl) en170 rfl (by rfl) (by rfl) (by rfl) (F170_sha_turned_ok hy84)) rfl (.c rfl (.c rfl .nil)) .nil ?_
     refine .v (f_binI (r := .int .u32 (bXor .u32 (bXor .u32 y79 y81) y83)) (by rfl) rfl (by rfl)) rfl (.c rfl (.c rfl .nil)) .nil ?_
     refine .mv rfl (by rfl) ?_
     refine .mv rfl (by rfl) ?_
     refine .v (f_binI (r := .int .u32 (bAnd .u32 x46 x49)) (by rfl) rfl (by rfl)) rfl (.c rfl (.c rfl .nil)) .nil ?_
     refine .mv rfl (by rfl) ?_
     refine .mv rfl (by rfl) ?_
     refine .v (f_binI (r := .int .u32 (bAnd .u32 x46 x52)) (by rfl) rfl (by rfl)) rfl (.c rfl (.c rfl .nil)) .nil ?_
     refine .v (f_binI (r := .int .u32 (bXor .u32 (bAnd .u32 x46 x49) (bAnd .u32 x46 x52))) (by rfl) rfl (by rfl)) rfl (.c rfl (.c rfl .nil)) .nil ?_
     refine .mv rfl (by rfl) ?_
     refine .mv rfl (by rfl) ?_
     refine .v (f_binI (r := .int .u32 (bAnd .u32 x49 x52)) (by rfl) rfl (by rfl)) rfl (.c rfl (.c rfl .nil)) .nil ?_
     refine .v (f_binI (r := .int .u32 (bXor .u32 (bXor .u32 (bAnd .u32 x46 x49) (bAnd .u32 x46 x52)) (bAnd .u32 x49 x52))) (by rfl) rfl (by rfl)) rfl (.c rfl (.c rfl .nil)) .nil ?_
     refine .v (f_binI (by rfl) rfl (by rfl)) rfl (.c rfl (.c rfl .nil)) .nil ?_
     refine .as rfl (by rfl) ?_
     refine .nil (aq_then ?_)
     refine aw_r ?_
     refine .mv rfl (by rfl) ?_
     refine .mv rfl (by rfl) ?_
     refine .v (f_binI (by rfl) rfl (by rfl)) rfl (.c rfl (.c rfl .nil)) .nil ?_
     refine .mv rfl (by rfl) ?_
     refine .mv rfl (by rfl) ?_
     refine .mv rfl (by rfl) ?_
     obtain ⟨x85, hx86, h⟩ := bind_some h
     obtain ⟨hx87, hx86⟩ := rd_some hx86
     refine .v (f_indexO (by rfl) ar210 rfl hx87 (rd_map _ hx86)) rfl (.c rfl (.c rfl .nil)) (.cons rfl .nil) ?_
     refine .v (f_load (n := 0) (o := 8) (off := (0 + ((3 : Int)).toNat * 1)) (p := [((3 : Int)).toNat]) (c := .d (eA209 z1_1)) (z := .d (.val (.int .u32 x85))) (by rfl) (at_map _ hx86 (by simp)) ty208 (by rfl)) rfl (.c rfl .nil) (.cons rfl .nil) ?_
     refine .mv rfl (by rfl) ?_
     refine .v (f_binI (by rfl) rfl (by rfl)) rfl (.c rfl (.c rfl .nil)) .nil ?_
     refine .mv rfl (by rfl) ?_
     refine .mv rfl (by rfl) ?_
     refine .mv rfl (by rfl) ?_
     refine .v (f_build (xs := [(0, .d (.val (.int .u32 (IntKind.u32.wrap ((IntKind.u32.wrap ((IntKind.u32.wrap ((IntKind.u32.wrap ((IntKind.u32.wrap (x64 + (bXor .u32 (bXor .u32 y67 y69) y71))) + (bXor .u32 (bAnd .u32 x55 x58) (bAnd .u32 (bCom .u32 x55) x61)))) + x73)) + x76)) + (IntKind.u32.wrap ((bXor .u32 (bXor .u32 y79 y81) y83) + (bXor .u32 (bXor .u32 (bAnd .u32 x46 x49) (bAnd .u32 x46 x52)) (bAnd .u32 x49 x52))))))))), (1, .d (.val (.int .u32 x46))), (2, .d (.val (.int .u32 x49))), (3, .d (.val (.int .u32 x52))), (4, .d (.val (.int .u32 (IntKind.u32.wrap (x85 + (IntKind.u32.wrap ((IntKind.u32.wrap ((IntKind.u32.wrap ((IntKind.u32.wrap (x64 + (bXor .u32 (bXor .u32 y67 y69) y71))) + (bXor .u32 (bAnd .u32 x55 x58) (bAnd .u32 (bCom .u32 x55) x61)))) + x73)) + x76))))))), (5, .d (.val (.int .u32 x55))), (6, .d (.val (.int .u32 x58))), (7, .d (.val (.int .u32 x61)))]) (z' := .d (eA209 ([(IntKind.u32.wrap ((IntKind.u32.wrap ((IntKind.u32.wrap ((IntKind.u32.wrap ((IntKind.u32.wrap (x64 + (bXor .u32 (bXor .u32 y67 y69) y71))) + (bXor .u32 (bAnd .u32 x55 x58) (bAnd .u32 (bCom .u32 x55) x61)))) + x73)) + x76)) + (IntKind.u32.wrap ((bXor .u32 (bXor .u32 y79 y81) y83) + (bXor .u32 (bXor .u32 (bAnd .u32 x46 x49) (bAnd .u32 x46 x52)) (bAnd .u32 x49 x52)))))), x46, x49, x52, (IntKind.u32.wrap (x85 + (IntKind.u32.wrap ((IntKind.u32.wrap ((IntKind.u32.wrap ((IntKind.u32.wrap (x64 + (bXor .u32 (bXor .u32 y67 y69) y71))) + (bXor .u32 (bAnd .u32 x55 x58) (bAnd .u32 (bCom .u32 x55) x61)))) + x73)) + x76)))), x55, x58, x61] : List Int))) (by rfl) zr210 ag210 rfl (by rfl) ⟨_, _, _, rfl, pl210_0, rfl, rfl, ⟨_, _, _, rfl, pl210_1, rfl, rfl, ⟨_, _, _, rfl, pl210_2, rfl, rfl, ⟨_, _, _, rfl, pl210_3, rfl, rfl, ⟨_, _, _, rfl, pl210_4, rfl, rfl, ⟨_, _, _, rfl, pl210_5, rfl, rfl, ⟨_, _, _, rfl, pl210_6, rfl, rfl, ⟨_, _, _, rfl, pl210_7, rfl, rfl, trivial⟩⟩⟩⟩⟩⟩⟩⟩ (by rfl) (by rfl)) rfl (.c rfl (.c rfl (.c rfl (.c rfl (.c rfl (.c rfl (.c rfl (.c rfl .nil)))))))) .nil ?_
     refine .s (f_store (n := 0) (o := 8) (off := 0) (p := []) (c := .d (eA209 z1_1)) (old := .d (eA209 z1_1)) (z := .d (eA209 ([(IntKind.u32.wrap ((IntKind.u32.wrap ((IntKind.u32.wrap ((IntKind.u32.wrap ((IntKind.u32.wrap (x64 + (bXor .u32 (bXor .u32 y67 y69) y71))) + (bXor .u32 (bAnd .u32 x55 x58) (bAnd .u32 (bCom .u32 x55) x61)))) + x73)) + x76)) + (IntKind.u32.wrap ((bXor .u32 (bXor .u32 y79 y81) y83) + (bXor .u32 (bXor .u32 (bAnd .u32 x46 x49) (bAnd .u32 x46 x52)) (bAnd .u32 x49 x52)))))), x46, x49, x52, (IntKind.u32.wrap (x85 + (IntKind.u32.wrap ((IntKind.u32.wrap ((IntKind.u32.wrap ((IntKind.u32.wrap (x64 + (bXor .u32 (bXor .u32 y67 y69) y71))) + (bXor .u32 (bAnd .u32 x55 x58) (bAnd .u32 (bCom .u32 x55) x61)))) + x73)) + x76)))), x55, x58, x61] : List Int))) (c' := .d (eA209 ([(IntKind.u32.wrap ((IntKind.u32.wrap ((IntKind.u32.wrap ((IntKind.u32.wrap ((IntKind.u32.wrap (x64 + (bXor .u32 (bXor .u32 y67 y69) y71))) + (bXor .u32 (bAnd .u32 x55 x58) (bAnd .u32 (bCom .u32 x55) x61)))) + x73)) + x76)) + (IntKind.u32.wrap ((bXor .u32 (bXor .u32 y79 y81) y83) + (bXor .u32 (bXor .u32 (bAnd .u32 x46 x49) (bAnd .u32 x46 x52)) (bAnd .u32 x49 x52)))))), x46, x49, x52, (IntKind.u32.wrap (x85 + (IntKind.u32.wrap ((IntKind.u32.wrap ((IntKind.u32.wrap ((IntKind.u32.wrap (x64 + (bXor .u32 (bXor .u32 y67 y69) y71))) + (bXor .u32 (bAnd .u32 x55 x58) (bAnd .u32 (bCom .u32 x55) x61)))) + x73)) + x76)))), x55, x58, x61] : List Int))) rfl rfl (by rfl) ty210 (by rfl)) rfl (.c rfl (.c rfl .nil)) (.cons rfl .nil) ?_
     refine .nil ?_
     refine aq_block ?_
     refine aq_then ?_
     refine aw_r ?_
     refine .v (f_binI (by rfl) rfl (by rfl)) rfl (.c rfl (.c rfl .nil)) .nil ?_
     refine .mv rfl (by rfl) ?_
     refine .nil ?_
     obtain rfl := Option.some.inj h
     refine aq_weak (s' := ⟨[(0, .ptr 0 0 []), (4, .ptr 4 0 []), (8, .ptr 8 0 []), (100, .d (.val (.int .i64 (IntKind.i64.wrap (z1_0 + (1 : Int))))))], [(0, .av (.d (eA209 a1))), (4, .av (.d (eA223 o43))), (8, .av (.d (eA209 ([(IntKind.u32.wrap ((IntKind.u32.wrap ((IntKind.u32.wrap ((IntKind.u32.wrap ((IntKind.u32.wrap (x64 + (bXor .u32 (bXor .u32 y67 y69) y71))) + (bXor .u32 (bAnd .u32 x55 x58) (bAnd .u32 (bCom .u32 x55) x61)))) + x73)) + x76)) + (IntKind.u32.wrap ((bXor .u32 (bXor .u32 y79 y81) y83) + (bXor .u32 (bXor .u32 (bAnd .u32 x46 x49) (bAnd .u32 x46 x52)) (bAnd .u32 x49 x52)))))), x46, x49, x52, (IntKind.u32.wrap (x85 + (IntKind.u32.wrap ((IntKind.u32.wrap ((IntKind.u32.wrap ((IntKind.u32.wrap (x64 + (bXor .u32 (bXor .u32 y67 y69) y71))) + (bXor .u32 (bAnd .u32 x55 x58) (bAnd .u32 (bCom .u32 x55) x61)))) + x73)) + x76)))), x55, x58, x61] : List Int))))], []⟩) id hb0 (.keep rfl (.keep rfl (.keep rfl (.keep rfl .nil)))) (.keep rfl (.keep rfl (.keep rfl .nil))) rfl (by rfl) ?_
     exact jq
   replace h := ite_f hc45 h
   refine aw_exit ?_
   refine aq_then_exit ?_
   obtain rfl := Option.some.inj h
   refine aq_weak (s' := ⟨[(0, .ptr 0 0 []), (8, .ptr 8 0 [])], [(0, .av (.d (eA209 a1))), (8, .av (.d (eA209 z1_1)))], []⟩) id hb0 (.keep rfl (.keep rfl .nil)) (.keep rfl (.keep rfl .nil)) rfl (by rfl) ?_
   exact jq
 refine aq_block_exit ?_
 refine aq_then ?_
 refine aw_rs ?_
 refine .mv rfl (by rfl) ?_
 refine .nil (aq_then ?_)
 refine aw_block ?_
 refine aw_weak (s' := ⟨[(0, .ptr 0 0 []), (8, .ptr 8 0 []), (178, .d (.val (.int .i64 (0 : Int))))], [(0, .av (.d (eA209 a1))), (8, .av (.d (eA209 o88)))], []⟩) id hb0 (.keep rfl (.keep rfl (.keep rfl .nil))) (.keep rfl (.keep rfl .nil)) rfl (by rfl) ?_
 obtain ⟨o100, ho101, h⟩ := bind_some h
 refine aw_loopX (σ := Int × (List Int)) (fun z => ⟨[(0, .ptr 0 0 []), (8, .ptr 8 0 []), (178, .d (.val (.int .i64 z.1)))], [(0, .av (.d (eA209 z.2))), (8, .av (.d (eA209 o88)))], []⟩) (fun _ => (.exit 4)) (fun (o100 : (List Int)) => ⟨[], [(0, .av (.d (eA209 o100)))], []⟩) ho101 (fun _ => rfl) ?_ ?_
 · clear h ho101
   rintro ⟨z2_0, z2_1⟩ o h
   change F160_sha_state_block_f5d_s2 o88 z2_0 z2_1 = some o at h
   unfold F160_sha_state_block_f5d_s2 at h
   show AW _ _ _ ⟨[(0, .ptr 0 0 []), (8, .ptr 8 0 []), (178, .d (.val (.int .i64 z2_0)))], [(0, .av (.d (eA209 z2_1))), (8, .av (.d (eA209 o88)))], []⟩
   refine aw_rs ?_
   refine .v (f_binI (by rfl) rfl (by rfl)) rfl (.c rfl (.c rfl .nil)) .nil ?_
   refine .nil (aq_then ?_)
   refine aw_seq ?_
   refine aw_cond rfl (fun hc90 => ?_) (fun hc90 => ?_)
   · replace h := ite_t hc90 h
     refine aw_skip ?_
     refine aq_then ?_
     refine aw_seq ?_
     refine aw_block ?_
     refine aw_rs ?_
     refine .mv rfl (by rfl) ?_
     refine .as rfl (by rfl) ?_
     refine .nil (aq_then ?_)
     refine aw_rd ?_
     refine .v (f_move (by rfl)) rfl (.c rfl .nil) .nil ?_
     refine .v (f_move (by rfl)) rfl (.c rfl .nil) .nil ?_
     refine .v (f_nilCheck (by rfl)) rfl (.c rfl .nil) .nil ?_
     obtain ⟨x91, hx92, h⟩ := bind_some h
     obtain ⟨hx93, hx92⟩ := rd_some hx92
     refine .v (f_indexO (by rfl) ar210 rfl hx93 (rd_map _ hx92)) rfl (.c rfl (.c rfl .nil)) (.cons rfl .nil) ?_
     refine .v (f_load (n := 0) (o := 0) (off := (0 + (z2_0).toNat * 1)) (p := [(z2_0).toNat]) (c := .d (eA209 z2_1)) (z := .d (.val (.int .u32 x91))) (by rfl) (at_map _ hx92 (by simp)) ty208 (by rfl)) rfl (.c rfl .nil) (.cons rfl .nil) ?_
     refine .v (f_move (by rfl)) rfl (.c rfl .nil) .nil ?_
     obtain ⟨x94, hx95, h⟩ := bind_some h
     obtain ⟨hx96, hx95⟩ := rd_some hx95
     refine .v (f_indexO (by rfl) ar210 rfl hx96 (rd_map _ hx95)) rfl (.c rfl (.c rfl .nil)) (.cons rfl .nil) ?_
     refine .v (f_load (n := 0) (o := 8) (off := (0 + (z2_0).toNat * 1)) (p := [(z2_0).toNat]) (c := .d (eA209 o88)) (z := .d (.val (.int .u32 x94))) (by rfl) (at_map _ hx95 (by simp)) ty208 (by rfl)) rfl (.c rfl .nil) (.cons rfl .nil) ?_
     refine .v (f_binI (by rfl) rfl (by rfl)) rfl (.c rfl (.c rfl .nil)) .nil ?_
     refine .v (f_nilCheck (by rfl)) rfl (.c rfl .nil) .nil ?_
     obtain ⟨x97, hx98, h⟩ := bind_some h
     obtain ⟨hx99, hx98⟩ := rd_some hx98
     refine .v (f_indexO (by rfl) ar210 rfl hx99 (rd_map _ hx98)) rfl (.c rfl (.c rfl .nil)) (.cons rfl .nil) ?_
     refine .s (f_store (n := 0) (o := 0) (off := (0 + (z2_0).toNat * 1)) (p := [(z2_0).toNat]) (c := .d (eA209 z2_1)) (old := .d (.val (.int .u32 x97))) (z := .d (.val (.int .u32 (IntKind.u32.wrap (x91 + x94))))) (c' := .d (eA209 (z2_1.set (z2_0).toNat (IntKind.u32.wrap (x91 + x94))))) (at_map _ hx98 (by simp)) (put_map _ hx98) (by rfl) ty208 (by rfl)) rfl (.c rfl (.c rfl .nil)) (.cons rfl .nil) ?_
     refine .nil (by kernel_rfl) ?_
     refine aq_block ?_
     refine aq_then ?_
     refine aw_r ?_
     refine .v (f_binI (by rfl) rfl (by rfl)) rfl (.c rfl (.c rfl .nil)) .nil ?_
     refine .mv rfl (by rfl) ?_
     refine .nil ?_
     obtain rfl := Option.some.inj h
     refine aq_weak (s' := ⟨[(0, .ptr 0 0 []), (8, .ptr 8 0 []), (178, .d (.val (.int .i64 (IntKind.i64.wrap (z2_0 + (1 : Int))))))], [(0, .av (.d (eA209 (z2_1.set (z2_0).toNat (IntKind.u32.wrap (x91 + x94)))))), (8, .av (.d (eA209 o88)))], []⟩) id hb0 (.keep rfl (.keep rfl (.keep rfl .nil))) (.keep rfl (.keep rfl .nil)) rfl (by rfl) ?_
     exact jq
   replace h := ite_f hc90 h
   refine aw_exit ?_
   refine aq_then_exit ?_
   obtain rfl := Option.some.inj h
   refine aq_weak (s' := ⟨[], [(0, .av (.d (eA209 z2_1)))], []⟩) id hb0 .nil (.keep rfl .nil) rfl (by rfl) ?_
   exact jq
 refine aq_block_exit ?_
 obtain rfl := Option.some.inj h
 refine aq_weak (s' := ⟨[], [(0, .av (.d (eA209 o100)))], []⟩) id hb0 .nil (.keep rfl .nil) rfl (by rfl) ?_
 exact aq_fin0 .nil rfl ⟨rfl, rfl⟩

/- 137: beadroll/sha.Of -/
def F137_sha_Of_s1 (n : Nat) (z1_0 : (List Int)) (z1_1 : List Int) : Option (((List Int) × List Int) ⊕ ((List Int) × List Int)) :=
  (if (decide (((z1_1).length : Int) ≥ (64 : Int))) = true then (if 0 ≤ (0 : Int) ∧ (0 : Int) ≤ (64 : Int) ∧ (64 : Int) ≤ (((z1_1).length : Nat) : Int) then ((F160_sha_state_block_f5d n (((z1_1).drop (0)).take ((((64 : Int)).toNat - ((0 : Int)).toNat))) z1_0).bind fun (y8 : (List Int)) => (if 0 ≤ (64 : Int) ∧ (64 : Int) ≤ (((z1_1).length : Nat) : Int) ∧ (((z1_1).length : Nat) : Int) ≤ (((z1_1).length : Nat) : Int) then some (.inl (y8, ((z1_1).drop ((0 + ((64 : Int)).toNat))))) else none)) else none) else some (.inr (z1_0, z1_1)))
def F137_sha_Of_s0 (n : Nat) (a0 : (List (List Int))) (z0_0 : Int) (z0_1 : Int) (z0_2 : (List Int)) (z0_3 : List Int) : Option ((Int × Int × (List Int) × List Int) ⊕ (Int × (List Int) × List Int)) :=
  (if (decide (z0_1 < ((a0).length : Int))) = true then ((rd a0 z0_1).bind fun (x2 : (List Int)) => (if ((z0_3 ++ x2)).length ≤ 1073741824 then ((loopF (fun (z : (List Int) × List Int) => F137_sha_Of_s1 n z.1 z.2) n (z0_2, (z0_3 ++ x2))).bind fun (o11 : (List Int) × List Int) => some (.inl ((IntKind.u64.wrap (z0_0 + (IntKind.u64.wrap ((x2).length : Int)))), (IntKind.i64.wrap (z0_1 + (1 : Int))), o11.1, o11.2))) else none)) else some (.inr (z0_0, z0_2, z0_3)))
def F137_sha_Of_s2 (z2_0 : List Int) : Option ((List Int) ⊕ (List Int)) :=
  (if ((Int.tmod ((z2_0).length : Int) (64 : Int)) != (56 : Int)) = true then (if ((z2_0 ++ ([(0 : Int)] : List Int))).length ≤ 1073741824 then some (.inl (z2_0 ++ ([(0 : Int)] : List Int))) else none) else some (.inr z2_0))
def F137_sha_Of_s3 (o13 : Int × (List Int) × List Int) (z3_0 : Int) (z3_1 : List Int) : Option ((Int × List Int) ⊕ (List Int)) :=
  (if (decide (z3_0 ≥ (0 : Int))) = true then (if 0 ≤ z3_0 then (if ((z3_1 ++ ([(IntKind.u8.wrap (shr .u64 (IntKind.u64.wrap ((8 : Int) * o13.1)) z3_0))] : List Int))).length ≤ 1073741824 then some (.inl ((IntKind.i64.wrap (z3_0 - (8 : Int))), (z3_1 ++ ([(IntKind.u8.wrap (shr .u64 (IntKind.u64.wrap ((8 : Int) * o13.1)) z3_0))] : List Int)))) else none) else none) else some (.inr z3_1))
def F137_sha_Of_s4 (n : Nat) (z4_0 : (List Int)) (z4_1 : List Int) : Option (((List Int) × List Int) ⊕ ((List Int))) :=
  (if (decide (((z4_1).length : Int) > (0 : Int))) = true then (if 0 ≤ (0 : Int) ∧ (0 : Int) ≤ (64 : Int) ∧ (64 : Int) ≤ (((z4_1).length : Nat) : Int) then ((F160_sha_state_block_f5d n (((z4_1).drop (0)).take ((((64 : Int)).toNat - ((0 : Int)).toNat))) z4_0).bind fun (y27 : (List Int)) => (if 0 ≤ (64 : Int) ∧ (64 : Int) ≤ (((z4_1).length : Nat) : Int) ∧ (((z4_1).length : Nat) : Int) ≤ (((z4_1).length : Nat) : Int) then some (.inl (y27, ((z4_1).drop ((0 + ((64 : Int)).toNat))))) else none)) else none) else some (.inr z4_0))
def F137_sha_Of_s5 (o30 : (List Int)) (z5_0 : Int) (z5_1 : (List Int)) : Option ((Int × (List Int)) ⊕ ((List Int))) :=
  (if (decide (z5_0 < (32 : Int))) = true then ((rd o30 (IntKind.i64.wrap (Int.tdiv z5_0 (4 : Int)))).bind fun (x33 : Int) => (if 0 ≤ (IntKind.i64.wrap ((24 : Int) - (IntKind.i64.wrap ((8 : Int) * (Int.tmod z5_0 (4 : Int)))))) then ((rd z5_1 z5_0).bind fun (x37 : Int) => some (.inl ((IntKind.i64.wrap (z5_0 + (1 : Int))), (z5_1.set (z5_0).toNat (IntKind.u8.wrap (shr .u32 x33 (IntKind.i64.wrap ((24 : Int) - (IntKind.i64.wrap ((8 : Int) * (Int.tmod z5_0 (4 : Int)))))))))))) else none)) else some (.inr z5_1))
def F137_sha_Of (n : Nat) (a0 : (List (List Int))) : Option ((List Int)) :=
  ((loopF (fun (z : Int × Int × (List Int) × List Int) => F137_sha_Of_s0 n a0 z.1 z.2.1 z.2.2.1 z.2.2.2) n ((0 : Int), (0 : Int), ([(1779033703 : Int), (3144134277 : Int), (1013904242 : Int), (2773480762 : Int), (1359893119 : Int), (2600822924 : Int), (528734635 : Int), (1541459225 : Int)] : List Int), ([] : List Int))).bind fun (o13 : Int × (List Int) × List Int) => (if ((o13.2.2 ++ ([(128 : Int)] : List Int))).length ≤ 1073741824 then ((loopF (fun (z : List Int) => F137_sha_Of_s2  z) n (o13.2.2 ++ ([(128 : Int)] : List Int))).bind fun (o18 : List Int) => ((loopF (fun (z : Int × List Int) => F137_sha_Of_s3 o13 z.1 z.2) n ((56 : Int), o18)).bind fun (o23 : List Int) => ((loopF (fun (z : (List Int) × List Int) => F137_sha_Of_s4 n z.1 z.2) n (o13.2.1, o23)).bind fun (o30 : (List Int)) => ((loopF (fun (z : Int × (List Int)) => F137_sha_Of_s5 o30 z.1 z.2) n ((0 : Int), (List.replicate 32 (0 : Int)))).bind fun (o40 : (List Int)) => some o40)))) else none))
theorem F137_sha_Of_ok {n : Nat} {a0 : (List (List Int))} {r : (List Int)} (h : F137_sha_Of n a0 = some r) :
    ACall Tryd.prog GS 137 [.d (eL180 a0)] [] (fun r' hp' => r' = .d (eA22 r) ∧ hp' = []) := by
 refine acall_of_body mixed Tryd.func137 rfl (by rfl) ?_
 intro C hro hgl hb0
 unfold F137_sha_Of at h
 refine aw_rs ?_
 refine .n (f_alloc 2 (by rfl) zr23) rfl .nil rfl ?_
 refine .nil (aq_then ?_)
 refine aw_rs ?_
 refine .v (f_build (xs := [(0, .d (.val (.int .u32 (1779033703 : Int)))), (1, .d (.val (.int .u32 (3144134277 : Int)))), (2, .d (.val (.int .u32 (1013904242 : Int)))), (3, .d (.val (.int .u32 (2773480762 : Int)))), (4, .d (.val (.int .u32 (1359893119 : Int)))), (5, .d (.val (.int .u32 (2600822924 : Int)))), (6, .d (.val (.int .u32 (528734635 : Int)))), (7, .d (.val (.int .u32 (1541459225 : Int))))]) (z' := .d (eA209 ([(1779033703 : Int), (3144134277 : Int), (1013904242 : Int), (2773480762 : Int), (1359893119 : Int), (2600822924 : Int), (528734635 : Int), (1541459225 : Int)] : List Int))) (by rfl) zr210 ag210 rfl (by rfl) ⟨_, _, _, rfl, pl210_0, rfl, rfl, ⟨_, _, _, rfl, pl210_1, rfl, rfl, ⟨_, _, _, rfl, pl210_2, rfl, rfl, ⟨_, _, _, rfl, pl210_3, rfl, rfl, ⟨_, _, _, rfl, pl210_4, rfl, rfl, ⟨_, _, _, rfl, pl210_5, rfl, rfl, ⟨_, _, _, rfl, pl210_6, rfl, rfl, ⟨_, _, _, rfl, pl210_7, rfl, rfl, trivial⟩⟩⟩⟩⟩⟩⟩⟩ (by rfl) (by rfl)) rfl (.c rfl (.c rfl (.c rfl (.c rfl (.c rfl (.c rfl (.c rfl (.c rfl .nil)))))))) .nil ?_
 refine .n (f_alloc 3 (by rfl) zr210) rfl .nil rfl ?_
 refine .s (f_store (n := 0) (o := 3) (off := 0) (p := []) (c := .d (eA209 (List.replicate 8 (0 : Int)))) (old := .d (eA209 (List.replicate 8 (0 : Int)))) (z := .d (eA209 ([(1779033703 : Int), (3144134277 : Int), (1013904242 : Int), (2773480762 : Int), (1359893119 : Int), (2600822924 : Int), (528734635 : Int), (1541459225 : Int)] : List Int))) (c' := .d (eA209 ([(1779033703 : Int), (3144134277 : Int), (1013904242 : Int), (2773480762 : Int), (1359893119 : Int), (2600822924 : Int), (528734635 : Int), (1541459225 : Int)] : List Int))) rfl rfl (by rfl) ty210 (by rfl)) rfl (.c rfl (.c rfl .nil)) (.cons rfl .nil) ?_
 refine .nil (aq_then ?_)
 refine aw_rs ?_
 refine .as rfl (by rfl) ?_
 refine .nil (aq_then ?_)
 refine aw_rs ?_
 refine .as rfl (by rfl) ?_
 refine .nil (aq_then ?_)
 refine aw_seq ?_
 refine aw_rs ?_
 refine .mv rfl (by rfl) ?_
 refine .v (f_lenD (n := (a0).length) (by rfl) sl180 rfl (by simp)) rfl (.c rfl .nil) .nil ?_
 refine .mv rfl (by rfl) ?_
 refine .nil (aq_then ?_)
 refine aw_block ?_
 refine aw_adopt 4 1030 1 rfl rfl ?_
 refine aw_weak (s' := ⟨[(2, .ptr 2 0 []), (3, .ptr 3 0 []), (4, .slc 1030 0 ((([] : List Int)).length) 1), (5, .d (.val (.int .u64 (0 : Int)))), (11, .d (eL180 a0)), (12, .d (.val (.int .i64 ((a0).length : Int)))), (13, .d (.val (.int .i64 (0 : Int))))], [(2, .av (.d (eA22 (List.replicate 32 (0 : Int))))), (3, .av (.d (eA209 ([(1779033703 : Int), (3144134277 : Int), (1013904242 : Int), (2773480762 : Int), (1359893119 : Int), (2600822924 : Int), (528734635 : Int), (1541459225 : Int)] : List Int)))), (1030, .av (.d (.arr 1 ((([] : List Int)).length) ((([] : List Int)).map eI_u8))))], []⟩) id hb0 (.keep rfl (.keep rfl (.keep (by simp only [List.length_set]; rfl) (.keep rfl (.keep rfl (.keep rfl (.keep rfl .nil))))))) (.keep rfl (.keep rfl (.keep (by simp only [List.length_set]; rfl) .nil))) rfl (by rfl) ?_
 obtain ⟨o13, ho14, h⟩ := bind_some h
 refine aw_loopX (σ := Int × Int × (List Int) × List Int) (fun z => ⟨[(2, .ptr 2 0 []), (3, .ptr 3 0 []), (4, .slc 1030 0 ((z.2.2.2).length) 1), (5, .d (.val (.int .u64 z.1))), (11, .d (eL180 a0)), (12, .d (.val (.int .i64 ((a0).length : Int)))), (13, .d (.val (.int .i64 z.2.1)))], [(2, .av (.d (eA22 (List.replicate 32 (0 : Int))))), (3, .av (.d (eA209 z.2.2.1))), (1030, .av (.d (.arr 1 ((z.2.2.2).length) ((z.2.2.2).map eI_u8))))], []⟩) (fun _ => (.exit 0)) (fun (o13 : Int × (List Int) × List Int) => ⟨[(2, .ptr 2 0 []), (3, .ptr 3 0 []), (4, .slc 1030 0 ((o13.2.2).length) 1), (5, .d (.val (.int .u64 o13.1)))], [(2, .av (.d (eA22 (List.replicate 32 (0 : Int))))), (3, .av (.d (eA209 o13.2.1))), (1030, .av (.d (.arr 1 ((o13.2.2).length) ((o13.2.2).map eI_u8))))], []⟩) ho14 (fun _ => rfl) ?_ ?_
 · clear h ho14
   rintro ⟨z0_0, z0_1, z0_2, z0_3⟩ o h
   change F137_sha_Of_s0 n a0 z0_0 z0_1 z0_2 z0_3 = some o at h
   unfold F137_sha_Of_s0 at h
   show AW _ _ _ ⟨[(2, .ptr 2 0 []), (3, .ptr 3 0 []), (4, .slc 1030 0 ((z0_3).length) 1), (5, .d (.val (.int .u64 z0_0))), (11, .d (eL180 a0)), (12, .d (.val (.int .i64 ((a0).length : Int)))), (13, .d (.val (.int .i64 z0_1)))], [(2, .av (.d (eA22 (List.replicate 32 (0 : Int))))), (3, .av (.d (eA209 z0_2))), (1030, .av (.d (.arr 1 ((z0_3).length) ((z0_3).map eI_u8))))], []⟩
   refine aw_rs ?_
   refine .v (f_binI (by rfl) rfl (by rfl)) rfl (.c rfl (.c rfl .nil)) .nil ?_
   refine .nil (aq_then ?_)
   refine aw_seq ?_
   refine aw_cond rfl (fun hc1 => ?_) (fun hc1 => ?_)
   · replace h := ite_t hc1 h
     refine aw_skip ?_
     refine aq_then ?_
     refine aw_seq ?_
     refine aw_block ?_
     refine aw_rs ?_
     obtain ⟨x2, hx3, h⟩ := bind_some h
     obtain ⟨hx4, hx3⟩ := rd_some hx3
     refine .v (f_indexS (by rfl) sl180 hx4 (rd_map _ hx3)) rfl (.c rfl (.c rfl .nil)) .nil ?_
     refine .v (f_loadR (z := (eL139 x2)) (by rfl) ty139) rfl (.c rfl .nil) .nil ?_
     refine .as rfl (by rfl) ?_
     refine .nil (aq_then ?_)
     refine aw_rs ?_
     refine .mv rfl (by rfl) ?_
     refine .mv rfl (by rfl) ?_
     refine .v (f_lenD (n := (x2).length) (by rfl) sl139 rfl (by simp)) rfl (.c rfl .nil) .nil ?_
     refine .v (f_convI (by rfl) un3 un27) rfl (.c rfl .nil) .nil ?_
     refine .v (f_binI (by rfl) rfl (by rfl)) rfl (.c rfl (.c rfl .nil)) .nil ?_
     refine .as rfl (by rfl) ?_
     refine .nil (aq_then ?_)
     refine aw_rs ?_
     refine .mv rfl (by rfl) ?_
     refine .mv rfl (by rfl) ?_
     obtain ⟨hb5, h⟩ := ifp h
     refine .w (f_appendC (m := ((z0_3 ++ x2)).length) (ys := (x2 : List Int).map eI_u8) (xs := (z0_3).map eI_u8) (zs := ((z0_3 ++ x2)).map eI_u8) 1034 (by rfl) el139 (by simp) (by simp) (by simp [List.map_drop]) (by simp) (Nat.le_trans (Nat.mul_le_mul_right _ hb5) (by decide)) (Nat.le_trans hb5 (by decide)) srcD) rfl (.c rfl (.c rfl .nil)) (.cons rfl .nil) (.cons rfl .nil) ?_
     refine .as rfl (by rfl) ?_
     refine .nil (aq_then ?_)
     refine aw_block ?_
     refine aw_weak (s' := ⟨[(2, .ptr 2 0 []), (3, .ptr 3 0 []), (4, .slc 1034 0 (((z0_3 ++ x2)).length) 1), (5, .d (.val (.int .u64 (IntKind.u64.wrap (z0_0 + (IntKind.u64.wrap ((x2).length : Int))))))), (11, .d (eL180 a0)), (12, .d (.val (.int .i64 ((a0).length : Int)))), (13, .d (.val (.int .i64 z0_1)))], [(2, .av (.d (eA22 (List.replicate 32 (0 : Int))))), (3, .av (.d (eA209 z0_2))), (1034, .av (.d (.arr 1 (((z0_3 ++ x2)).length) (((z0_3 ++ x2)).map eI_u8))))], []⟩) id hb0 (.keep rfl (.keep rfl (.keep rfl (.keep rfl (.keep rfl (.keep rfl (.keep rfl .nil))))))) (.keep rfl (.keep rfl (.keep rfl .nil))) rfl (by rfl) ?_
     obtain ⟨o11, ho12, h⟩ := bind_some h
     refine aw_loopX (σ := (List Int) × List Int) (fun z => ⟨[(2, .ptr 2 0 []), (3, .ptr 3 0 []), (4, .slc 1034 0 ((z.2).length) 1), (5, .d (.val (.int .u64 (IntKind.u64.wrap (z0_0 + (IntKind.u64.wrap ((x2).length : Int))))))), (11, .d (eL180 a0)), (12, .d (.val (.int .i64 ((a0).length : Int)))), (13, .d (.val (.int .i64 z0_1)))], [(2, .av (.d (eA22 (List.replicate 32 (0 : Int))))), (3, .av (.d (eA209 z.1))), (1034, .av (.d (.arr 1 ((z.2).length) ((z.2).map eI_u8))))], []⟩) (fun _ => (.exit 2)) (fun (o11 : (List Int) × List Int) => ⟨[(2, .ptr 2 0 []), (3, .ptr 3 0 []), (4, .slc 1034 0 ((o11.2).length) 1), (5, .d (.val (.int .u64 (IntKind.u64.wrap (z0_0 + (IntKind.u64.wrap ((x2).length : Int))))))), (11, .d (eL180 a0)), (12, .d (.val (.int .i64 ((a0).length : Int)))), (13, .d (.val (.int .i64 z0_1)))], [(2, .av (.d (eA22 (List.replicate 32 (0 : Int))))), (3, .av (.d (eA209 o11.1))), (1034, .av (.d (.arr 1 ((o11.2).length) ((o11.2).map eI_u8))))], []⟩) ho12 (fun _ => rfl) ?_ ?_
     · clear h ho12
       rintro ⟨z1_0, z1_1⟩ o h
       change F137_sha_Of_s1 n z1_0 z1_1 = some o at h
       unfold F137_sha_Of_s1 at h
       show AW _ _ _ ⟨[(2, .ptr 2 0 []), (3, .ptr 3 0 []), (4, .slc 1034 0 ((z1_1).length) 1), (5, .d (.val (.int .u64 (IntKind.u64.wrap (z0_0 + (IntKind.u64.wrap ((x2).length : Int))))))), (11, .d (eL180 a0)), (12, .d (.val (.int .i64 ((a0).length : Int)))), (13, .d (.val (.int .i64 z0_1)))], [(2, .av (.d (eA22 (List.replicate 32 (0 : Int))))), (3, .av (.d (eA209 z1_0))), (1034, .av (.d (.arr 1 ((z1_1).length) ((z1_1).map eI_u8))))], []⟩
       refine aw_seq ?_
       refine aw_rs ?_
       refine .mv rfl (by rfl) ?_
       refine .v (f_lenO (by rfl) sl139 rfl) rfl (.c rfl .nil) .nil ?_
       refine .v (f_binI (by rfl) rfl (by rfl)) rfl (.c rfl (.c rfl .nil)) .nil ?_
       refine .nil (aq_then ?_)
       refine aw_cond rfl (fun hc6 => ?_) (fun hc6 => ?_)
       · replace h := ite_t hc6 h
         refine aw_skip ?_
         refine aq_then ?_
         refine aw_seq ?_
         refine aw_block ?_
         refine aw_r ?_
         refine .mv rfl (by rfl) ?_
         obtain ⟨hb7, h⟩ := ifp h
         refine .v (f_sliceOE (k1 := .i64) (k2 := .i64) (i := (0 : Int)) (j := (64 : Int)) (off' := 0) (len' := (((64 : Int)).toNat - ((0 : Int)).toNat)) (by rfl) sl139 (by intro hx; first | rfl | cases hx) (by intro hx; first | rfl | cases hx) hb7.1 hb7.2.1 hb7.2.2 (by simp) (by simp)) rfl (.c rfl (.c rfl .nil)) .nil ?_
         obtain ⟨y8, hy9, h⟩ := bind_some h
         refine .w (f_callH (xs := [.ptr 3 0 [], .slc 1034 0 (((64 : Int)).toNat - ((0 : Int)).toNat) 1]) (r := .res []) (hw := [(3, .av (.d (eA209 y8)))]) (fun i => bif Nat.beq i 0 then 3 else i) [(1034, (.arr 1 ((z1_1).length) ((z1_1).map eI_u8)))] hgl (by rfl) (cal_f en160) rfl (by rfl) (by rfl) (by rfl) (by rfl) (by rfl) (.cons (.same _) (.cons (.slcE (.head _) (by simp [List.map_drop, List.map_take]) (by simp <;> omega)) .nil)) rfl rfl rfl rfl (by rfl) trivial ⟨(fl_eA209 _), trivial⟩ (F160_sha_state_block_f5d_ok hy9)) rfl (.c rfl (.c rfl .nil)) (.cons rfl (.cons rfl .nil)) .nil ?_
         refine .nil ?_
         refine aq_block ?_
         refine aq_then ?_
         refine aw_r ?_
         refine .mv rfl (by rfl) ?_
         obtain ⟨hb10, h⟩ := ifp h
         refine .v (f_sliceOE (k1 := .i64) (k2 := .i64) (i := (64 : Int)) (j := (((z1_1).length : Nat) : Int)) (off' := (0 + ((64 : Int)).toNat)) (len' := (((((z1_1).length : Nat) : Int)).toNat - ((64 : Int)).toNat)) (by rfl) sl139 (by intro hx; first | rfl | cases hx) (by intro hx; first | rfl | cases hx) hb10.1 hb10.2.1 hb10.2.2 (by simp) (by simp)) rfl (.c rfl (.c rfl .nil)) .nil ?_
         refine .as rfl (by rfl) ?_
         refine .nil ?_
         obtain rfl := Option.some.inj h
         refine aq_anewE (n := (z1_1).length) (m := (((z1_1).drop ((0 + ((64 : Int)).toNat)))).length) (zs := (((z1_1).drop ((0 + ((64 : Int)).toNat)))).map eI_u8) 4 1036 rfl rfl rfl (by simp [List.map_drop]) (by simp <;> omega) (by simp) ?_
         refine aq_weak (s' := ⟨[(2, .ptr 2 0 []), (3, .ptr 3 0 []), (4, .slc 1034 0 ((((z1_1).drop ((0 + ((64 : Int)).toNat)))).length) 1), (5, .d (.val (.int .u64 (IntKind.u64.wrap (z0_0 + (IntKind.u64.wrap ((x2).length : Int))))))), (11, .d (eL180 a0)), (12, .d (.val (.int .i64 ((a0).length : Int)))), (13, .d (.val (.int .i64 z0_1)))], [(2, .av (.d (eA22 (List.replicate 32 (0 : Int))))), (3, .av (.d (eA209 y8))), (1034, .av (.d (.arr 1 ((((z1_1).drop ((0 + ((64 : Int)).toNat)))).length) ((((z1_1).drop ((0 + ((64 : Int)).toNat)))).map eI_u8))))], []⟩) (fun i => (bif Nat.beq i 1034 then 1036 else i)) hb0 (.cons rfl (.cons rfl (.cons rfl (.cons rfl (.cons rfl (.cons rfl (.cons rfl .nil))))))) (.cons rfl (.cons rfl (.cons rfl .nil))) rfl (by rfl) ?_
         exact jq
       replace h := ite_f hc6 h
       refine aw_exit ?_
       refine aq_then_exit ?_
       obtain rfl := Option.some.inj h
       refine aq_weak (s' := ⟨[(2, .ptr 2 0 []), (3, .ptr 3 0 []), (4, .slc 1034 0 ((z1_1).length) 1), (5, .d (.val (.int .u64 (IntKind.u64.wrap (z0_0 + (IntKind.u64.wrap ((x2).length : Int))))))), (11, .d (eL180 a0)), (12, .d (.val (.int .i64 ((a0).length : Int)))), (13, .d (.val (.int .i64 z0_1)))], [(2, .av (.d (eA22 (List.replicate 32 (0 : Int))))), (3, .av (.d (eA209 z1_0))), (1034, .av (.d (.arr 1 ((z1_1).length) ((z1_1).map eI_u8))))], []⟩) id hb0 (.keep rfl (.keep rfl (.keep rfl (.keep rfl (.keep rfl (.keep rfl (.keep rfl .nil))))))) (.keep rfl (.keep rfl (.keep rfl .nil))) rfl (by rfl) ?_
       exact jq
     refine aq_block_exit ?_
     refine aq_block ?_
     refine aq_then ?_
     refine aw_r ?_
     refine .v (f_binI (by rfl) rfl (by rfl)) rfl (.c rfl (.c rfl .nil)) .nil ?_
     refine .mv rfl (by rfl) ?_
     refine .nil ?_
     obtain rfl := Option.some.inj h
     refine aq_weak (s' := ⟨[(2, .ptr 2 0 []), (3, .ptr 3 0 []), (4, .slc 1030 0 ((o11.2).length) 1), (5, .d (.val (.int .u64 (IntKind.u64.wrap (z0_0 + (IntKind.u64.wrap ((x2).length : Int))))))), (11, .d (eL180 a0)), (12, .d (.val (.int .i64 ((a0).length : Int)))), (13, .d (.val (.int .i64 (IntKind.i64.wrap (z0_1 + (1 : Int))))))], [(2, .av (.d (eA22 (List.replicate 32 (0 : Int))))), (3, .av (.d (eA209 o11.1))), (1030, .av (.d (.arr 1 ((o11.2).length) ((o11.2).map eI_u8))))], []⟩) (fun i => (bif Nat.beq i 1030 then 1034 else i)) hb0 (.cons rfl (.cons rfl (.cons rfl (.cons rfl (.cons rfl (.cons rfl (.cons rfl .nil))))))) (.cons rfl (.cons rfl (.cons rfl .nil))) rfl (by rfl) ?_
     exact jq
   replace h := ite_f hc1 h
   refine aw_exit ?_
   refine aq_then_exit ?_
   obtain rfl := Option.some.inj h
   refine aq_weak (s' := ⟨[(2, .ptr 2 0 []), (3, .ptr 3 0 []), (4, .slc 1030 0 ((z0_3).length) 1), (5, .d (.val (.int .u64 z0_0)))], [(2, .av (.d (eA22 (List.replicate 32 (0 : Int))))), (3, .av (.d (eA209 z0_2))), (1030, .av (.d (.arr 1 ((z0_3).length) ((z0_3).map eI_u8))))], []⟩) id hb0 (.keep rfl (.keep rfl (.keep rfl (.keep rfl .nil)))) (.keep rfl (.keep rfl (.keep rfl .nil))) rfl (by rfl) ?_
   exact jq
 refine aq_block_exit ?_
 refine aq_then ?_
 refine aw_rs ?_
 refine .mv rfl (by rfl) ?_
 refine .n (f_buildS (xs := [(0, .d (.val (.int .u8 (128 : Int))))]) (z := (.val (.int .u8 (0 : Int)))) (zs := (([(128 : Int)] : List Int)).map eI_u8) 1037 (by rfl) el139 zel139 (by rfl) (by decide) (by decide) rfl (by rfl) ⟨_, _, _, rfl, pl139_0, rfl, rfl, trivial⟩ (by rfl)) rfl (.c rfl .nil) rfl ?_
 obtain ⟨hb15, h⟩ := ifp h
 refine .w (f_appendC (m := ((o13.2.2 ++ ([(128 : Int)] : List Int))).length) (ys := (([(128 : Int)] : List Int) : List Int).map eI_u8) (xs := (o13.2.2).map eI_u8) (zs := ((o13.2.2 ++ ([(128 : Int)] : List Int))).map eI_u8) 1038 (by rfl) el139 (by simp) (by simp) (by simp [List.map_drop]) (by simp) (Nat.le_trans (Nat.mul_le_mul_right _ hb15) (by decide)) (Nat.le_trans hb15 (by decide)) srcW) rfl (.c rfl (.c rfl .nil)) (.cons rfl (.cons rfl .nil)) (.cons rfl .nil) ?_
 refine .as rfl (by rfl) ?_
 refine .nil (aq_then ?_)
 refine aw_seq ?_
 refine aw_block ?_
 refine aw_weak (s' := ⟨[(2, .ptr 2 0 []), (3, .ptr 3 0 []), (4, .slc 1038 0 (((o13.2.2 ++ ([(128 : Int)] : List Int))).length) 1), (5, .d (.val (.int .u64 o13.1)))], [(2, .av (.d (eA22 (List.replicate 32 (0 : Int))))), (3, .av (.d (eA209 o13.2.1))), (1038, .av (.d (.arr 1 (((o13.2.2 ++ ([(128 : Int)] : List Int))).length) (((o13.2.2 ++ ([(128 : Int)] : List Int))).map eI_u8))))], []⟩) id hb0 (.keep rfl (.keep rfl (.keep rfl (.keep rfl .nil)))) (.keep rfl (.keep rfl (.keep rfl .nil))) rfl (by rfl) ?_
 obtain ⟨o18, ho19, h⟩ := bind_some h
 refine aw_loopX (σ := List Int) (fun z => ⟨[(2, .ptr 2 0 []), (3, .ptr 3 0 []), (4, .slc 1038 0 ((z).length) 1), (5, .d (.val (.int .u64 o13.1)))], [(2, .av (.d (eA22 (List.replicate 32 (0 : Int))))), (3, .av (.d (eA209 o13.2.1))), (1038, .av (.d (.arr 1 ((z).length) ((z).map eI_u8))))], []⟩) (fun _ => (.exit 4)) (fun (o18 : List Int) => ⟨[(2, .ptr 2 0 []), (3, .ptr 3 0 []), (4, .slc 1038 0 ((o18).length) 1), (5, .d (.val (.int .u64 o13.1)))], [(2, .av (.d (eA22 (List.replicate 32 (0 : Int))))), (3, .av (.d (eA209 o13.2.1))), (1038, .av (.d (.arr 1 ((o18).length) ((o18).map eI_u8))))], []⟩) ho19 (fun _ => rfl) ?_ ?_
 · clear h ho19
   intro z2_0 o h
   change F137_sha_Of_s2  z2_0 = some o at h
   unfold F137_sha_Of_s2 at h
   show AW _ _ _ ⟨[(2, .ptr 2 0 []), (3, .ptr 3 0 []), (4, .slc 1038 0 ((z2_0).length) 1), (5, .d (.val (.int .u64 o13.1)))], [(2, .av (.d (eA22 (List.replicate 32 (0 : Int))))), (3, .av (.d (eA209 o13.2.1))), (1038, .av (.d (.arr 1 ((z2_0).length) ((z2_0).map eI_u8))))], []⟩
   refine aw_seq ?_
   refine aw_rs ?_
   refine .mv rfl (by rfl) ?_
   refine .v (f_lenO (by rfl) sl139 rfl) rfl (.c rfl .nil) .nil ?_
   refine .v (f_binI (by rfl) (rem_ok (by decide)) (by rfl)) rfl (.c rfl (.c rfl .nil)) .nil ?_
   refine .v (f_binI (by rfl) rfl (by rfl)) rfl (.c rfl (.c rfl .nil)) .nil ?_
   refine .nil (aq_then ?_)
   refine aw_cond rfl (fun hc16 => ?_) (fun hc16 => ?_)
   · replace h := ite_t hc16 h
     refine aw_skip ?_
     refine aq_then ?_
     refine aw_block ?_
     refine aw_r ?_
     refine .mv rfl (by rfl) ?_
     refine .n (f_buildS (xs := [(0, .d (.val (.int .u8 (0 : Int))))]) (z := (.val (.int .u8 (0 : Int)))) (zs := (([(0 : Int)] : List Int)).map eI_u8) 1041 (by rfl) el139 zel139 (by rfl) (by decide) (by decide) rfl (by rfl) ⟨_, _, _, rfl, pl139_0, rfl, rfl, trivial⟩ (by rfl)) rfl (.c rfl .nil) rfl ?_
     obtain ⟨hb17, h⟩ := ifp h
     refine .w (f_appendC (m := ((z2_0 ++ ([(0 : Int)] : List Int))).length) (ys := (([(0 : Int)] : List Int) : List Int).map eI_u8) (xs := (z2_0).map eI_u8) (zs := ((z2_0 ++ ([(0 : Int)] : List Int))).map eI_u8) 1042 (by rfl) el139 (by simp) (by simp) (by simp [List.map_drop]) (by simp) (Nat.le_trans (Nat.mul_le_mul_right _ hb17) (by decide)) (Nat.le_trans hb17 (by decide)) srcW) rfl (.c rfl (.c rfl .nil)) (.cons rfl (.cons rfl .nil)) (.cons rfl .nil) ?_
     refine .as rfl (by rfl) ?_
     refine .nil ?_
     refine aq_block ?_
     obtain rfl := Option.some.inj h
     refine aq_weak (s' := ⟨[(2, .ptr 2 0 []), (3, .ptr 3 0 []), (4, .slc 1038 0 (((z2_0 ++ ([(0 : Int)] : List Int))).length) 1), (5, .d (.val (.int .u64 o13.1)))], [(2, .av (.d (eA22 (List.replicate 32 (0 : Int))))), (3, .av (.d (eA209 o13.2.1))), (1038, .av (.d (.arr 1 (((z2_0 ++ ([(0 : Int)] : List Int))).length) (((z2_0 ++ ([(0 : Int)] : List Int))).map eI_u8))))], []⟩) (fun i => (bif Nat.beq i 1038 then 1042 else i)) hb0 (.cons rfl (.cons rfl (.cons rfl (.cons rfl .nil)))) (.cons rfl (.cons rfl (.cons rfl .nil))) rfl (by rfl) ?_
     exact jq
   replace h := ite_f hc16 h
   refine aw_exit ?_
   refine aq_then_exit ?_
   obtain rfl := Option.some.inj h
   refine aq_weak (s' := ⟨[(2, .ptr 2 0 []), (3, .ptr 3 0 []), (4, .slc 1038 0 ((z2_0).length) 1), (5, .d (.val (.int .u64 o13.1)))], [(2, .av (.d (eA22 (List.replicate 32 (0 : Int))))), (3, .av (.d (eA209 o13.2.1))), (1038, .av (.d (.arr 1 ((z2_0).length) ((z2_0).map eI_u8))))], []⟩) id hb0 (.keep rfl (.keep rfl (.keep rfl (.keep rfl .nil)))) (.keep rfl (.keep rfl (.keep rfl .nil))) rfl (by rfl) ?_
   exact jq
 refine aq_block_exit ?_
 refine aq_then ?_
 refine aw_seq ?_
 refine aw_rs ?_
 refine .as rfl (by rfl) ?_
 refine .nil (aq_then ?_)
 refine aw_block ?_
 refine aw_weak (s' := ⟨[(2, .ptr 2 0 []), (3, .ptr 3 0 []), (4, .slc 1038 0 ((o18).length) 1), (5, .d (.val (.int .u64 o13.1))), (8, .d (.val (.int .i64 (56 : Int))))], [(2, .av (.d (eA22 (List.replicate 32 (0 : Int))))), (3, .av (.d (eA209 o13.2.1))), (1038, .av (.d (.arr 1 ((o18).length) ((o18).map eI_u8))))], []⟩) id hb0 (.keep rfl (.keep rfl (.keep rfl (.keep rfl (.keep rfl .nil))))) (.keep rfl (.keep rfl (.keep rfl .nil))) rfl (by rfl) ?_
 obtain ⟨o23, ho24, h⟩ := bind_some h
 refine aw_loopX (σ := Int × List Int) (fun z => ⟨[(2, .ptr 2 0 []), (3, .ptr 3 0 []), (4, .slc 1038 0 ((z.2).length) 1), (5, .d (.val (.int .u64 o13.1))), (8, .d (.val (.int .i64 z.1)))], [(2, .av (.d (eA22 (List.replicate 32 (0 : Int))))), (3, .av (.d (eA209 o13.2.1))), (1038, .av (.d (.arr 1 ((z.2).length) ((z.2).map eI_u8))))], []⟩) (fun _ => (.exit 6)) (fun (o23 : List Int) => ⟨[(2, .ptr 2 0 []), (3, .ptr 3 0 []), (4, .slc 1038 0 ((o23).length) 1)], [(2, .av (.d (eA22 (List.replicate 32 (0 : Int))))), (3, .av (.d (eA209 o13.2.1))), (1038, .av (.d (.arr 1 ((o23).length) ((o23).map eI_u8))))], []⟩) ho24 (fun _ => rfl) ?_ ?_
 · clear h ho24
   rintro ⟨z3_0, z3_1⟩ o h
   change F137_sha_Of_s3 o13 z3_0 z3_1 = some o at h
   unfold F137_sha_Of_s3 at h
   show AW _ _ _ ⟨[(2, .ptr 2 0 []), (3, .ptr 3 0 []), (4, .slc 1038 0 ((z3_1).length) 1), (5, .d (.val (.int .u64 o13.1))), (8, .d (.val (.int .i64 z3_0)))], [(2, .av (.d (eA22 (List.replicate 32 (0 : Int))))), (3, .av (.d (eA209 o13.2.1))), (1038, .av (.d (.arr 1 ((z3_1).length) ((z3_1).map eI_u8))))], []⟩
   refine aw_seq ?_
   refine aw_rs ?_
   refine .mv rfl (by rfl) ?_
   refine .v (f_binI (by rfl) rfl (by rfl)) rfl (.c rfl (.c rfl .nil)) .nil ?_
   refine .nil (aq_then ?_)
   refine aw_cond rfl (fun hc20 => ?_) (fun hc20 => ?_)
   · replace h := ite_t hc20 h
     refine aw_skip ?_
     refine aq_then ?_
     refine aw_seq ?_
     refine aw_block ?_
     refine aw_r ?_
     refine .mv rfl (by rfl) ?_
     refine .mv rfl (by rfl) ?_
     refine .v (f_binI (by rfl) rfl (by rfl)) rfl (.c rfl (.c rfl .nil)) .nil ?_
     refine .mv rfl (by rfl) ?_
     obtain ⟨hz21, h⟩ := ifp h
     refine .v (f_shift (by rfl) (shr_ok hz21) (by rfl)) rfl (.c rfl (.c rfl .nil)) .nil ?_
     refine .v (f_convI (by rfl) un27 un5) rfl (.c rfl .nil) .nil ?_
     refine .n (f_buildS (xs := [(0, .d (.val (.int .u8 (IntKind.u8.wrap (shr .u64 (IntKind.u64.wrap ((8 : Int) * o13.1)) z3_0)))))]) (z := (.val (.int .u8 (0 : Int)))) (zs := (([(IntKind.u8.wrap (shr .u64 (IntKind.u64.wrap ((8 : Int) * o13.1)) z3_0))] : List Int)).map eI_u8) 1045 (by rfl) el139 zel139 (by rfl) (by decide) (by decide) rfl (by rfl) ⟨_, _, _, rfl, pl139_0, rfl, rfl, trivial⟩ (by rfl)) rfl (.c rfl .nil) rfl ?_
     obtain ⟨hb22, h⟩ := ifp h
     refine .w (f_appendC (m := ((z3_1 ++ ([(IntKind.u8.wrap (shr .u64 (IntKind.u64.wrap ((8 : Int) * o13.1)) z3_0))] : List Int))).length) (ys := (([(IntKind.u8.wrap (shr .u64 (IntKind.u64.wrap ((8 : Int) * o13.1)) z3_0))] : List Int) : List Int).map eI_u8) (xs := (z3_1).map eI_u8) (zs := ((z3_1 ++ ([(IntKind.u8.wrap (shr .u64 (IntKind.u64.wrap ((8 : Int) * o13.1)) z3_0))] : List Int))).map eI_u8) 1046 (by rfl) el139 (by simp) (by simp) (by simp [List.map_drop]) (by simp) (Nat.le_trans (Nat.mul_le_mul_right _ hb22) (by decide)) (Nat.le_trans hb22 (by decide)) srcW) rfl (.c rfl (.c rfl .nil)) (.cons rfl (.cons rfl .nil)) (.cons rfl .nil) ?_
     refine .as rfl (by rfl) ?_
     refine .nil ?_
     refine aq_block ?_
     refine aq_then ?_
     refine aw_r ?_
     refine .mv rfl (by rfl) ?_
     refine .v (f_binI (by rfl) rfl (by rfl)) rfl (.c rfl (.c rfl .nil)) .nil ?_
     refine .as rfl (by rfl) ?_
     refine .nil ?_
     obtain rfl := Option.some.inj h
     refine aq_weak (s' := ⟨[(2, .ptr 2 0 []), (3, .ptr 3 0 []), (4, .slc 1038 0 (((z3_1 ++ ([(IntKind.u8.wrap (shr .u64 (IntKind.u64.wrap ((8 : Int) * o13.1)) z3_0))] : List Int))).length) 1), (5, .d (.val (.int .u64 o13.1))), (8, .d (.val (.int .i64 (IntKind.i64.wrap (z3_0 - (8 : Int))))))], [(2, .av (.d (eA22 (List.replicate 32 (0 : Int))))), (3, .av (.d (eA209 o13.2.1))), (1038, .av (.d (.arr 1 (((z3_1 ++ ([(IntKind.u8.wrap (shr .u64 (IntKind.u64.wrap ((8 : Int) * o13.1)) z3_0))] : List Int))).length) (((z3_1 ++ ([(IntKind.u8.wrap (shr .u64 (IntKind.u64.wrap ((8 : Int) * o13.1)) z3_0))] : List Int))).map eI_u8))))], []⟩) (fun i => (bif Nat.beq i 1038 then 1046 else i)) hb0 (.cons rfl (.cons rfl (.cons rfl (.cons rfl (.cons rfl .nil))))) (.cons rfl (.cons rfl (.cons rfl .nil))) rfl (by rfl) ?_
     exact jq
   replace h := ite_f hc20 h
   refine aw_exit ?_
   refine aq_then_exit ?_
   obtain rfl := Option.some.inj h
   refine aq_weak (s' := ⟨[(2, .ptr 2 0 []), (3, .ptr 3 0 []), (4, .slc 1038 0 ((z3_1).length) 1)], [(2, .av (.d (eA22 (List.replicate 32 (0 : Int))))), (3, .av (.d (eA209 o13.2.1))), (1038, .av (.d (.arr 1 ((z3_1).length) ((z3_1).map eI_u8))))], []⟩) id hb0 (.keep rfl (.keep rfl (.keep rfl .nil))) (.keep rfl (.keep rfl (.keep rfl .nil))) rfl (by rfl) ?_
   exact jq
 refine aq_block_exit ?_
 refine aq_then ?_
 refine aw_seq ?_
 refine aw_block ?_
 refine aw_weak (s' := ⟨[(2, .ptr 2 0 []), (3, .ptr 3 0 []), (4, .slc 1038 0 ((o23).length) 1)], [(2, .av (.d (eA22 (List.replicate 32 (0 : Int))))), (3, .av (.d (eA209 o13.2.1))), (1038, .av (.d (.arr 1 ((o23).length) ((o23).map eI_u8))))], []⟩) id hb0 (.keep rfl (.keep rfl (.keep rfl .nil))) (.keep rfl (.keep rfl (.keep rfl .nil))) rfl (by rfl) ?_
 obtain ⟨o30, ho31, h⟩ := bind_some h
 refine aw_loopX (σ := (List Int) × List Int) (fun z => ⟨[(2, .ptr 2 0 []), (3, .ptr 3 0 []), (4, .slc 1038 0 ((z.2).length) 1)], [(2, .av (.d (eA22 (List.replicate 32 (0 : Int))))), (3, .av (.d (eA209 z.1))), (1038, .av (.d (.arr 1 ((z.2).length) ((z.2).map eI_u8))))], []⟩) (fun _ => (.exit 8)) (fun (o30 : (List Int)) => ⟨[(2, .ptr 2 0 []), (3, .ptr 3 0 [])], [(2, .av (.d (eA22 (List.replicate 32 (0 : Int))))), (3, .av (.d (eA209 o30)))], []⟩) ho31 (fun _ => rfl) ?_ ?_
 · clear h ho31
   rintro ⟨z4_0, z4_1⟩ o h
   change F137_sha_Of_s4 n z4_0 z4_1 = some o at h
   unfold F137_sha_Of_s4 at h
   show AW _ _ _ ⟨[(2, .ptr 2 0 []), (3, .ptr 3 0 []), (4, .slc 1038 0 ((z4_1).length) 1)], [(2, .av (.d (eA22 (List.replicate 32 (0 : Int))))), (3, .av (.d (eA209 z4_0))), (1038, .av (.d (.arr 1 ((z4_1).length) ((z4_1).map eI_u8))))], []⟩
   refine aw_seq ?_
   refine aw_rs ?_
   refine .mv rfl (by rfl) ?_
   refine .v (f_lenO (by rfl) sl139 rfl) rfl (.c rfl .nil) .nil ?_
   refine .v (f_binI (by rfl) rfl (by rfl)) rfl (.c rfl (.c rfl .nil)) .nil ?_
   refine .nil (aq_then ?_)
   refine aw_cond rfl (fun hc25 => ?_) (fun hc25 => ?_)
   · replace h := ite_t hc25 h
     refine aw_skip ?_
     refine aq_then ?_
     refine aw_seq ?_
     refine aw_block ?_
     refine aw_r ?_
     refine .mv rfl (by rfl) ?_
     obtain ⟨hb26, h⟩ := ifp h
     refine .v (f_sliceOE (k1 := .i64) (k2 := .i64) (i := (0 : Int)) (j := (64 : Int)) (off' := 0) (len' := (((64 : Int)).toNat - ((0 : Int)).toNat)) (by rfl) sl139 (by intro hx; first | rfl | cases hx) (by intro hx; first | rfl | cases hx) hb26.1 hb26.2.1 hb26.2.2 (by simp) (by simp)) rfl (.c rfl (.c rfl .nil)) .nil ?_
     obtain ⟨y27, hy28, h⟩ := bind_some h
     refine .w (f_callH (xs := [.ptr 3 0 [], .slc 1038 0 (((64 : Int)).toNat - ((0 : Int)).toNat) 1]) (r := .res []) (hw := [(3, .av (.d (eA209 y27)))]) (fun i => bif Nat.beq i 0 then 3 else i) [(1038, (.arr 1 ((z4_1).length) ((z4_1).map eI_u8)))] hgl (by rfl) (cal_f en160) rfl (by rfl) (by rfl) (by rfl) (by rfl) (by rfl) (.cons (.same _) (.cons (.slcE (.head _) (by simp [List.map_drop, List.map_take]) (by simp <;> omega)) .nil)) rfl rfl rfl rfl (by rfl) trivial ⟨(fl_eA209 _), trivial⟩ (F160_sha_state_block_f5d_ok hy28)) rfl (.c rfl (.c rfl .nil)) (.cons rfl (.cons rfl .nil)) .nil ?_
     refine .nil ?_
     refine aq_block ?_
     refine aq_then ?_
     refine aw_r ?_
     refine .mv rfl (by rfl) ?_
     obtain ⟨hb29, h⟩ := ifp h
     refine .v (f_sliceOE (k1 := .i64) (k2 := .i64) (i := (64 : Int)) (j := (((z4_1).length : Nat) : Int)) (off' := (0 + ((64 : Int)).toNat)) (len' := (((((z4_1).length : Nat) : Int)).toNat - ((64 : Int)).toNat)) (by rfl) sl139 (by intro hx; first | rfl | cases hx) (by intro hx; first | rfl | cases hx) hb29.1 hb29.2.1 hb29.2.2 (by simp) (by simp)) rfl (.c rfl (.c rfl .nil)) .nil ?_
     refine .as rfl (by rfl) ?_
     refine .nil ?_
     obtain rfl := Option.some.inj h
     refine aq_anewE (n := (z4_1).length) (m := (((z4_1).drop ((0 + ((64 : Int)).toNat)))).length) (zs := (((z4_1).drop ((0 + ((64 : Int)).toNat)))).map eI_u8) 4 1048 rfl rfl rfl (by simp [List.map_drop]) (by simp <;> omega) (by simp) ?_
     refine aq_weak (s' := ⟨[(2, .ptr 2 0 []), (3, .ptr 3 0 []), (4, .slc 1038 0 ((((z4_1).drop ((0 + ((64 : Int)).toNat)))).length) 1)], [(2, .av (.d (eA22 (List.replicate 32 (0 : Int))))), (3, .av (.d (eA209 y27))), (1038, .av (.d (.arr 1 ((((z4_1).drop ((0 + ((64 : Int)).toNat)))).length) ((((z4_1).drop ((0 + ((64 : Int)).toNat)))).map eI_u8))))], []⟩) (fun i => (bif Nat.beq i 1038 then 1048 else i)) hb0 (.cons rfl (.cons rfl (.cons rfl .nil))) (.cons rfl (.cons rfl (.cons rfl .nil))) rfl (by rfl) ?_
     exact jq
   replace h := ite_f hc25 h
   refine aw_exit ?_
   refine aq_then_exit ?_
   obtain rfl := Option.some.inj h
   refine aq_weak (s' := ⟨[(2, .ptr 2 0 []), (3, .ptr 3 0 [])], [(2, .av (.d (eA22 (List.replicate 32 (0 : Int))))), (3, .av (.d (eA209 z4_0)))], []⟩) id hb0 (.keep rfl (.keep rfl .nil)) (.keep rfl (.keep rfl .nil)) rfl (by rfl) ?_
   exact jq
 refine aq_block_exit ?_
 refine aq_then ?_
 refine aw_seq ?_
 refine aw_rs ?_
 refine .mv rfl (by rfl) ?_
 refine .nil (aq_then ?_)
 refine aw_block ?_
 refine aw_weak (s' := ⟨[(2, .ptr 2 0 []), (3, .ptr 3 0 []), (64, .d (.val (.int .i64 (0 : Int))))], [(2, .av (.d (eA22 (List.replicate 32 (0 : Int))))), (3, .av (.d (eA209 o30)))], []⟩) id hb0 (.keep rfl (.keep rfl (.keep rfl .nil))) (.keep rfl (.keep rfl .nil)) rfl (by rfl) ?_
 obtain ⟨o40, ho41, h⟩ := bind_some h
 refine aw_loopX (σ := Int × (List Int)) (fun z => ⟨[(2, .ptr 2 0 []), (3, .ptr 3 0 []), (64, .d (.val (.int .i64 z.1)))], [(2, .av (.d (eA22 z.2))), (3, .av (.d (eA209 o30)))], []⟩) (fun _ => (.exit 10)) (fun (o40 : (List Int)) => ⟨[(2, .ptr 2 0 [])], [(2, .av (.d (eA22 o40)))], []⟩) ho41 (fun _ => rfl) ?_ ?_
 · clear h ho41
   rintro ⟨z5_0, z5_1⟩ o h
   change F137_sha_Of_s5 o30 z5_0 z5_1 = some o at h
   unfold F137_sha_Of_s5 at h
   show AW _ _ _ ⟨[(2, .ptr 2 0 []), (3, .ptr 3 0 []), (64, .d (.val (.int .i64 z5_0)))], [(2, .av (.d (eA22 z5_1))), (3, .av (.d (eA209 o30)))], []⟩
   refine aw_rs ?_
   refine .v (f_binI (by rfl) rfl (by rfl)) rfl (.c rfl (.c rfl .nil)) .nil ?_
   refine .nil (aq_then ?_)
   refine aw_seq ?_
   refine aw_cond rfl (fun hc32 => ?_) (fun hc32 => ?_)
   · replace h := ite_t hc32 h
     refine aw_skip ?_
     refine aq_then ?_
     refine aw_seq ?_
     refine aw_block ?_
     refine aw_rs ?_
     refine .mv rfl (by rfl) ?_
     refine .as rfl (by rfl) ?_
     refine .nil (aq_then ?_)
     refine aw_r ?_
     refine .mv rfl (by rfl) ?_
     refine .mv rfl (by rfl) ?_
     refine .v (f_binI (by rfl) (quo_ok (by decide)) (by rfl)) rfl (.c rfl (.c rfl .nil)) .nil ?_
     obtain ⟨x33, hx34, h⟩ := bind_some h
     obtain ⟨hx35, hx34⟩ := rd_some hx34
     refine .v (f_indexO (by rfl) ar210 rfl hx35 (rd_map _ hx34)) rfl (.c rfl (.c rfl .nil)) (.cons rfl .nil) ?_
     refine .v (f_load (n := 0) (o := 3) (off := (0 + ((IntKind.i64.wrap (Int.tdiv z5_0 (4 : Int)))).toNat * 1)) (p := [((IntKind.i64.wrap (Int.tdiv z5_0 (4 : Int)))).toNat]) (c := .d (eA209 o30)) (z := .d (.val (.int .u32 x33))) (by rfl) (at_map _ hx34 (by simp)) ty208 (by rfl)) rfl (.c rfl .nil) (.cons rfl .nil) ?_
     refine .mv rfl (by rfl) ?_
     refine .v (f_binI (by rfl) (rem_ok (by decide)) (by rfl)) rfl (.c rfl (.c rfl .nil)) .nil ?_
     refine .v (f_binI (by rfl) rfl (by rfl)) rfl (.c rfl (.c rfl .nil)) .nil ?_
     refine .v (f_binI (by rfl) rfl (by rfl)) rfl (.c rfl (.c rfl .nil)) .nil ?_
     obtain ⟨hz36, h⟩ := ifp h
     refine .v (f_shift (by rfl) (shr_ok hz36) (by rfl)) rfl (.c rfl (.c rfl .nil)) .nil ?_
     refine .v (f_convI (by rfl) un208 un5) rfl (.c rfl .nil) .nil ?_
     obtain ⟨x37, hx38, h⟩ := bind_some h
     obtain ⟨hx39, hx38⟩ := rd_some hx38
     refine .v (f_indexO (by rfl) ar23 rfl hx39 (rd_map _ hx38)) rfl (.c rfl (.c rfl .nil)) (.cons rfl .nil) ?_
     refine .s (f_store (n := 0) (o := 2) (off := (0 + (z5_0).toNat * 1)) (p := [(z5_0).toNat]) (c := .d (eA22 z5_1)) (old := .d (.val (.int .u8 x37))) (z := .d (.val (.int .u8 (IntKind.u8.wrap (shr .u32 x33 (IntKind.i64.wrap ((24 : Int) - (IntKind.i64.wrap ((8 : Int) * (Int.tmod z5_0 (4 : Int))))))))))) (c' := .d (eA22 (z5_1.set (z5_0).toNat (IntKind.u8.wrap (shr .u32 x33 (IntKind.i64.wrap ((24 : Int) - (IntKind.i64.wrap ((8 : Int) * (Int.tmod z5_0 (4 : Int))))))))))) (at_map _ hx38 (by simp)) (put_map _ hx38) (by rfl) ty5 (by rfl)) rfl (.c rfl (.c rfl .nil)) (.cons rfl .nil) ?_
     refine .nil ?_
     refine aq_block ?_
     refine aq_then ?_
     refine aw_r ?_
     refine .v (f_binI (by rfl) rfl (by rfl)) rfl (.c rfl (.c rfl .nil)) .nil ?_
     refine .mv rfl (by rfl) ?_
     refine .nil ?_
     obtain rfl := Option.some.inj h
     refine aq_weak (s' := ⟨[(2, .ptr 2 0 []), (3, .ptr 3 0 []), (64, .d (.val (.int .i64 (IntKind.i64.wrap (z5_0 + (1 : Int))))))], [(2, .av (.d (eA22 (z5_1.set (z5_0).toNat (IntKind.u8.wrap (shr .u32 x33 (IntKind.i64.wrap ((24 : Int) - (IntKind.i64.wrap ((8 : Int) * (Int.tmod z5_0 (4 : Int)))))))))))), (3, .av (.d (eA209 o30)))], []⟩) id hb0 (.keep rfl (.keep rfl (.keep rfl .nil))) (.keep rfl (.keep rfl .nil)) rfl (by rfl) ?_
     exact jq
   replace h := ite_f hc32 h
   refine aw_exit ?_
   refine aq_then_exit ?_
   obtain rfl := Option.some.inj h
   refine aq_weak (s' := ⟨[(2, .ptr 2 0 [])], [(2, .av (.d (eA22 z5_1)))], []⟩) id hb0 (.keep rfl .nil) (.keep rfl .nil) rfl (by rfl) ?_
   exact jq
 refine aq_block_exit ?_
 refine aq_then ?_
 refine aw_rs ?_
 refine .v (f_load (n := 0) (o := 2) (off := 0) (p := []) (c := .d (eA22 o40)) (z := .d (eA22 o40)) (by rfl) rfl ty23 (by rfl)) rfl (.c rfl .nil) (.cons rfl .nil) ?_
 refine .s (f_store (n := 0) (o := 2) (off := 0) (p := []) (c := .d (eA22 o40)) (old := .d (eA22 o40)) (z := .d (eA22 o40)) (c' := .d (eA22 o40)) rfl rfl (by rfl) ty23 (by rfl)) rfl (.c rfl (.c rfl .nil)) (.cons rfl .nil) ?_
 refine .nil (aq_then ?_)
 refine aw_ret ?_
 obtain rfl := Option.some.inj h
 exact aq_finp hb0 rfl (.cell rfl rfl ty23 (by rfl) .nil) (by rfl) rfl ⟨rfl, rfl⟩

/- 124: beadroll/beadrollref04.Ahead -/
def F124_beadrollref04_Ahead (n : Nat) (a0 : (List Int)) (a1 : (List Int)) : Option (Bool) :=
  ((F151_beadrollref04_Shared n a0 a1).bind fun (y1 : Int) => (((if (decide (y1 < (256 : Int))) = true then ((F152_beadrollref04_At n a0 y1).bind fun (y4 : Int) => ((F152_beadrollref04_At n a1 y1).bind fun (y6 : Int) => some (decide (y4 < y6)))) else some false)).bind fun (o8 : Bool) => some o8))
theorem F124_beadrollref04_Ahead_ok {n : Nat} {a0 : (List Int)} {a1 : (List Int)} {r : Bool} (h : F124_beadrollref04_Ahead n a0 a1 = some r) :
    ACall Tryd.prog GS 124 [.d (eA22 a0), .d (eA22 a1)] [] (fun r' hp' => r' = .d (.val (.bool r)) ∧ hp' = []) := by
 refine acall_of_body mixed Tryd.func124 rfl (by rfl) ?_
 intro C hro hgl hb0
 unfold F124_beadrollref04_Ahead at h
 refine aw_rs ?_
 refine .n (f_box 2 (by rfl) (by rfl)) rfl (.c rfl .nil) rfl ?_
 refine .n (f_box 3 (by rfl) (by rfl)) rfl (.c rfl .nil) rfl ?_
 refine .as rfl (by rfl) ?_
 refine .nil (aq_then ?_)
 refine aw_rs ?_
 refine .v (f_load (n := 0) (o := 2) (off := 0) (p := []) (c := .d (eA22 a0)) (z := .d (eA22 a0)) (by rfl) rfl ty23 (by rfl)) rfl (.c rfl .nil) (.cons rfl .nil) ?_
 refine .v (f_load (n := 0) (o := 3) (off := 0) (p := []) (c := .d (eA22 a1)) (z := .d (eA22 a1)) (by rfl) rfl ty23 (by rfl)) rfl (.c rfl .nil) (.cons rfl .nil) ?_
 obtain ⟨y1, hy2, h⟩ := bind_some h
 refine .v (f_callP hgl (by rfl) en151 rfl (by rfl) (by rfl) (by rfl) (F151_beadrollref04_Shared_ok hy2)) rfl (.c rfl (.c rfl .nil)) .nil ?_
 refine .as rfl (by rfl) ?_
 refine .nil (aq_then ?_)
 refine aw_seq ?_
 obtain ⟨o8, ho9, h⟩ := bind_some h
 refine aw_join (.normal) ⟨[(4, .d (.val (.bool o8)))], [], []⟩ ?_ ?_
 · replace h := ho9
   refine aw_rd ?_
   refine .v (f_move (by rfl)) rfl (.c rfl .nil) .nil ?_
   refine .v (f_binI (by rfl) rfl (by rfl)) rfl (.c rfl (.c rfl .nil)) .nil ?_
   refine .v (f_move (by rfl)) rfl (.c rfl .nil) .nil ?_
   rcases Bool.eq_false_or_eq_true (decide (y1 < (256 : Int))) with hc3 | hc3
   · replace h := ite_t hc3 h
     refine .gv (f_load (n := 0) (o := 2) (off := 0) (p := []) (c := .d (eA22 a0)) (z := .d (eA22 a0)) (by rfl) rfl ty23 (by rfl)) rfl rfl rfl hc3 (.c rfl .nil) (.cons rfl .nil) ?_
     refine .gv (f_move (by rfl)) rfl rfl rfl hc3 (.c rfl .nil) .nil ?_
     obtain ⟨y4, hy5, h⟩ := bind_some h
     refine .gv (f_callP hgl (by rfl) en152 rfl (by rfl) (by rfl) (by rfl) (F152_beadrollref04_At_ok hy5)) rfl rfl rfl hc3 (.c rfl (.c rfl .nil)) .nil ?_
     refine .gv (f_load (n := 0) (o := 3) (off := 0) (p := []) (c := .d (eA22 a1)) (z := .d (eA22 a1)) (by rfl) rfl ty23 (by rfl)) rfl rfl rfl hc3 (.c rfl .nil) (.cons rfl .nil) ?_
     refine .gv (f_move (by rfl)) rfl rfl rfl hc3 (.c rfl .nil) .nil ?_
     obtain ⟨y6, hy7, h⟩ := bind_some h
     refine .gv (f_callP hgl (by rfl) en152 rfl (by rfl) (by rfl) (by rfl) (F152_beadrollref04_At_ok hy7)) rfl rfl rfl hc3 (.c rfl (.c rfl .nil)) .nil ?_
     refine .gv (f_binI (by rfl) rfl (by rfl)) rfl rfl rfl hc3 (.c rfl (.c rfl .nil)) .nil ?_
     refine .v (f_pick_true (by rfl) hc3) rfl (.c rfl (.c rfl .nil)) .nil ?_
     refine .v (f_assign (by rfl)) rfl (.c rfl .nil) .nil ?_
     refine .nil (by kernel_rfl) ?_
     obtain rfl := Option.some.inj h
     refine aq_weak (s' := ⟨[(4, .d (.val (.bool (decide (y4 < y6)))))], [], []⟩) id hb0 (.keep rfl .nil) .nil rfl (by rfl) ?_
     exact jq
   replace h := ite_f hc3 h
   refine .off rfl rfl rfl hc3 rfl (by rfl) ?_
   refine .off rfl rfl rfl hc3 rfl (by rfl) ?_
   refine .off rfl rfl rfl hc3 rfl (by rfl) ?_
   refine .off rfl rfl rfl hc3 rfl (by rfl) ?_
   refine .off rfl rfl rfl hc3 rfl (by rfl) ?_
   refine .off rfl rfl rfl hc3 rfl (by rfl) ?_
   refine .off rfl rfl rfl hc3 rfl (by rfl) ?_
   refine .v (f_pick_false (by rfl) hc3) rfl (.c rfl (.c rfl .nil)) .nil ?_
   refine .v (f_assign (by rfl)) rfl (.c rfl .nil) .nil ?_
   refine .nil (by kernel_rfl) ?_
   obtain rfl := Option.some.inj h
   refine aq_weak (s' := ⟨[(4, .d (.val (.bool false)))], [], []⟩) id hb0 (.keep rfl .nil) .nil rfl (by rfl) ?_
   exact jq
 refine aq_then ?_
 refine aw_ret ?_
 obtain rfl := Option.some.inj h
 exact aq_finp hb0 rfl (.tmp rfl (by rfl) .nil) (by rfl) rfl ⟨rfl, rfl⟩

/- 123: beadroll/path.apart -/
def F123_path_apart (n : Nat) (a0 : (List Int)) (a1 : (List Int)) : Option ((List Int) × (List Int)) :=
  some (a0, a1)
theorem F123_path_apart_ok {n : Nat} {a0 : (List Int)} {a1 : (List Int)} {r : (List Int) × (List Int)} (h : F123_path_apart n a0 a1 = some r) :
    ACall Tryd.prog GS 123 [.d (eA22 a0), .d (eA22 a1)] [] (fun r' hp' => r' = .fn (.func 150) [] [.ptr 2 0 [], .ptr 3 0 []] ∧ hp' = [(2, .av (.d (eA22 r.1))), (3, .av (.d (eA22 r.2)))]) := by
 refine acall_of_body mixed Tryd.func123 rfl (by rfl) ?_
 intro C hro hgl hb0
 unfold F123_path_apart at h
 refine aw_rs ?_
 refine .n (f_box 2 (by rfl) (by rfl)) rfl (.c rfl .nil) rfl ?_
 refine .n (f_box 3 (by rfl) (by rfl)) rfl (.c rfl .nil) rfl ?_
 refine .as rfl (by rfl) ?_
 refine .nil (aq_then ?_)
 refine aw_rs ?_
 refine .v (f_makeFunc (xs := []) (ys := [.ptr 2 0 [], .ptr 3 0 []]) (by rfl) rfl rfl (by rfl) (by rfl)) rfl (.c rfl (.c rfl .nil)) .nil ?_
 refine .as rfl (by rfl) ?_
 refine .nil (aq_then ?_)
 refine aw_ret ?_
 obtain rfl := Option.some.inj h
 refine aq_weak (s' := ⟨[(4, .fn (.func 150) [] [.ptr 2 0 [], .ptr 3 0 []])], [(2, .av (.d (eA22 a0))), (3, .av (.d (eA22 a1)))], []⟩) id hb0 (.keep rfl .nil) (.keep rfl (.keep rfl .nil)) rfl (by rfl) ?_
 exact aq_fin1 (.tmp rfl (by rfl) .nil) rfl ⟨rfl, rfl⟩

/- 118: beadroll/beadrollref11.From -/
def F118_beadrollref11_From (n : Nat) (a0 : GTx) : Option ((List Int)) :=
  ((F146_beadrollref10_Key n a0.Pub).bind fun (y1 : (List Int)) => some y1)
theorem F118_beadrollref11_From_ok {n : Nat} {a0 : GTx} {r : (List Int)} (h : F118_beadrollref11_From n a0 = some r) :
    ACall Tryd.prog GS 118 [.d (eGTx a0)] [] (fun r' hp' => r' = .d (eA22 r) ∧ hp' = []) := by
 refine acall_of_body mixed Tryd.func118 rfl (by rfl) ?_
 intro C hro hgl hb0
 unfold F118_beadrollref11_From at h
 refine aw_rs ?_
 refine .n (f_box 1 (by rfl) (by rfl)) rfl (.c rfl .nil) rfl ?_
 refine .n (f_alloc 2 (by rfl) zr23) rfl .nil rfl ?_
 refine .nil (aq_then ?_)
 refine aw_rs ?_
 refine .v (f_fieldAddr (n := 0) (by rfl) fl36_0 (by decide)) rfl (.c rfl .nil) .nil ?_
 refine .v (f_load (n := 0) (o := 1) (off := (0 + 0)) (p := [0]) (c := .d (eGTx a0)) (z := .d (eA22 a0.Pub)) (by rfl) rfl ty23 (by rfl)) rfl (.c rfl .nil) (.cons rfl .nil) ?_
 obtain ⟨y1, hy2, h⟩ := bind_some h
 refine .v (f_callP hgl (by rfl) en146 rfl (by rfl) (by rfl) (by rfl) (F146_beadrollref10_Key_ok hy2)) rfl (.c rfl .nil) .nil ?_
 refine .s (f_store (n := 0) (o := 2) (off := 0) (p := []) (c := .d (eA22 (List.replicate 32 (0 : Int)))) (old := .d (eA22 (List.replicate 32 (0 : Int)))) (z := .d (eA22 y1)) (c' := .d (eA22 y1)) rfl rfl (by rfl) ty23 (by rfl)) rfl (.c rfl (.c rfl .nil)) (.cons rfl .nil) ?_
 refine .nil (aq_then ?_)
 refine aw_ret ?_
 obtain rfl := Option.some.inj h
 exact aq_finp hb0 rfl (.cell rfl rfl ty23 (by rfl) .nil) (by rfl) rfl ⟨rfl, rfl⟩

/- 117: beadroll/beadrollref11.Check -/
def F117_beadrollref11_Check (n : Nat) (a0 : GTx) : Option (Int) :=
  ((F145_beadrollref11_Body n a0).bind fun (y1 : (List Int)) => ((F144_beadrollref03_One n (4 : Int) y1).bind fun (y3 : (List Int)) => (if (!(decide (a0.Sign = y3))) = true then some (110 : Int) else some (0 : Int))))
theorem F117_beadrollref11_Check_ok {n : Nat} {a0 : GTx} {r : Int} (h : F117_beadrollref11_Check n a0 = some r) :
    ACall Tryd.prog GS 117 [.d (eGTx a0)] [] (fun r' hp' => r' = .d (.val (.int .i64 r)) ∧ hp' = []) := by
 refine acall_of_body mixed Tryd.func117 rfl (by rfl) ?_
 intro C hro hgl hb0
 unfold F117_beadrollref11_Check at h
 refine aw_rs ?_
 refine .n (f_box 1 (by rfl) (by rfl)) rfl (.c rfl .nil) rfl ?_
 refine .as rfl (by rfl) ?_
 refine .nil (aq_then ?_)
 refine aw_seq ?_
 refine aw_rds ?_
 refine .v (f_fieldAddr (n := 67) (by rfl) fl36_5 (by decide)) rfl (.c rfl .nil) .nil ?_
 refine .v (f_load (n := 0) (o := 1) (off := (0 + 67)) (p := [5]) (c := .d (eGTx a0)) (z := .d (eA22 a0.Sign)) (by rfl) rfl ty23 (by rfl)) rfl (.c rfl .nil) (.cons rfl .nil) ?_
 refine .v (f_load (n := 0) (o := 1) (off := 0) (p := []) (c := .d (eGTx a0)) (z := .d (eGTx a0)) (by rfl) rfl ty36 (by rfl)) rfl (.c rfl .nil) (.cons rfl .nil) ?_
 obtain ⟨y1, hy2, h⟩ := bind_some h
 refine .v (f_callP hgl (by rfl) en145 rfl (by rfl) (by rfl) (by rfl) (F145_beadrollref11_Body_ok hy2)) rfl (.c rfl .nil) .nil ?_
 obtain ⟨y3, hy4, h⟩ := bind_some h
 refine .v (f_callP hgl (by rfl) en144 rfl (by rfl) (by rfl) (by rfl) (F144_beadrollref03_One_ok hy4)) rfl (.c rfl (.c rfl .nil)) .nil ?_
 refine .v (f_neqT (by rfl) (fit23 _) (fit23 _) (by rfl) (by rfl) gd23 (eq_eA22 _ _)) rfl (.c rfl (.c rfl .nil)) .nil ?_
 refine .nil (by kernel_rfl) ?_
 refine aw_cond rfl (fun hc5 => ?_) (fun hc5 => ?_)
 · replace h := ite_t hc5 h
   refine aw_rs ?_
   refine .as rfl (by rfl) ?_
   refine .nil (aq_then ?_)
   refine aw_ret ?_
   refine aq_then_ret ?_
   obtain rfl := Option.some.inj h
   exact aq_finp hb0 rfl (.tmp rfl (by rfl) .nil) (by rfl) rfl ⟨rfl, rfl⟩
 replace h := ite_f hc5 h
 refine aw_skip ?_
 refine aq_then ?_
 refine aw_rs ?_
 refine .as rfl (by rfl) ?_
 refine .nil (aq_then ?_)
 refine aw_ret ?_
 obtain rfl := Option.some.inj h
 exact aq_finp hb0 rfl (.tmp rfl (by rfl) .nil) (by rfl) rfl ⟨rfl, rfl⟩

/- 139: beadroll/tx.put[beadroll/api.Digest] -/
def F139_api_Digest_70f_s0 (n : Nat) (a0 : (List (List Int))) (z0_0 : Int) (z0_1 : List Int) : Option ((Int × List Int) ⊕ (List Int)) :=
  (if (decide (z0_0 < ((a0).length : Int))) = true then ((rd a0 z0_0).bind fun (x2 : (List Int)) => ((F140_tx_Body_1 n x2).bind fun (y5 : (List Int)) => (if ((z0_1 ++ y5)).length ≤ 1073741824 then some (.inl ((IntKind.i64.wrap (z0_0 + (1 : Int))), (z0_1 ++ y5))) else none))) else some (.inr z0_1))
def F139_api_Digest_70f (n : Nat) (a0 : (List (List Int))) : Option (List Int) :=
  ((loopF (fun (z : Int × List Int) => F139_api_Digest_70f_s0 n a0 z.1 z.2) n ((0 : Int), ([] : List Int))).bind fun (o8 : List Int) => some o8)
theorem F139_api_Digest_70f_ok {n : Nat} {a0 : (List (List Int))} {r : List Int} (h : F139_api_Digest_70f n a0 = some r) :
    ACall Tryd.prog GS 139 [.d (.val (.slice none 0 0)), .d (eL184 a0), .fn (.func 140) [] []] [] (fun r' hp' => r' = .slc 1051 0 ((r).length) 1 ∧ hp' = [(1051, .av (.d (.arr 1 ((r).length) ((r).map eI_u8))))]) := by
 refine acall_of_body mixed Tryd.func139 rfl (by rfl) ?_
 intro C hro hgl hb0
 unfold F139_api_Digest_70f at h
 refine aw_rs ?_
 refine .as rfl (by rfl) ?_
 refine .nil (aq_then ?_)
 refine aw_seq ?_
 refine aw_rs ?_
 refine .mv rfl (by rfl) ?_
 refine .v (f_lenD (n := (a0).length) (by rfl) sl184 rfl (by simp)) rfl (.c rfl .nil) .nil ?_
 refine .mv rfl (by rfl) ?_
 refine .nil (aq_then ?_)
 refine aw_block ?_
 refine aw_adopt 0 1051 1 rfl rfl ?_
 refine aw_weak (s' := ⟨[(0, .slc 1051 0 ((([] : List Int)).length) 1), (2, .fn (.func 140) [] []), (9, .d (eL184 a0)), (10, .d (.val (.int .i64 ((a0).length : Int)))), (11, .d (.val (.int .i64 (0 : Int))))], [(1051, .av (.d (.arr 1 ((([] : List Int)).length) ((([] : List Int)).map eI_u8))))], []⟩) id hb0 (.keep (by simp only [List.length_set]; rfl) (.keep rfl (.keep rfl (.keep rfl (.keep rfl .nil))))) (.keep (by simp only [List.length_set]; rfl) .nil) rfl (by rfl) ?_
 obtain ⟨o8, ho9, h⟩ := bind_some h
 refine aw_loopX (σ := Int × List Int) (fun z => ⟨[(0, .slc 1051 0 ((z.2).length) 1), (2, .fn (.func 140) [] []), (9, .d (eL184 a0)), (10, .d (.val (.int .i64 ((a0).length : Int)))), (11, .d (.val (.int .i64 z.1)))], [(1051, .av (.d (.arr 1 ((z.2).length) ((z.2).map eI_u8))))], []⟩) (fun _ => (.exit 0)) (fun (o8 : List Int) => ⟨[(0, .slc 1051 0 ((o8).length) 1)], [(1051, .av (.d (.arr 1 ((o8).length) ((o8).map eI_u8))))], []⟩) ho9 (fun _ => rfl) ?_ ?_
 · clear h ho9
   rintro ⟨z0_0, z0_1⟩ o h
   change F139_api_Digest_70f_s0 n a0 z0_0 z0_1 = some o at h
   unfold F139_api_Digest_70f_s0 at h
   show AW _ _ _ ⟨[(0, .slc 1051 0 ((z0_1).length) 1), (2, .fn (.func 140) [] []), (9, .d (eL184 a0)), (10, .d (.val (.int .i64 ((a0).length : Int)))), (11, .d (.val (.int .i64 z0_0)))], [(1051, .av (.d (.arr 1 ((z0_1).length) ((z0_1).map eI_u8))))], []⟩
   refine aw_rs ?_
   refine .v (f_binI (by rfl) rfl (by rfl)) rfl (.c rfl (.c rfl .nil)) .nil ?_
   refine .nil (aq_then ?_)
   refine aw_seq ?_
   refine aw_cond rfl (fun hc1 => ?_) (fun hc1 => ?_)
   · replace h := ite_t hc1 h
     refine aw_skip ?_
     refine aq_then ?_
     refine aw_seq ?_
     refine aw_block ?_
     refine aw_rs ?_
     obtain ⟨x2, hx3, h⟩ := bind_some h
     obtain ⟨hx4, hx3⟩ := rd_some hx3
     refine .v (f_indexS (by rfl) sl184 hx4 (rd_map _ hx3)) rfl (.c rfl (.c rfl .nil)) .nil ?_
     refine .v (f_loadR (z := (eA22 x2)) (by rfl) ty23) rfl (.c rfl .nil) .nil ?_
     refine .n (f_alloc 8 (by rfl) zr23) rfl .nil rfl ?_
     refine .s (f_store (n := 0) (o := 8) (off := 0) (p := []) (c := .d (eA22 (List.replicate 32 (0 : Int)))) (old := .d (eA22 (List.replicate 32 (0 : Int)))) (z := .d (eA22 x2)) (c' := .d (eA22 x2)) rfl rfl (by rfl) ty23 (by rfl)) rfl (.c rfl (.c rfl .nil)) (.cons rfl .nil) ?_
     refine .nil (aq_then ?_)
     refine aw_r ?_
     refine .mv rfl (by rfl) ?_
     refine .mv rfl (by rfl) ?_
     refine .v (f_load (n := 0) (o := 8) (off := 0) (p := []) (c := .d (eA22 x2)) (z := .d (eA22 x2)) (by rfl) rfl ty23 (by rfl)) rfl (.c rfl .nil) (.cons rfl .nil) ?_
     obtain ⟨y5, hy6, h⟩ := bind_some h
     refine .w (f_callG0 (xs := [.d (eA22 x2)]) (r := .d (eL139 y5)) (fun i => i) [] hgl (by rfl) (cal_v (first := []) (caps := []) en140) rfl (by rfl) (by rfl) (by rfl) (by rfl) (.cons (.same _) .nil) rfl rfl (F140_tx_Body_1_ok hy6)) rfl (.c rfl (.c rfl .nil)) .nil .nil ?_
     obtain ⟨hb7, h⟩ := ifp h
     refine .w (f_appendC (m := ((z0_1 ++ y5)).length) (ys := (y5 : List Int).map eI_u8) (xs := (z0_1).map eI_u8) (zs := ((z0_1 ++ y5)).map eI_u8) 1053 (by rfl) el139 (by simp) (by simp) (by simp [List.map_drop]) (by simp) (Nat.le_trans (Nat.mul_le_mul_right _ hb7) (by decide)) (Nat.le_trans hb7 (by decide)) srcD) rfl (.c rfl (.c rfl .nil)) (.cons rfl .nil) (.cons rfl .nil) ?_
     refine .as rfl (by rfl) ?_
     refine .nil ?_
     refine aq_block ?_
     refine aq_then ?_
     refine aw_r ?_
     refine .v (f_binI (by rfl) rfl (by rfl)) rfl (.c rfl (.c rfl .nil)) .nil ?_
     refine .mv rfl (by rfl) ?_
     refine .nil ?_
     obtain rfl := Option.some.inj h
     refine aq_weak (s' := ⟨[(0, .slc 1051 0 (((z0_1 ++ y5)).length) 1), (2, .fn (.func 140) [] []), (9, .d (eL184 a0)), (10, .d (.val (.int .i64 ((a0).length : Int)))), (11, .d (.val (.int .i64 (IntKind.i64.wrap (z0_0 + (1 : Int))))))], [(1051, .av (.d (.arr 1 (((z0_1 ++ y5)).length) (((z0_1 ++ y5)).map eI_u8))))], []⟩) (fun i => (bif Nat.beq i 1051 then 1053 else i)) hb0 (.cons rfl (.cons rfl (.cons rfl (.cons rfl (.cons rfl .nil))))) (.cons rfl .nil) rfl (by rfl) ?_
     exact jq
   replace h := ite_f hc1 h
   refine aw_exit ?_
   refine aq_then_exit ?_
   obtain rfl := Option.some.inj h
   refine aq_weak (s' := ⟨[(0, .slc 1051 0 ((z0_1).length) 1)], [(1051, .av (.d (.arr 1 ((z0_1).length) ((z0_1).map eI_u8))))], []⟩) id hb0 (.keep rfl .nil) (.keep rfl .nil) rfl (by rfl) ?_
   exact jq
 refine aq_block_exit ?_
 refine aq_then ?_
 refine aw_rs ?_
 refine .mv rfl (by rfl) ?_
 refine .as rfl (by rfl) ?_
 refine .nil (aq_then ?_)
 refine aw_ret ?_
 obtain rfl := Option.some.inj h
 refine aq_weak (s' := ⟨[(6, .slc 1051 0 ((o8).length) 1)], [(1051, .av (.d (.arr 1 ((o8).length) ((o8).map eI_u8))))], []⟩) id hb0 (.keep rfl .nil) (.keep rfl .nil) rfl (by rfl) ?_
 exact aq_fin1 (.tmp rfl (by rfl) .nil) rfl ⟨rfl, rfl⟩

/- 141: beadroll/tx.put[uint64] -/
def F141_tx_put_129_s0 (n : Nat) (a0 : (List Int)) (z0_0 : Int) (z0_1 : List Int) : Option ((Int × List Int) ⊕ (List Int)) :=
  (if (decide (z0_0 < ((a0).length : Int))) = true then ((rd a0 z0_0).bind fun (x2 : Int) => ((F142_tx_Body_2 n x2).bind fun (y5 : (List Int)) => (if ((z0_1 ++ y5)).length ≤ 1073741824 then some (.inl ((IntKind.i64.wrap (z0_0 + (1 : Int))), (z0_1 ++ y5))) else none))) else some (.inr z0_1))
def F141_tx_put_129 (n : Nat) (a0 : (List Int)) (a1 : (List Int)) : Option (List Int) :=
  ((loopF (fun (z : Int × List Int) => F141_tx_put_129_s0 n a0 z.1 z.2) n ((0 : Int), a1)).bind fun (o8 : List Int) => some o8)
theorem F141_tx_put_129_ok {n : Nat} {a0 : (List Int)} {a1 : (List Int)} {r : List Int} (h : F141_tx_put_129 n a0 a1 = some r) :
    ACall Tryd.prog GS 141 [.slc 0 0 ((a1).length) 1, .d (eL187 a0), .fn (.func 142) [] []] [(0, .av (.d (.arr 1 ((a1).length) ((a1).map eI_u8))))] (fun r' hp' => r' = .slc 1057 0 ((r).length) 1 ∧ hp' = [(1057, .av (.d (.arr 1 ((r).length) ((r).map eI_u8)))), (0, .dead)]) := by
 refine acall_of_body mixed Tryd.func141 rfl (by rfl) ?_
 intro C hro hgl hb0
 unfold F141_tx_put_129 at h
 refine aw_rs ?_
 refine .as rfl (by rfl) ?_
 refine .nil (aq_then ?_)
 refine aw_seq ?_
 refine aw_rs ?_
 refine .mv rfl (by rfl) ?_
 refine .v (f_lenD (n := (a0).length) (by rfl) sl187 rfl (by simp)) rfl (.c rfl .nil) .nil ?_
 refine .mv rfl (by rfl) ?_
 refine .nil (aq_then ?_)
 refine aw_block ?_
 refine aw_anewE (n := (a1).length) (m := (a1).length) (zs := (a1).map eI_u8) 0 1057 rfl rfl rfl (by simp [List.map_drop]) (by simp <;> omega) rfl ?_
 refine aw_weak (s' := ⟨[(0, .slc 1057 0 ((a1).length) 1), (2, .fn (.func 142) [] []), (9, .d (eL187 a0)), (10, .d (.val (.int .i64 ((a0).length : Int)))), (11, .d (.val (.int .i64 (0 : Int))))], [(1057, .av (.d (.arr 1 ((a1).length) ((a1).map eI_u8)))), (0, .dead)], []⟩) id hb0 (.keep rfl (.keep rfl (.keep rfl (.keep rfl (.keep rfl .nil))))) (.keep rfl (.keepH rfl .nil)) rfl (by rfl) ?_
 obtain ⟨o8, ho9, h⟩ := bind_some h
 refine aw_loopX (σ := Int × List Int) (fun z => ⟨[(0, .slc 1057 0 ((z.2).length) 1), (2, .fn (.func 142) [] []), (9, .d (eL187 a0)), (10, .d (.val (.int .i64 ((a0).length : Int)))), (11, .d (.val (.int .i64 z.1)))], [(1057, .av (.d (.arr 1 ((z.2).length) ((z.2).map eI_u8)))), (0, .dead)], []⟩) (fun _ => (.exit 0)) (fun (o8 : List Int) => ⟨[(0, .slc 1057 0 ((o8).length) 1)], [(1057, .av (.d (.arr 1 ((o8).length) ((o8).map eI_u8)))), (0, .dead)], []⟩) ho9 (fun _ => rfl) ?_ ?_
 · clear h ho9
   rintro ⟨z0_0, z0_1⟩ o h
   change F141_tx_put_129_s0 n a0 z0_0 z0_1 = some o at h
   unfold F141_tx_put_129_s0 at h
   show AW _ _ _ ⟨[(0, .slc 1057 0 ((z0_1).length) 1), (2, .fn (.func 142) [] []), (9, .d (eL187 a0)), (10, .d (.val (.int .i64 ((a0).length : Int)))), (11, .d (.val (.int .i64 z0_0)))], [(1057, .av (.d (.arr 1 ((z0_1).length) ((z0_1).map eI_u8)))), (0, .dead)], []⟩
   refine aw_rs ?_
   refine .v (f_binI (by rfl) rfl (by rfl)) rfl (.c rfl (.c rfl .nil)) .nil ?_
   refine .nil (aq_then ?_)
   refine aw_seq ?_
   refine aw_cond rfl (fun hc1 => ?_) (fun hc1 => ?_)
   · replace h := ite_t hc1 h
     refine aw_skip ?_
     refine aq_then ?_
     refine aw_seq ?_
     refine aw_block ?_
     refine aw_rs ?_
     obtain ⟨x2, hx3, h⟩ := bind_some h
     obtain ⟨hx4, hx3⟩ := rd_some hx3
     refine .v (f_indexS (by rfl) sl187 hx4 (rd_map _ hx3)) rfl (.c rfl (.c rfl .nil)) .nil ?_
     refine .v (f_loadR (z := (.val (.int .u64 x2))) (by rfl) ty27) rfl (.c rfl .nil) .nil ?_
     refine .as rfl (by rfl) ?_
     refine .nil (aq_then ?_)
     refine aw_r ?_
     refine .mv rfl (by rfl) ?_
     refine .mv rfl (by rfl) ?_
     refine .mv rfl (by rfl) ?_
     obtain ⟨y5, hy6, h⟩ := bind_some h
     refine .w (f_callG0 (xs := [.d (.val (.int .u64 x2))]) (r := .d (eL139 y5)) (fun i => i) [] hgl (by rfl) (cal_v (first := []) (caps := []) en142) rfl (by rfl) (by rfl) (by rfl) (by rfl) (.cons (.same _) .nil) rfl rfl (F142_tx_Body_2_ok hy6)) rfl (.c rfl (.c rfl .nil)) .nil .nil ?_
     obtain ⟨hb7, h⟩ := ifp h
     refine .w (f_appendC (m := ((z0_1 ++ y5)).length) (ys := (y5 : List Int).map eI_u8) (xs := (z0_1).map eI_u8) (zs := ((z0_1 ++ y5)).map eI_u8) 1059 (by rfl) el139 (by simp) (by simp) (by simp [List.map_drop]) (by simp) (Nat.le_trans (Nat.mul_le_mul_right _ hb7) (by decide)) (Nat.le_trans hb7 (by decide)) srcD) rfl (.c rfl (.c rfl .nil)) (.cons rfl .nil) (.cons rfl .nil) ?_
     refine .as rfl (by rfl) ?_
     refine .nil ?_
     refine aq_block ?_
     refine aq_then ?_
     refine aw_r ?_
     refine .v (f_binI (by rfl) rfl (by rfl)) rfl (.c rfl (.c rfl .nil)) .nil ?_
     refine .mv rfl (by rfl) ?_
     refine .nil ?_
     obtain rfl := Option.some.inj h
     refine aq_weak (s' := ⟨[(0, .slc 1057 0 (((z0_1 ++ y5)).length) 1), (2, .fn (.func 142) [] []), (9, .d (eL187 a0)), (10, .d (.val (.int .i64 ((a0).length : Int)))), (11, .d (.val (.int .i64 (IntKind.i64.wrap (z0_0 + (1 : Int))))))], [(1057, .av (.d (.arr 1 (((z0_1 ++ y5)).length) (((z0_1 ++ y5)).map eI_u8)))), (0, .dead)], []⟩) (fun i => (bif Nat.beq i 1057 then 1059 else i)) hb0 (.cons rfl (.cons rfl (.cons rfl (.cons rfl (.cons rfl .nil))))) (.cons rfl (.cons rfl .nil)) rfl (by rfl) ?_
     exact jq
   replace h := ite_f hc1 h
   refine aw_exit ?_
   refine aq_then_exit ?_
   obtain rfl := Option.some.inj h
   refine aq_weak (s' := ⟨[(0, .slc 1057 0 ((z0_1).length) 1)], [(1057, .av (.d (.arr 1 ((z0_1).length) ((z0_1).map eI_u8)))), (0, .dead)], []⟩) id hb0 (.keep rfl .nil) (.keep rfl (.keepH rfl .nil)) rfl (by rfl) ?_
   exact jq
 refine aq_block_exit ?_
 refine aq_then ?_
 refine aw_rs ?_
 refine .mv rfl (by rfl) ?_
 refine .as rfl (by rfl) ?_
 refine .nil (aq_then ?_)
 refine aw_ret ?_
 obtain rfl := Option.some.inj h
 refine aq_weak (s' := ⟨[(6, .slc 1057 0 ((o8).length) 1)], [(1057, .av (.d (.arr 1 ((o8).length) ((o8).map eI_u8)))), (0, .dead)], []⟩) id hb0 (.keep rfl .nil) (.keep rfl (.keepH rfl .nil)) rfl (by rfl) ?_
 exact aq_fin1 (.tmp rfl (by rfl) .nil) rfl ⟨rfl, rfl⟩
end Go.Proofs.YtonfljoibcnlgaaDoor
