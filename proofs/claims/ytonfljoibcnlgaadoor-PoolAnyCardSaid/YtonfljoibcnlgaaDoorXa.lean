/-
  PRINTED by wip/pr3.py: for each Go function a Lean function with the same answers, and the proof.
-/
import Derived.Test.YtonfljoibcnlgaaDoorCj
import Derived.Test.YtonfljoibcnlgaaDoorRows
import Derived.KernelRfl
namespace Go.Proofs.YtonfljoibcnlgaaDoor
open Bd
set_option maxRecDepth 10000
theorem mixed : Tryd.prog.follows .mixedOrders = true := by kernel_rfl
@[reducible] def eB (x : Bool) : D := .val (.bool x)
@[reducible] def eS (x : ByteArray) : D := .val (.string x)
@[reducible] def eI_u8 (x : Int) : D := .val (.int .u8 x)
@[reducible] def eI_u32 (x : Int) : D := .val (.int .u32 x)
@[reducible] def eI_u64 (x : Int) : D := .val (.int .u64 x)
@[reducible] def eI_i64 (x : Int) : D := .val (.int .i64 x)
@[reducible] def eA223 (x : List Int) : D := .arr 1 64 (x.map eI_u32)
@[reducible] def shaK : List Int := [1116352408, 1899447441, 3049323471, 3921009573, 961987163, 1508970993, 2453635748, 2870763221, 3624381080, 310598401, 607225278, 1426881987, 1925078388, 2162078206, 2614888103, 3248222580, 3835390401, 4022224774, 264347078, 604807628, 770255983, 1249150122, 1555081692, 1996064986, 2554220882, 2821834349, 2952996808, 3210313671, 3336571891, 3584528711, 113926993, 338241895, 666307205, 773529912, 1294757372, 1396182291, 1695183700, 1986661051, 2177026350, 2456956037, 2730485921, 2820302411, 3259730800, 3345764771, 3516065817, 3600352804, 4094571909, 275423344, 430227734, 506948616, 659060556, 883997877, 958139571, 1322822218, 1537002063, 1747873779, 1955562222, 2024104815, 2227730452, 2361852424, 2428436474, 2756734187, 3204031479, 3329325298]
@[reducible] def GS : List (Nat × D) := [(0, eA223 shaK)]
@[reducible] def str0 : ByteArray := ⟨#[0, 1, 2, 2, 3, 3, 3, 3, 4, 4, 4, 4, 4, 4, 4, 4, 5, 5, 5, 5, 5, 5, 5, 5, 5, 5, 5, 5, 5, 5, 5, 5, 6, 6, 6, 6, 6, 6, 6, 6, 6, 6, 6, 6, 6, 6, 6, 6, 6, 6, 6, 6, 6, 6, 6, 6, 6, 6, 6, 6, 6, 6, 6, 6, 7, 7, 7, 7, 7, 7, 7, 7, 7, 7, 7, 7, 7, 7, 7, 7, 7, 7, 7, 7, 7, 7, 7, 7, 7, 7, 7, 7, 7, 7, 7, 7, 7, 7, 7, 7, 7, 7, 7, 7, 7, 7, 7, 7, 7, 7, 7, 7, 7, 7, 7, 7, 7, 7, 7, 7, 7, 7, 7, 7, 7, 7, 7, 7, 8, 8, 8, 8, 8, 8, 8, 8, 8, 8, 8, 8, 8, 8, 8, 8, 8, 8, 8, 8, 8, 8, 8, 8, 8, 8, 8, 8, 8, 8, 8, 8, 8, 8, 8, 8, 8, 8, 8, 8, 8, 8, 8, 8, 8, 8, 8, 8, 8, 8, 8, 8, 8, 8, 8, 8, 8, 8, 8, 8, 8, 8, 8, 8, 8, 8, 8, 8, 8, 8, 8, 8, 8, 8, 8, 8, 8, 8, 8, 8, 8, 8, 8, 8, 8, 8, 8, 8, 8, 8, 8, 8, 8, 8, 8, 8, 8, 8, 8, 8, 8, 8, 8, 8, 8, 8, 8, 8, 8, 8, 8, 8, 8, 8, 8, 8, 8, 8, 8, 8, 8, 8, 8, 8, 8, 8, 8, 8]⟩
@[reducible] def eL139 (x : (List Int)) : D := .sl 1 (x.map eI_u8)
@[reducible] def eA22 (x : (List Int)) : D := .arr 1 32 (x.map eI_u8)
structure GTx where
  Pub : (List Int)
  To : (List Int)
  Nonce : Int
  Amount : Int
  Fee : Int
  Sign : (List Int)
  deriving DecidableEq, Inhabited
@[reducible] def eGTx (x : GTx) : D := .st [eA22 x.Pub, eA22 x.To, eI_u64 x.Nonce, eI_u64 x.Amount, eI_u64 x.Fee, eA22 x.Sign]
@[reducible] def eL24 (x : (List GTx)) : D := .sl 99 (x.map eGTx)
structure GLine where
  From : (List Int)
  Txs : (List GTx)
  deriving DecidableEq, Inhabited
@[reducible] def eGLine (x : GLine) : D := .st [eA22 x.From, eL24 x.Txs]
structure GPair where
  Key : (List Int)
  Value : (List Int)
  deriving DecidableEq, Inhabited
@[reducible] def eGPair (x : GPair) : D := .st [eA22 x.Key, eL139 x.Value]
structure GNode where
  Leaf : Bool
  Key : (List Int)
  Value : (List Int)
  Left : Int
  Right : Int
  deriving DecidableEq, Inhabited
@[reducible] def eGNode (x : GNode) : D := .st [eB x.Leaf, eA22 x.Key, eL139 x.Value, eI_i64 x.Left, eI_i64 x.Right]
@[reducible] def eL88 (x : (List GNode)) : D := .sl 36 (x.map eGNode)
structure GTree where
  Nodes : (List GNode)
  Root : Int
  deriving DecidableEq, Inhabited
@[reducible] def eGTree (x : GTree) : D := .st [eL88 x.Nodes, eI_i64 x.Root]
@[reducible] def eA200 (x : (List Int)) : D := .arr 1 2 (x.map eI_i64)
@[reducible] def eL180 (x : (List (List Int))) : D := .sl 1 (x.map eL139)
@[reducible] def eA209 (x : (List Int)) : D := .arr 1 8 (x.map eI_u32)
@[reducible] def eL184 (x : (List (List Int))) : D := .sl 32 (x.map eA22)
@[reducible] def eL187 (x : (List Int)) : D := .sl 1 (x.map eI_u64)
@[reducible] def eL72 (x : (List GLine)) : D := .sl 33 (x.map eGLine)
structure GShard where
  Lines : (List GLine)
  deriving DecidableEq, Inhabited
@[reducible] def eGShard (x : GShard) : D := .st [eL72 x.Lines]
@[reducible] def eL41 (x : (List GShard)) : D := .sl 1 (x.map eGShard)
structure GAccount where
  Nonce : Int
  Balance : Int
  deriving DecidableEq, Inhabited
@[reducible] def eGAccount (x : GAccount) : D := .st [eI_u64 x.Nonce, eI_u64 x.Balance]

theorem un5 : Tryd.prog.underlying 5 = some (.int .u8) := by kernel_rfl
theorem un3 : Tryd.prog.underlying 3 = some (.int .i64) := by kernel_rfl
theorem un9 : Tryd.prog.underlying 9 = some (.string) := by kernel_rfl
theorem un202 : Tryd.prog.underlying 202 = some (.int .u64) := by kernel_rfl
theorem en181 : enterB Tryd.prog 181 = true := by kernel_rfl
theorem sl139 : slB Tryd.prog 139 = some 1 := by kernel_rfl
theorem sl72 : slB Tryd.prog 72 = some 33 := by kernel_rfl
theorem en176 : enterB Tryd.prog 176 = true := by kernel_rfl
theorem ar23 : arrB Tryd.prog 23 = some (32, 1) := by kernel_rfl
theorem ty5 : tyB Tryd.prog 5 = some (false, 1) := by kernel_rfl
theorem ty23 : tyB Tryd.prog 23 = some (true, 32) := by kernel_rfl
theorem zr23 : ∃ zv, zeroB Tryd.prog 23 = some zv ∧ ∀ F μ w, RA F μ w (.d (eA22 (List.replicate 32 (0 : Int)))) zv.cells.toList := zero_mk' (by kernel_rfl) (by kernel_rfl)
theorem ag23 : aggB Tryd.prog 23 = true := by kernel_rfl
theorem sl175 : slB Tryd.prog 175 = some 33 := by kernel_rfl
theorem sl24 : slB Tryd.prog 24 = some 99 := by kernel_rfl
theorem en167 : enterB Tryd.prog 167 = true := by kernel_rfl
theorem ty200 : tyB Tryd.prog 200 = some (true, 2) := by kernel_rfl
theorem pl200_1 : placeB Tryd.prog 200 1 = some (1, 1) := by kernel_rfl
theorem pl200_0 : placeB Tryd.prog 200 0 = some (0, 1) := by kernel_rfl
theorem zr200 : ∃ zv, zeroB Tryd.prog 200 = some zv ∧ ∀ F μ w, RA F μ w (.d (eA200 (List.replicate 2 (0 : Int)))) zv.cells.toList := zero_mk' (by kernel_rfl) (by kernel_rfl)
theorem ag200 : aggB Tryd.prog 200 = true := by kernel_rfl
theorem ty3 : tyB Tryd.prog 3 = some (false, 1) := by kernel_rfl
theorem fl141_4 : fieldB Tryd.prog 141 4 = some (35, false, 1) := by kernel_rfl
theorem fl141_3 : fieldB Tryd.prog 141 3 = some (34, false, 1) := by kernel_rfl
theorem sl88 : slB Tryd.prog 88 = some 36 := by kernel_rfl
theorem un27 : Tryd.prog.underlying 27 = some (.int .u64) := by kernel_rfl
theorem el139 : elB Tryd.prog 139 = some (1, 1) := by kernel_rfl
theorem zel139 : zelB Tryd.prog 139 = some (D.cells (.val (.int .u8 (0 : Int)))) := by kernel_rfl
theorem en143 : enterB Tryd.prog 143 = true := by kernel_rfl
theorem sl180 : slB Tryd.prog 180 = some 1 := by kernel_rfl
theorem un208 : Tryd.prog.underlying 208 = some (.int .u32) := by kernel_rfl
theorem ty139 : tyB Tryd.prog 139 = some (false, 1) := by kernel_rfl
theorem pl139_0 : placeB Tryd.prog 139 0 = some (0, 1) := by kernel_rfl
theorem ar223 : arrB Tryd.prog 223 = some (64, 1) := by kernel_rfl
theorem ty208 : tyB Tryd.prog 208 = some (false, 1) := by kernel_rfl
theorem en170 : enterB Tryd.prog 170 = true := by kernel_rfl
theorem ar210 : arrB Tryd.prog 210 = some (8, 1) := by kernel_rfl
theorem ty210 : tyB Tryd.prog 210 = some (true, 8) := by kernel_rfl
theorem pl210_7 : placeB Tryd.prog 210 7 = some (7, 1) := by kernel_rfl
theorem pl210_6 : placeB Tryd.prog 210 6 = some (6, 1) := by kernel_rfl
theorem pl210_5 : placeB Tryd.prog 210 5 = some (5, 1) := by kernel_rfl
theorem pl210_4 : placeB Tryd.prog 210 4 = some (4, 1) := by kernel_rfl
theorem pl210_3 : placeB Tryd.prog 210 3 = some (3, 1) := by kernel_rfl
theorem pl210_2 : placeB Tryd.prog 210 2 = some (2, 1) := by kernel_rfl
theorem pl210_1 : placeB Tryd.prog 210 1 = some (1, 1) := by kernel_rfl
theorem pl210_0 : placeB Tryd.prog 210 0 = some (0, 1) := by kernel_rfl
theorem zr210 : ∃ zv, zeroB Tryd.prog 210 = some zv ∧ ∀ F μ w, RA F μ w (.d (eA209 (List.replicate 8 (0 : Int)))) zv.cells.toList := zero_mk' (by kernel_rfl) (by kernel_rfl)
theorem ag210 : aggB Tryd.prog 210 = true := by kernel_rfl
theorem zr223 : ∃ zv, zeroB Tryd.prog 223 = some zv ∧ ∀ F μ w, RA F μ w (.d (eA223 (List.replicate 64 (0 : Int)))) zv.cells.toList := zero_mk' (by kernel_rfl) (by kernel_rfl)
theorem en160 : enterB Tryd.prog 160 = true := by kernel_rfl
theorem fl_eA209 : ∀ x : (List Int), FlatD (eA209 x) := fun _ => flat_arr fun _ => flat_val
theorem ty88 : tyB Tryd.prog 88 = some (false, 1) := by kernel_rfl
theorem fl90_0 : fieldB Tryd.prog 90 0 = some (0, false, 1) := by kernel_rfl
theorem fl90_1 : fieldB Tryd.prog 90 1 = some (1, false, 1) := by kernel_rfl
theorem eq_eI_u8 (a b : Int) : D.eqB (eI_u8 a) (eI_u8 b) = decide (a = b) := by simp only [D.eqB]; rfl
theorem fit5 {d : Nat} (a : Int) : Fits Tryd.prog (d + 1) 5 (eI_u8 a) := .int un5
theorem eq_eA22 (a b : (List Int)) : D.eqB (eA22 a) (eA22 b) = decide (a = b) := by simp only [D.eqB]; exact eqBs_map eq_eI_u8 a b
theorem uda23 : Tryd.prog.underlying 23 = some (.array 32 5) := by kernel_rfl
theorem fit23 {d : Nat} (a : (List Int)) : Fits Tryd.prog (d + 2) 23 (eA22 a) := .arr uda23 ty5 (by intro x hx; obtain ⟨y, _, rfl⟩ := List.mem_map.1 hx; rfl) (by intro x hx; obtain ⟨y, _, rfl⟩ := List.mem_map.1 hx; exact fit5 y)
theorem gd23 : Tryd.prog.eqGuardType Tryd.prog.depth 23 = false := by kernel_rfl
theorem fl141_1 : fieldB Tryd.prog 141 1 = some (1, true, 32) := by kernel_rfl
theorem uda200 : Tryd.prog.underlying 200 = some (.array 2 3) := by kernel_rfl
theorem en156 : enterB Tryd.prog 156 = true := by kernel_rfl
theorem en155 : enterB Tryd.prog 155 = true := by kernel_rfl
theorem ty141 : tyB Tryd.prog 141 = some (true, 36) := by kernel_rfl
theorem ty4 : tyB Tryd.prog 4 = some (false, 1) := by kernel_rfl
theorem fl141_0 : fieldB Tryd.prog 141 0 = some (0, false, 1) := by kernel_rfl
theorem zrv141 : ∃ zv, zeroB Tryd.prog 141 = some zv ∧ ∀ F μ w, RA F μ w (.st [.d (.val (.bool false)), .d (eA22 (List.replicate 32 (0 : Int))), .d (.val (.slice none 0 0)), .d (.val (.int .i64 (0 : Int))), .d (.val (.int .i64 (0 : Int)))]) zv.cells.toList := zero_st (ds := [(.val (.bool false)), (eA22 (List.replicate 32 (0 : Int))), (.val (.slice none 0 0)), (.val (.int .i64 (0 : Int))), (.val (.int .i64 (0 : Int)))]) (zero_mk' (by kernel_rfl) (by kernel_rfl))
theorem sl184 : slB Tryd.prog 184 = some 32 := by kernel_rfl
theorem en140 : enterB Tryd.prog 140 = true := by kernel_rfl
theorem sl187 : slB Tryd.prog 187 = some 1 := by kernel_rfl
theorem en142 : enterB Tryd.prog 142 = true := by kernel_rfl
theorem ty27 : tyB Tryd.prog 27 = some (false, 1) := by kernel_rfl
theorem en141 : enterB Tryd.prog 141 = true := by kernel_rfl
theorem pl187_2 : placeB Tryd.prog 187 2 = some (2, 1) := by kernel_rfl
theorem pl187_1 : placeB Tryd.prog 187 1 = some (1, 1) := by kernel_rfl
theorem pl187_0 : placeB Tryd.prog 187 0 = some (0, 1) := by kernel_rfl
theorem el187 : elB Tryd.prog 187 = some (1, 8) := by kernel_rfl
theorem zel187 : zelB Tryd.prog 187 = some (D.cells (.val (.int .u64 (0 : Int)))) := by kernel_rfl
theorem fl36_4 : fieldB Tryd.prog 36 4 = some (66, false, 1) := by kernel_rfl
theorem fl36_3 : fieldB Tryd.prog 36 3 = some (65, false, 1) := by kernel_rfl
theorem fl36_2 : fieldB Tryd.prog 36 2 = some (64, false, 1) := by kernel_rfl
theorem en139 : enterB Tryd.prog 139 = true := by kernel_rfl
theorem pl184_1 : placeB Tryd.prog 184 1 = some (32, 32) := by kernel_rfl
theorem pl184_0 : placeB Tryd.prog 184 0 = some (0, 32) := by kernel_rfl
theorem el184 : elB Tryd.prog 184 = some (32, 32) := by kernel_rfl
theorem zel184 : zelB Tryd.prog 184 = some (D.cells (eA22 (List.replicate 32 (0 : Int)))) := by kernel_rfl
theorem fl36_1 : fieldB Tryd.prog 36 1 = some (32, true, 32) := by kernel_rfl
theorem fl36_0 : fieldB Tryd.prog 36 0 = some (0, true, 32) := by kernel_rfl
theorem en137 : enterB Tryd.prog 137 = true := by kernel_rfl
theorem fl_eA22 : ∀ x : (List Int), FlatD (eA22 x) := fun _ => flat_arr fun _ => flat_val
theorem pl180_0 : placeB Tryd.prog 180 0 = some (0, 1) := by kernel_rfl
theorem el180 : elB Tryd.prog 180 = some (1, 24) := by kernel_rfl
theorem zel180 : zelB Tryd.prog 180 = some (D.cells (.val (.slice none 0 0))) := by kernel_rfl
theorem en138 : enterB Tryd.prog 138 = true := by kernel_rfl
theorem sl41 : slB Tryd.prog 41 = some 1 := by kernel_rfl
theorem ty41 : tyB Tryd.prog 41 = some (false, 1) := by kernel_rfl
theorem en115 : enterB Tryd.prog 115 = true := by kernel_rfl
theorem en116 : enterB Tryd.prog 116 = true := by kernel_rfl
theorem ty36 : tyB Tryd.prog 36 = some (true, 99) := by kernel_rfl
theorem en85 : enterB Tryd.prog 85 = true := by kernel_rfl
theorem fl36_5 : fieldB Tryd.prog 36 5 = some (67, true, 32) := by kernel_rfl
theorem en84 : enterB Tryd.prog 84 = true := by kernel_rfl
theorem en39 : enterB Tryd.prog 39 = true := by kernel_rfl
theorem en38 : enterB Tryd.prog 38 = true := by kernel_rfl
theorem ty24 : tyB Tryd.prog 24 = some (false, 1) := by kernel_rfl
theorem fl26_1 : fieldB Tryd.prog 26 1 = some (32, false, 1) := by kernel_rfl
theorem en77 : enterB Tryd.prog 77 = true := by kernel_rfl
theorem fl26_0 : fieldB Tryd.prog 26 0 = some (0, true, 32) := by kernel_rfl
theorem zr36 : ∃ zv, zeroB Tryd.prog 36 = some zv ∧ ∀ F μ w, RA F μ w (.d (eGTx (⟨(List.replicate 32 (0 : Int)), (List.replicate 32 (0 : Int)), (0 : Int), (0 : Int), (0 : Int), (List.replicate 32 (0 : Int))⟩ : GTx))) zv.cells.toList := zero_mk' (by kernel_rfl) (by kernel_rfl)
theorem ty114 : tyB Tryd.prog 114 = some (true, 2) := by kernel_rfl
theorem pl114_1 : placeB Tryd.prog 114 1 = some (1, 1) := by kernel_rfl
theorem pl114_0 : placeB Tryd.prog 114 0 = some (0, 1) := by kernel_rfl
theorem zrv114 : ∃ zv, zeroB Tryd.prog 114 = some zv ∧ ∀ F μ w, RA F μ w (.st [.d (.val (.slice none 0 0)), .d (.val .nilFunc)]) zv.cells.toList := zero_st (ds := [(.val (.slice none 0 0)), (.val .nilFunc)]) (zero_mk' (by kernel_rfl) (by kernel_rfl))
theorem ag114 : aggB Tryd.prog 114 = true := by kernel_rfl
theorem ty72 : tyB Tryd.prog 72 = some (false, 1) := by kernel_rfl
theorem fl74_0 : fieldB Tryd.prog 74 0 = some (0, false, 1) := by kernel_rfl
theorem el41 : elB Tryd.prog 41 = some (1, 24) := by kernel_rfl
theorem zeln41 : zelB Tryd.prog 41 = some (D.cells (.st [(.val (.slice none 0 0))])) := by kernel_rfl
theorem fl141_2 : fieldB Tryd.prog 141 2 = some (33, false, 1) := by kernel_rfl
theorem ty26 : tyB Tryd.prog 26 = some (true, 33) := by kernel_rfl
theorem zrv26 : ∃ zv, zeroB Tryd.prog 26 = some zv ∧ ∀ F μ w, RA F μ w (.st [.d (eA22 (List.replicate 32 (0 : Int))), .d (.val (.slice none 0 0))]) zv.cells.toList := zero_st (ds := [(eA22 (List.replicate 32 (0 : Int))), (.val (.slice none 0 0))]) (zero_mk' (by kernel_rfl) (by kernel_rfl))
theorem en111 : enterB Tryd.prog 111 = true := by kernel_rfl
theorem fl114_0 : fieldB Tryd.prog 114 0 = some (0, false, 1) := by kernel_rfl
theorem ty112 : tyB Tryd.prog 112 = some (false, 1) := by kernel_rfl
theorem fl114_1 : fieldB Tryd.prog 114 1 = some (1, false, 1) := by kernel_rfl
theorem en53 : enterB Tryd.prog 53 = true := by kernel_rfl
theorem ty74 : tyB Tryd.prog 74 = some (true, 1) := by kernel_rfl
theorem zrv74 : ∃ zv, zeroB Tryd.prog 74 = some zv ∧ ∀ F μ w, RA F μ w (.st [.d (.val (.slice none 0 0))]) zv.cells.toList := zero_st (ds := [(.val (.slice none 0 0))]) (zero_mk' (by kernel_rfl) (by kernel_rfl))
theorem eq_eI_u64 (a b : Int) : D.eqB (eI_u64 a) (eI_u64 b) = decide (a = b) := by simp only [D.eqB]; rfl
theorem fit27 {d : Nat} (a : Int) : Fits Tryd.prog (d + 1) 27 (eI_u64 a) := .int un27
theorem eq_eGTx (a b : GTx) : D.eqB (eGTx a) (eGTx b) = decide (a = b) := by
  show (D.eqB (eA22 a.Pub) (eA22 b.Pub) && (D.eqB (eA22 a.To) (eA22 b.To) && (D.eqB (eI_u64 a.Nonce) (eI_u64 b.Nonce) && (D.eqB (eI_u64 a.Amount) (eI_u64 b.Amount) && (D.eqB (eI_u64 a.Fee) (eI_u64 b.Fee) && (D.eqB (eA22 a.Sign) (eA22 b.Sign) && true)))))) = _
  rw [eq_eA22, eq_eA22, eq_eI_u64, eq_eI_u64, eq_eI_u64, eq_eA22]
  cases a; cases b; simp only [Bool.and_true, GTx.mk.injEq, Bool.decide_and]
theorem udst36 : Tryd.prog.underlying 36 = some (.struct (Tryd.prog.fieldsOf 36)) := by kernel_rfl
theorem sih36 : Tryd.prog.stoodInHeld 36 = false := by kernel_rfl
theorem fq36 : fieldsQ Tryd.prog 36 = [(23, 0, false), (23, 32, false), (27, 64, false), (27, 65, false), (27, 66, false), (23, 67, false)] := by kernel_rfl
theorem fit36 {d : Nat} (a : GTx) : Fits Tryd.prog (d + 3) 36 (eGTx a) := fits_st udst36 sih36 fq36 ⟨rfl, rfl, ty23, fit23 _, ⟨rfl, rfl, ty23, fit23 _, ⟨rfl, rfl, ty27, fit27 _, ⟨rfl, rfl, ty27, fit27 _, ⟨rfl, rfl, ty27, fit27 _, ⟨rfl, rfl, ty23, fit23 _, trivial⟩⟩⟩⟩⟩⟩
theorem gd36 : Tryd.prog.eqGuardType Tryd.prog.depth 36 = false := by kernel_rfl

/- 181: math/bits.Len8 -/
def F181_bits_Len8 (n : Nat) (a0 : Int) : Option (Int) :=
  ((sRd str0 a0).bind fun (x1 : UInt8) => some (IntKind.i64.wrap (x1.toNat : Int)))
theorem F181_bits_Len8_ok {n : Nat} {a0 : Int} {r : Int} (h : F181_bits_Len8 n a0 = some r) :
    ACall Tryd.prog GS 181 [.d (.val (.int .u8 a0))] [] (fun r' hp' => r' = .d (.val (.int .i64 r)) ∧ hp' = []) := by
 refine acall_of_body mixed Tryd.func181 rfl (by rfl) ?_
 intro C hro hgl hb0
 unfold F181_bits_Len8 at h
 refine aw_rs ?_
 refine .a rfl ?_
 refine .z ?_
 refine .m rfl ?_
 obtain ⟨x1, hx2, h⟩ := bind_some h
 obtain ⟨hx3, hx2⟩ := sRd_some hx2
 refine .v (f_indexStr (by rfl) un9 hx3 hx2) rfl (.c rfl (.c rfl .nil)) .nil ?_
 refine .v (f_convI (by rfl) un5 un3) rfl (.c rfl .nil) .nil ?_
 refine .a rfl ?_
 refine .nil (aq_then ?_)
 refine aw_ret ?_
 obtain rfl := Option.some.inj h
 exact aq_finp hb0 rfl (.tmp rfl (by rfl) .nil) (by rfl) rfl ⟨rfl, rfl⟩

/- 176: math/bits.RotateLeft32 -/
def F176_bits_RotateLeft32 (n : Nat) (a0 : Int) (a1 : Int) : Option (Int) :=
  (if 0 ≤ (bAnd .u64 (IntKind.u64.wrap a1) (31 : Int)) then (if 0 ≤ (IntKind.u64.wrap ((32 : Int) - (bAnd .u64 (IntKind.u64.wrap a1) (31 : Int)))) then some (bOr .u32 (shl .u32 a0 (bAnd .u64 (IntKind.u64.wrap a1) (31 : Int))) (shr .u32 a0 (IntKind.u64.wrap ((32 : Int) - (bAnd .u64 (IntKind.u64.wrap a1) (31 : Int)))))) else none) else none)
theorem F176_bits_RotateLeft32_ok {n : Nat} {a0 : Int} {a1 : Int} {r : Int} (h : F176_bits_RotateLeft32 n a0 a1 = some r) :
    ACall Tryd.prog GS 176 [.d (.val (.int .u32 a0)), .d (.val (.int .i64 a1))] [] (fun r' hp' => r' = .d (.val (.int .u32 r)) ∧ hp' = []) := by
 refine acall_of_body mixed Tryd.func176 rfl (by rfl) ?_
 intro C hro hgl hb0
 unfold F176_bits_RotateLeft32 at h
 refine aw_rs ?_
 refine .a rfl ?_
 refine .z ?_
 refine .m rfl ?_
 refine .v (f_convI (by rfl) un3 un202) rfl (.c rfl .nil) .nil ?_
 refine .v (f_binI (r := .int .u64 (bAnd .u64 (IntKind.u64.wrap a1) (31 : Int))) (by rfl) rfl (by rfl)) rfl (.c rfl (.c rfl .nil)) .nil ?_
 refine .a rfl ?_
 refine .z ?_
 refine .m rfl ?_
 refine .m rfl ?_
 obtain ⟨hz1, h⟩ := ifp h
 refine .v (f_shift (by rfl) (shl_ok hz1) (by rfl)) rfl (.c rfl (.c rfl .nil)) .nil ?_
 refine .m rfl ?_
 refine .m rfl ?_
 refine .b rfl rfl rfl ?_
 obtain ⟨hz2, h⟩ := ifp h
 refine .v (f_shift (by rfl) (shr_ok hz2) (by rfl)) rfl (.c rfl (.c rfl .nil)) .nil ?_
 refine .v (f_binI (r := .int .u32 (bOr .u32 (shl .u32 a0 (bAnd .u64 (IntKind.u64.wrap a1) (31 : Int))) (shr .u32 a0 (IntKind.u64.wrap ((32 : Int) - (bAnd .u64 (IntKind.u64.wrap a1) (31 : Int))))))) (by rfl) rfl (by rfl)) rfl (.c rfl (.c rfl .nil)) .nil ?_
 refine .a rfl ?_
 refine .nil (aq_then ?_)
 refine aw_ret ?_
 obtain rfl := Option.some.inj h
 exact aq_finp hb0 rfl (.tmp rfl (by rfl) .nil) (by rfl) rfl ⟨rfl, rfl⟩

/- 175: math/bits.LeadingZeros8 -/
def F175_bits_LeadingZeros8 (n : Nat) (a0 : Int) : Option (Int) :=
  ((F181_bits_Len8 n a0).bind fun (y1 : Int) => some (IntKind.i64.wrap ((8 : Int) - y1)))
theorem F175_bits_LeadingZeros8_ok {n : Nat} {a0 : Int} {r : Int} (h : F175_bits_LeadingZeros8 n a0 = some r) :
    ACall Tryd.prog GS 175 [.d (.val (.int .u8 a0))] [] (fun r' hp' => r' = .d (.val (.int .i64 r)) ∧ hp' = []) := by
 refine acall_of_body mixed Tryd.func175 rfl (by rfl) ?_
 intro C hro hgl hb0
 unfold F175_bits_LeadingZeros8 at h
 refine aw_rs ?_
 refine .a rfl ?_
 refine .z ?_
 refine .m rfl ?_
 obtain ⟨y1, hy2, h⟩ := bind_some h
 refine .v (f_callP hgl (by rfl) en181 rfl (by rfl) (by rfl) (by rfl) (F181_bits_Len8_ok hy2)) rfl (.c rfl .nil) .nil ?_
 refine .b rfl rfl rfl ?_
 refine .a rfl ?_
 refine .nil (aq_then ?_)
 refine aw_ret ?_
 obtain rfl := Option.some.inj h
 exact aq_finp hb0 rfl (.tmp rfl (by rfl) .nil) (by rfl) rfl ⟨rfl, rfl⟩

/- 174: beadroll/pairs.value -/
def F174_pairs_value (n : Nat) (a0 : (List Int)) : Option (Bool) :=
  (((if (decide (((a0).length : Int) > (0 : Int))) = true then some (decide (((a0).length : Int) ≤ (64 : Int))) else some false)).bind fun (o2 : Bool) => some o2)
theorem F174_pairs_value_ok {n : Nat} {a0 : (List Int)} {r : Bool} (h : F174_pairs_value n a0 = some r) :
    ACall Tryd.prog GS 174 [.d (eL139 a0)] [] (fun r' hp' => r' = .d (.val (.bool r)) ∧ hp' = []) := by
 refine acall_of_body mixed Tryd.func174 rfl (by rfl) ?_
 intro C hro hgl hb0
 unfold F174_pairs_value at h
 refine aw_rs ?_
 refine .a rfl ?_
 refine .nil (aq_then ?_)
 refine aw_seq ?_
 obtain ⟨o2, ho3, h⟩ := bind_some h
 refine aw_join (.normal) ⟨[(2, .d (.val (.bool o2)))], [], []⟩ ?_ ?_
 ·replace h := ho3
  refine aw_r ?_
  refine .m rfl ?_
  refine .v (f_lenD (n := (a0).length) (by rfl) sl139 rfl (by simp)) rfl (.c rfl .nil) .nil ?_
  refine .b rfl rfl rfl ?_
  refine .m rfl ?_
  rcases Bool.eq_false_or_eq_true (decide (((a0).length : Int) > (0 : Int))) with hc1 | hc1
  ·replace h := ite_t hc1 h
   refine .gv (f_move (by rfl)) rfl rfl rfl hc1 (.c rfl .nil) .nil ?_
   refine .gv (f_lenD (n := (a0).length) (by rfl) sl139 rfl (by simp)) rfl rfl rfl hc1 (.c rfl .nil) .nil ?_
   refine .gv (f_binI (by rfl) rfl (by rfl)) rfl rfl rfl hc1 (.c rfl (.c rfl .nil)) .nil ?_
   refine .v (f_pick_true (by rfl) hc1) rfl (.c rfl (.c rfl .nil)) .nil ?_
   refine .a rfl ?_
   refine .nil ?_
   obtain rfl := Option.some.inj h
   refine aq_weak (s' := ⟨[(2, .d (.val (.bool (decide (((a0).length : Int) ≤ (64 : Int))))))], [], []⟩) id hb0 (.keep rfl .nil) .nil rfl (by rfl) ?_
   exact jq
  replace h := ite_f hc1 h
  refine .off rfl rfl rfl hc1 rfl (by rfl) ?_
  refine .off rfl rfl rfl hc1 rfl (by rfl) ?_
  refine .off rfl rfl rfl hc1 rfl (by rfl) ?_
  refine .v (f_pick_false (by rfl) hc1) rfl (.c rfl (.c rfl .nil)) .nil ?_
  refine .a rfl ?_
  refine .nil ?_
  obtain rfl := Option.some.inj h
  refine aq_weak (s' := ⟨[(2, .d (.val (.bool false)))], [], []⟩) id hb0 (.keep rfl .nil) .nil rfl (by rfl) ?_
  exact jq
 refine aq_then ?_
 refine aw_ret ?_
 obtain rfl := Option.some.inj h
 exact aq_finp hb0 rfl (.tmp rfl (by rfl) .nil) (by rfl) rfl ⟨rfl, rfl⟩

/- 170: beadroll/sha.turned -/
def F170_sha_turned (n : Nat) (a0 : Int) (a1 : Int) : Option (Int) :=
  ((F176_bits_RotateLeft32 n a0 (IntKind.i64.wrap (0 - a1))).bind fun (y1 : Int) => some y1)
theorem F170_sha_turned_ok {n : Nat} {a0 : Int} {a1 : Int} {r : Int} (h : F170_sha_turned n a0 a1 = some r) :
    ACall Tryd.prog GS 170 [.d (.val (.int .u32 a0)), .d (.val (.int .i64 a1))] [] (fun r' hp' => r' = .d (.val (.int .u32 r)) ∧ hp' = []) := by
 refine acall_of_body mixed Tryd.func170 rfl (by rfl) ?_
 intro C hro hgl hb0
 unfold F170_sha_turned at h
 refine aw_rs ?_
 refine .a rfl ?_
 refine .z ?_
 refine .m rfl ?_
 refine .m rfl ?_
 refine .v (f_neg (by rfl)) rfl (.c rfl .nil) .nil ?_
 obtain ⟨y1, hy2, h⟩ := bind_some h
 refine .v (f_callP hgl (by rfl) en176 rfl (by rfl) (by rfl) (by rfl) (F176_bits_RotateLeft32_ok hy2)) rfl (.c rfl (.c rfl .nil)) .nil ?_
 refine .a rfl ?_
 refine .nil (aq_then ?_)
 refine aw_ret ?_
 obtain rfl := Option.some.inj h
 exact aq_finp hb0 rfl (.tmp rfl (by rfl) .nil) (by rfl) rfl ⟨rfl, rfl⟩

/- 167: beadroll/path.Bit -/
def F167_path_Bit (n : Nat) (a0 : (List Int)) (a1 : Int) : Option (Int × Int) :=
  (((if (decide (a1 < (0 : Int))) = true then some true else some (decide (a1 ≥ (256 : Int))))).bind fun (o2 : Bool) => (if o2 = true then some ((0 : Int), (2 : Int)) else ((rd a0 (IntKind.i64.wrap (Int.tdiv a1 (8 : Int)))).bind fun (x4 : Int) => (if 0 ≤ (IntKind.i64.wrap ((7 : Int) - (Int.tmod a1 (8 : Int)))) then some ((bAnd .u8 (shr .u8 x4 (IntKind.i64.wrap ((7 : Int) - (Int.tmod a1 (8 : Int))))) (1 : Int)), (0 : Int)) else none))))
theorem F167_path_Bit_ok {n : Nat} {a0 : (List Int)} {a1 : Int} {r : Int × Int} (h : F167_path_Bit n a0 a1 = some r) :
    ACall Tryd.prog GS 167 [.d (eA22 a0), .d (.val (.int .i64 a1))] [] (fun r' hp' => r' = .res [.d (.val (.int .u8 r.1)), .d (.val (.int .i64 r.2))] ∧ hp' = []) := by
 refine acall_of_body mixed Tryd.func167 rfl (by rfl) ?_
 intro C hro hgl hb0
 unfold F167_path_Bit at h
 refine aw_rs ?_
 refine .n (f_box 2 (by rfl) (by rfl)) rfl (.c rfl .nil) rfl ?_
 refine .a rfl ?_
 refine .a rfl ?_
 refine .nil (aq_then ?_)
 refine aw_seq ?_
 refine aw_seq ?_
 obtain ⟨o2, ho8, h⟩ := bind_some h
 refine aw_join (.normal) ⟨[(1, .d (.val (.int .i64 a1))), (2, .ptr 2 0 []), (11, .d (.val (.bool o2)))], [(2, .av (.d (eA22 a0)))], []⟩ ?_ ?_
 ·replace h := ho8
  refine aw_r ?_
  refine .m rfl ?_
  refine .b rfl rfl rfl ?_
  refine .m rfl ?_
  rcases Bool.eq_false_or_eq_true (decide (a1 < (0 : Int))) with hc1 | hc1
  ·replace h := ite_t hc1 h
   refine .off rfl rfl rfl hc1 rfl (by rfl) ?_
   refine .off rfl rfl rfl hc1 rfl (by rfl) ?_
   refine .v (f_pick_true (by rfl) hc1) rfl (.c rfl (.c rfl .nil)) .nil ?_
   refine .nil ?_
   obtain rfl := Option.some.inj h
   refine aq_weak (s' := ⟨[(1, .d (.val (.int .i64 a1))), (2, .ptr 2 0 []), (11, .d (.val (.bool true)))], [(2, .av (.d (eA22 a0)))], []⟩) id hb0 (.keep rfl (.keep rfl (.keep rfl .nil))) (.keep rfl .nil) rfl (by rfl) ?_
   exact jq
  replace h := ite_f hc1 h
  refine .gv (f_move (by rfl)) rfl rfl rfl hc1 (.c rfl .nil) .nil ?_
  refine .gv (f_binI (by rfl) rfl (by rfl)) rfl rfl rfl hc1 (.c rfl (.c rfl .nil)) .nil ?_
  refine .v (f_pick_false (by rfl) hc1) rfl (.c rfl (.c rfl .nil)) .nil ?_
  refine .nil ?_
  obtain rfl := Option.some.inj h
  refine aq_weak (s' := ⟨[(1, .d (.val (.int .i64 a1))), (2, .ptr 2 0 []), (11, .d (.val (.bool (decide (a1 ≥ (256 : Int))))))], [(2, .av (.d (eA22 a0)))], []⟩) id hb0 (.keep rfl (.keep rfl (.keep rfl .nil))) (.keep rfl .nil) rfl (by rfl) ?_
  exact jq
 refine aq_then ?_
 refine aw_cond rfl (fun hc3 => ?_) (fun hc3 => ?_)
 ·replace h := ite_t hc3 h
  refine aw_rs ?_
  refine .a rfl ?_
  refine .a rfl ?_
  refine .nil (aq_then ?_)
  refine aw_ret ?_
  refine aq_then_ret ?_
  obtain rfl := Option.some.inj h
  exact aq_finp hb0 rfl (.tmp rfl (by rfl) (.tmp rfl (by rfl) .nil)) (by rfl) rfl ⟨rfl, rfl⟩
 replace h := ite_f hc3 h
 refine aw_skip ?_
 refine aq_then ?_
 refine aw_rs ?_
 refine .m rfl ?_
 refine .v (f_binI (by rfl) (quo_ok (by decide)) (by rfl)) rfl (.c rfl (.c rfl .nil)) .nil ?_
 obtain ⟨x4, hx5, h⟩ := bind_some h
 obtain ⟨hx6, hx5⟩ := rd_some hx5
 refine .v (f_indexO (by rfl) ar23 rfl hx6 (rd_map _ hx5)) rfl (.c rfl (.c rfl .nil)) (.cons rfl .nil) ?_
 refine .v (f_load (n := 0) (o := 2) (off := (0 + ((IntKind.i64.wrap (Int.tdiv a1 (8 : Int)))).toNat * 1)) (p := [((IntKind.i64.wrap (Int.tdiv a1 (8 : Int)))).toNat]) (c := .d (eA22 a0)) (z := .d (.val (.int .u8 x4))) (by rfl) (at_map _ hx5 (by simp)) ty5 (by rfl)) rfl (.c rfl .nil) (.cons rfl .nil) ?_
 refine .m rfl ?_
 refine .v (f_binI (by rfl) (rem_ok (by decide)) (by rfl)) rfl (.c rfl (.c rfl .nil)) .nil ?_
 refine .b rfl rfl rfl ?_
 obtain ⟨hz7, h⟩ := ifp h
 refine .v (f_shift (by rfl) (shr_ok hz7) (by rfl)) rfl (.c rfl (.c rfl .nil)) .nil ?_
 refine .v (f_binI (r := .int .u8 (bAnd .u8 (shr .u8 x4 (IntKind.i64.wrap ((7 : Int) - (Int.tmod a1 (8 : Int))))) (1 : Int))) (by rfl) rfl (by rfl)) rfl (.c rfl (.c rfl .nil)) .nil ?_
 refine .a rfl ?_
 refine .a rfl ?_
 refine .nil (aq_then ?_)
 refine aw_ret ?_
 obtain rfl := Option.some.inj h
 exact aq_finp hb0 rfl (.tmp rfl (by rfl) (.tmp rfl (by rfl) .nil)) (by rfl) rfl ⟨rfl, rfl⟩

/- 166: beadroll/path.Turn -/
def F166_path_Turn (n : Nat) (a0 : (List Int)) (a1 : Int) : Option ((List Int) × Int) :=
  (((if (decide (a1 < (0 : Int))) = true then some true else some (decide (a1 ≥ (256 : Int))))).bind fun (o2 : Bool) => (if o2 = true then some ((List.replicate 32 (0 : Int)), (2 : Int)) else ((rd a0 (IntKind.i64.wrap (Int.tdiv a1 (8 : Int)))).bind fun (x4 : Int) => (if 0 ≤ (Int.tmod a1 (8 : Int)) then ((rd a0 (IntKind.i64.wrap (Int.tdiv a1 (8 : Int)))).bind fun (x8 : Int) => some ((a0.set ((IntKind.i64.wrap (Int.tdiv a1 (8 : Int)))).toNat (bXor .u8 x4 (shr .u8 (128 : Int) (Int.tmod a1 (8 : Int))))), (0 : Int))) else none))))
theorem F166_path_Turn_ok {n : Nat} {a0 : (List Int)} {a1 : Int} {r : (List Int) × Int} (h : F166_path_Turn n a0 a1 = some r) :
    ACall Tryd.prog GS 166 [.d (eA22 a0), .d (.val (.int .i64 a1))] [] (fun r' hp' => r' = .res [.d (eA22 r.1), .d (.val (.int .i64 r.2))] ∧ hp' = []) := by
 refine acall_of_body mixed Tryd.func166 rfl (by rfl) ?_
 intro C hro hgl hb0
 unfold F166_path_Turn at h
 refine aw_rs ?_
 refine .n (f_box 2 (by rfl) (by rfl)) rfl (.c rfl .nil) rfl ?_
 refine .n (f_alloc 4 (by rfl) zr23) rfl .nil rfl ?_
 refine .a rfl ?_
 refine .nil (aq_then ?_)
 refine aw_seq ?_
 refine aw_seq ?_
 obtain ⟨o2, ho11, h⟩ := bind_some h
 refine aw_join (.normal) ⟨[(1, .d (.val (.int .i64 a1))), (2, .ptr 2 0 []), (4, .ptr 4 0 []), (11, .d (.val (.bool o2)))], [(2, .av (.d (eA22 a0))), (4, .av (.d (eA22 (List.replicate 32 (0 : Int)))))], []⟩ ?_ ?_
 ·replace h := ho11
  refine aw_r ?_
  refine .m rfl ?_
  refine .b rfl rfl rfl ?_
  refine .m rfl ?_
  rcases Bool.eq_false_or_eq_true (decide (a1 < (0 : Int))) with hc1 | hc1
  ·replace h := ite_t hc1 h
   refine .off rfl rfl rfl hc1 rfl (by rfl) ?_
   refine .off rfl rfl rfl hc1 rfl (by rfl) ?_
   refine .v (f_pick_true (by rfl) hc1) rfl (.c rfl (.c rfl .nil)) .nil ?_
   refine .nil ?_
   obtain rfl := Option.some.inj h
   refine aq_weak (s' := ⟨[(1, .d (.val (.int .i64 a1))), (2, .ptr 2 0 []), (4, .ptr 4 0 []), (11, .d (.val (.bool true)))], [(2, .av (.d (eA22 a0))), (4, .av (.d (eA22 (List.replicate 32 (0 : Int)))))], []⟩) id hb0 (.keep rfl (.keep rfl (.keep rfl (.keep rfl .nil)))) (.keep rfl (.keep rfl .nil)) rfl (by rfl) ?_
   exact jq
  replace h := ite_f hc1 h
  refine .gv (f_move (by rfl)) rfl rfl rfl hc1 (.c rfl .nil) .nil ?_
  refine .gv (f_binI (by rfl) rfl (by rfl)) rfl rfl rfl hc1 (.c rfl (.c rfl .nil)) .nil ?_
  refine .v (f_pick_false (by rfl) hc1) rfl (.c rfl (.c rfl .nil)) .nil ?_
  refine .nil ?_
  obtain rfl := Option.some.inj h
  refine aq_weak (s' := ⟨[(1, .d (.val (.int .i64 a1))), (2, .ptr 2 0 []), (4, .ptr 4 0 []), (11, .d (.val (.bool (decide (a1 ≥ (256 : Int))))))], [(2, .av (.d (eA22 a0))), (4, .av (.d (eA22 (List.replicate 32 (0 : Int)))))], []⟩) id hb0 (.keep rfl (.keep rfl (.keep rfl (.keep rfl .nil)))) (.keep rfl (.keep rfl .nil)) rfl (by rfl) ?_
  exact jq
 refine aq_then ?_
 refine aw_cond rfl (fun hc3 => ?_) (fun hc3 => ?_)
 ·replace h := ite_t hc3 h
  refine aw_rs ?_
  refine .v (f_build (xs := []) (z' := .d (eA22 (List.replicate 32 (0 : Int)))) (by rfl) zr23 ag23 rfl (by rfl) trivial (by rfl) (by rfl)) rfl .nil .nil ?_
  refine .s (f_store (n := 0) (o := 4) (off := 0) (p := []) (c := .d (eA22 (List.replicate 32 (0 : Int)))) (old := .d (eA22 (List.replicate 32 (0 : Int)))) (z := .d (eA22 (List.replicate 32 (0 : Int)))) (c' := .d (eA22 (List.replicate 32 (0 : Int)))) rfl rfl (by rfl) ty23 (by rfl)) rfl (.c rfl (.c rfl .nil)) (.cons rfl .nil) ?_
  refine .a rfl ?_
  refine .nil (aq_then ?_)
  refine aw_ret ?_
  refine aq_then_ret ?_
  obtain rfl := Option.some.inj h
  exact aq_finp hb0 rfl (.cell rfl rfl ty23 (by rfl) (.tmp rfl (by rfl) .nil)) (by rfl) rfl ⟨rfl, rfl⟩
 replace h := ite_f hc3 h
 refine aw_skip ?_
 refine aq_then ?_
 refine aw_rds ?_
 refine .v (f_move (by rfl)) rfl (.c rfl .nil) .nil ?_
 refine .v (f_binI (by rfl) (quo_ok (by decide)) (by rfl)) rfl (.c rfl (.c rfl .nil)) .nil ?_
 obtain ⟨x4, hx5, h⟩ := bind_some h
 obtain ⟨hx6, hx5⟩ := rd_some hx5
 refine .v (f_indexO (by rfl) ar23 rfl hx6 (rd_map _ hx5)) rfl (.c rfl (.c rfl .nil)) (.cons rfl .nil) ?_
 refine .v (f_load (n := 0) (o := 2) (off := (0 + ((IntKind.i64.wrap (Int.tdiv a1 (8 : Int)))).toNat * 1)) (p := [((IntKind.i64.wrap (Int.tdiv a1 (8 : Int)))).toNat]) (c := .d (eA22 a0)) (z := .d (.val (.int .u8 x4))) (by rfl) (at_map _ hx5 (by simp)) ty5 (by rfl)) rfl (.c rfl .nil) (.cons rfl .nil) ?_
 refine .v (f_move (by rfl)) rfl (.c rfl .nil) .nil ?_
 refine .v (f_binI (by rfl) (rem_ok (by decide)) (by rfl)) rfl (.c rfl (.c rfl .nil)) .nil ?_
 obtain ⟨hz7, h⟩ := ifp h
 refine .v (f_shift (by rfl) (shr_ok hz7) (by rfl)) rfl (.c rfl (.c rfl .nil)) .nil ?_
 refine .v (f_binI (r := .int .u8 (bXor .u8 x4 (shr .u8 (128 : Int) (Int.tmod a1 (8 : Int))))) (by rfl) rfl (by rfl)) rfl (.c rfl (.c rfl .nil)) .nil ?_
 obtain ⟨x8, hx9, h⟩ := bind_some h
 obtain ⟨hx10, hx9⟩ := rd_some hx9
 refine .v (f_indexO (by rfl) ar23 rfl hx10 (rd_map _ hx9)) rfl (.c rfl (.c rfl .nil)) (.cons rfl .nil) ?_
 refine .s (f_store (n := 0) (o := 2) (off := (0 + ((IntKind.i64.wrap (Int.tdiv a1 (8 : Int)))).toNat * 1)) (p := [((IntKind.i64.wrap (Int.tdiv a1 (8 : Int)))).toNat]) (c := .d (eA22 a0)) (old := .d (.val (.int .u8 x8))) (z := .d (.val (.int .u8 (bXor .u8 x4 (shr .u8 (128 : Int) (Int.tmod a1 (8 : Int))))))) (c' := .d (eA22 (a0.set ((IntKind.i64.wrap (Int.tdiv a1 (8 : Int)))).toNat (bXor .u8 x4 (shr .u8 (128 : Int) (Int.tmod a1 (8 : Int))))))) (at_map _ hx9 (by simp)) (put_map _ hx9) (by rfl) ty5 (by rfl)) rfl (.c rfl (.c rfl .nil)) (.cons rfl .nil) ?_
 refine .nil (by kernel_rfl) ?_
 refine aw_rs ?_
 refine .l 2 0 [] (.d (eA22 (a0.set ((IntKind.i64.wrap (Int.tdiv a1 (8 : Int)))).toNat (bXor .u8 x4 (shr .u8 (128 : Int) (Int.tmod a1 (8 : Int))))))) (.d (eA22 (a0.set ((IntKind.i64.wrap (Int.tdiv a1 (8 : Int)))).toNat (bXor .u8 x4 (shr .u8 (128 : Int) (Int.tmod a1 (8 : Int))))))) ty23 ?_
 refine .s (f_store (n := 0) (o := 4) (off := 0) (p := []) (c := .d (eA22 (List.replicate 32 (0 : Int)))) (old := .d (eA22 (List.replicate 32 (0 : Int)))) (z := .d (eA22 (a0.set ((IntKind.i64.wrap (Int.tdiv a1 (8 : Int)))).toNat (bXor .u8 x4 (shr .u8 (128 : Int) (Int.tmod a1 (8 : Int))))))) (c' := .d (eA22 (a0.set ((IntKind.i64.wrap (Int.tdiv a1 (8 : Int)))).toNat (bXor .u8 x4 (shr .u8 (128 : Int) (Int.tmod a1 (8 : Int))))))) rfl rfl (by rfl) ty23 (by rfl)) rfl (.c rfl (.c rfl .nil)) (.cons rfl .nil) ?_
 refine .a rfl ?_
 refine .nil (aq_then ?_)
 refine aw_ret ?_
 obtain rfl := Option.some.inj h
 exact aq_finp hb0 rfl (.cell rfl rfl ty23 (by rfl) (.tmp rfl (by rfl) .nil)) (by rfl) rfl ⟨rfl, rfl⟩

/- 158: beadroll/tree.each -/
def F158_tree_each (n : Nat) (a0 : GTree) (a1 : Int) : Option (Int × GTree) :=
  some (a1, a0)
theorem F158_tree_each_ok {n : Nat} {a0 : GTree} {a1 : Int} {r : Int × GTree} (h : F158_tree_each n a0 a1 = some r) :
    ACall Tryd.prog GS 158 [.d (eGTree a0), .d (.val (.int .i64 a1))] [] (fun r' hp' => r' = .fn (.func 169) [] [.ptr 3 0 [], .ptr 2 0 []] ∧ hp' = [(3, .av (.d (.val (.int .i64 r.1)))), (2, .av (.d (eGTree r.2)))]) := by
 refine acall_of_body mixed Tryd.func158 rfl (by rfl) ?_
 intro C hro hgl hb0
 unfold F158_tree_each at h
 refine aw_rs ?_
 refine .n (f_box 2 (by rfl) (by rfl)) rfl (.c rfl .nil) rfl ?_
 refine .n (f_box 3 (by rfl) (by rfl)) rfl (.c rfl .nil) rfl ?_
 refine .a rfl ?_
 refine .z ?_
 refine .v (f_makeFunc (xs := []) (ys := [.ptr 3 0 [], .ptr 2 0 []]) (by rfl) rfl rfl (by rfl) (by rfl)) rfl (.c rfl (.c rfl .nil)) .nil ?_
 refine .a rfl ?_
 refine .nil (aq_then ?_)
 refine aw_ret ?_
 obtain rfl := Option.some.inj h
 refine aq_weak (s' := ⟨[(4, .fn (.func 169) [] [.ptr 3 0 [], .ptr 2 0 []])], [(3, .av (.d (.val (.int .i64 a1)))), (2, .av (.d (eGTree a0)))], []⟩) id hb0 (.keep rfl .nil) (.keep rfl (.keep rfl .nil)) rfl (by rfl) ?_
 exact aq_fin1 (.tmp rfl (by rfl) .nil) rfl ⟨rfl, rfl⟩

/- 156: beadroll/tree.bit -/
def F156_tree_bit (n : Nat) (a0 : (List Int)) (a1 : Int) : Option (Int) :=
  ((F167_path_Bit n a0 a1).bind fun (y1 : Int × Int) => some y1.1)
theorem F156_tree_bit_ok {n : Nat} {a0 : (List Int)} {a1 : Int} {r : Int} (h : F156_tree_bit n a0 a1 = some r) :
    ACall Tryd.prog GS 156 [.d (eA22 a0), .d (.val (.int .i64 a1))] [] (fun r' hp' => r' = .d (.val (.int .u8 r)) ∧ hp' = []) := by
 refine acall_of_body mixed Tryd.func156 rfl (by rfl) ?_
 intro C hro hgl hb0
 unfold F156_tree_bit at h
 refine aw_rs ?_
 refine .n (f_box 2 (by rfl) (by rfl)) rfl (.c rfl .nil) rfl ?_
 refine .a rfl ?_
 refine .z ?_
 refine .l 2 0 [] (.d (eA22 a0)) (.d (eA22 a0)) ty23 ?_
 refine .m rfl ?_
 obtain ⟨y1, hy2, h⟩ := bind_some h
 refine .v (f_callP hgl (by rfl) en167 rfl (by rfl) (by rfl) (by rfl) (F167_path_Bit_ok hy2)) rfl (.c rfl (.c rfl .nil)) .nil ?_
 refine .m rfl ?_
 refine .v (f_extract (by rfl) rfl) rfl (.c rfl .nil) .nil ?_
 refine .v (f_extract (by rfl) rfl) rfl (.c rfl .nil) .nil ?_
 refine .a rfl ?_
 refine .a rfl ?_
 refine .z ?_
 refine .m rfl ?_
 refine .a rfl ?_
 refine .nil (aq_then ?_)
 refine aw_ret ?_
 obtain rfl := Option.some.inj h
 exact aq_finp hb0 rfl (.tmp rfl (by rfl) .nil) (by rfl) rfl ⟨rfl, rfl⟩

/- 155: beadroll/tree.roads -/
def F155_tree_roads (n : Nat) (a0 : GNode) : Option ((List Int)) :=
  some ([a0.Left, a0.Right] : List Int)
theorem F155_tree_roads_ok {n : Nat} {a0 : GNode} {r : (List Int)} (h : F155_tree_roads n a0 = some r) :
    ACall Tryd.prog GS 155 [.d (eGNode a0)] [] (fun r' hp' => r' = .d (eA200 r) ∧ hp' = []) := by
 refine acall_of_body mixed Tryd.func155 rfl (by rfl) ?_
 intro C hro hgl hb0
 unfold F155_tree_roads at h
 refine aw_rs ?_
 refine .n (f_box 1 (by rfl) (by rfl)) rfl (.c rfl .nil) rfl ?_
 refine .n (f_alloc 2 (by rfl) zr200) rfl .nil rfl ?_
 refine .z ?_
 refine .v (f_fieldAddr (n := 34) (by rfl) fl141_3 (by decide)) rfl (.c rfl .nil) .nil ?_
 refine .l 1 (0 + 34) [3] (.d (eGNode a0)) (.d (.val (.int .i64 a0.Left))) ty3 ?_
 refine .v (f_fieldAddr (n := 35) (by rfl) fl141_4 (by decide)) rfl (.c rfl .nil) .nil ?_
 refine .l 1 (0 + 35) [4] (.d (eGNode a0)) (.d (.val (.int .i64 a0.Right))) ty3 ?_
 refine .v (f_build (xs := [(0, .d (.val (.int .i64 a0.Left))), (1, .d (.val (.int .i64 a0.Right)))]) (z' := .d (eA200 ([a0.Left, a0.Right] : List Int))) (by rfl) zr200 ag200 rfl (by rfl) ⟨_, _, _, rfl, pl200_0, rfl, rfl, ⟨_, _, _, rfl, pl200_1, rfl, rfl, trivial⟩⟩ (by rfl) (by rfl)) rfl (.c rfl (.c rfl .nil)) .nil ?_
 refine .s (f_store (n := 0) (o := 2) (off := 0) (p := []) (c := .d (eA200 (List.replicate 2 (0 : Int)))) (old := .d (eA200 (List.replicate 2 (0 : Int)))) (z := .d (eA200 ([a0.Left, a0.Right] : List Int))) (c' := .d (eA200 ([a0.Left, a0.Right] : List Int))) rfl rfl (by rfl) ty200 (by rfl)) rfl (.c rfl (.c rfl .nil)) (.cons rfl .nil) ?_
 refine .nil (aq_then ?_)
 refine aw_ret ?_
 obtain rfl := Option.some.inj h
 exact aq_finp hb0 rfl (.cell rfl rfl ty200 (by rfl) .nil) (by rfl) rfl ⟨rfl, rfl⟩

/- 143: beadroll/num.Put -/
def F143_num_Put_s0 (a0 : Int) (a1 : Int) (z0_0 : Int) (z0_1 : List Int) : Option ((Int × List Int) ⊕ (List Int)) :=
  (if (decide (z0_0 < a1)) = true then (if 0 ≤ (IntKind.i64.wrap ((8 : Int) * z0_0)) then ((rd z0_1 (IntKind.i64.wrap ((IntKind.i64.wrap (a1 - (1 : Int))) - z0_0))).bind fun (x11 : Int) => some (.inl ((IntKind.i64.wrap (z0_0 + (1 : Int))), (z0_1.set (0 + ((IntKind.i64.wrap ((IntKind.i64.wrap (a1 - (1 : Int))) - z0_0))).toNat) (IntKind.u8.wrap (shr .u64 a0 (IntKind.i64.wrap ((8 : Int) * z0_0)))))))) else none) else some (.inr z0_1))
def F143_num_Put (n : Nat) (a0 : Int) (a1 : Int) : Option ((List Int) × Int) :=
  (((if (decide (a1 < (1 : Int))) = true then some true else some (decide (a1 > (8 : Int))))).bind fun (o2 : Bool) => (if o2 = true then some ([], (2 : Int)) else (((if (decide (a1 < (8 : Int))) = true then (if 0 ≤ (IntKind.i64.wrap ((8 : Int) * a1)) then some (decide ((shr .u64 a0 (IntKind.i64.wrap ((8 : Int) * a1))) > (0 : Int))) else none) else some false)).bind fun (o6 : Bool) => (if o6 = true then some ([], (4 : Int)) else (if 0 ≤ a1 ∧ a1 ≤ 1073741824 then ((loopF (fun (z : Int × List Int) => F143_num_Put_s0 a0 a1 z.1 z.2) n ((0 : Int), (List.replicate (a1).toNat (0 : Int)))).bind fun (o14 : List Int) => some (o14, (0 : Int))) else none)))))
theorem F143_num_Put_ok {n : Nat} {a0 : Int} {a1 : Int} {r : (List Int) × Int} (h : F143_num_Put n a0 a1 = some r) :
    ACall Tryd.prog GS 143 [.d (.val (.int .u64 a0)), .d (.val (.int .i64 a1))] [] (fun r' hp' => r' = .res [.d (eL139 r.1), .d (.val (.int .i64 r.2))] ∧ hp' = []) := by
 refine acall_of_body mixed Tryd.func143 rfl (by rfl) ?_
 intro C hro hgl hb0
 unfold F143_num_Put at h
 refine aw_rs ?_
 refine .a rfl ?_
 refine .a rfl ?_
 refine .nil (aq_then ?_)
 refine aw_seq ?_
 refine aw_block ?_
 refine aw_seq ?_
 obtain ⟨o2, ho17, h⟩ := bind_some h
 refine aw_join (.normal) ⟨[(0, .d (.val (.int .u64 a0))), (1, .d (.val (.int .i64 a1))), (8, .d (.val (.bool o2)))], [], []⟩ ?_ ?_
 ·replace h := ho17
  refine aw_r ?_
  refine .m rfl ?_
  refine .b rfl rfl rfl ?_
  refine .m rfl ?_
  rcases Bool.eq_false_or_eq_true (decide (a1 < (1 : Int))) with hc1 | hc1
  ·replace h := ite_t hc1 h
   refine .off rfl rfl rfl hc1 rfl (by rfl) ?_
   refine .off rfl rfl rfl hc1 rfl (by rfl) ?_
   refine .v (f_pick_true (by rfl) hc1) rfl (.c rfl (.c rfl .nil)) .nil ?_
   refine .a rfl ?_
   refine .nil ?_
   obtain rfl := Option.some.inj h
   refine aq_weak (s' := ⟨[(0, .d (.val (.int .u64 a0))), (1, .d (.val (.int .i64 a1))), (8, .d (.val (.bool true)))], [], []⟩) id hb0 (.keep rfl (.keep rfl (.keep rfl .nil))) .nil rfl (by rfl) ?_
   exact jq
  replace h := ite_f hc1 h
  refine .gv (f_move (by rfl)) rfl rfl rfl hc1 (.c rfl .nil) .nil ?_
  refine .gv (f_binI (by rfl) rfl (by rfl)) rfl rfl rfl hc1 (.c rfl (.c rfl .nil)) .nil ?_
  refine .v (f_pick_false (by rfl) hc1) rfl (.c rfl (.c rfl .nil)) .nil ?_
  refine .a rfl ?_
  refine .nil ?_
  obtain rfl := Option.some.inj h
  refine aq_weak (s' := ⟨[(0, .d (.val (.int .u64 a0))), (1, .d (.val (.int .i64 a1))), (8, .d (.val (.bool (decide (a1 > (8 : Int))))))], [], []⟩) id hb0 (.keep rfl (.keep rfl (.keep rfl .nil))) .nil rfl (by rfl) ?_
  exact jq
 refine aq_then ?_
 refine aw_cond rfl (fun hc3 => ?_) (fun hc3 => ?_)
 ·replace h := ite_t hc3 h
  refine aw_rs ?_
  refine .a rfl ?_
  refine .a rfl ?_
  refine .nil (aq_then ?_)
  refine aw_ret ?_
  refine aq_block_ret ?_
  refine aq_then_ret ?_
  obtain rfl := Option.some.inj h
  refine aq_freeze [] [(4, .d (eL139 ([]))), (5, .d (.val (.int .i64 (2 : Int))))] .nil (.cons rfl .nil (.keep rfl .nil)) ?_
  exact aq_finp hb0 rfl (.tmp rfl (by rfl) (.tmp rfl (by rfl) .nil)) (by rfl) rfl ⟨rfl, rfl⟩
 replace h := ite_f hc3 h
 refine aw_seq ?_
 obtain ⟨o6, ho16, h⟩ := bind_some h
 refine aw_join (.normal) ⟨[(0, .d (.val (.int .u64 a0))), (1, .d (.val (.int .i64 a1))), (15, .d (.val (.bool o6)))], [], []⟩ ?_ ?_
 ·replace h := ho16
  refine aw_r ?_
  refine .m rfl ?_
  refine .b rfl rfl rfl ?_
  refine .m rfl ?_
  rcases Bool.eq_false_or_eq_true (decide (a1 < (8 : Int))) with hc4 | hc4
  ·replace h := ite_t hc4 h
   refine .gv (f_move (by rfl)) rfl rfl rfl hc4 (.c rfl .nil) .nil ?_
   refine .gv (f_move (by rfl)) rfl rfl rfl hc4 (.c rfl .nil) .nil ?_
   refine .gv (f_binI (by rfl) rfl (by rfl)) rfl rfl rfl hc4 (.c rfl (.c rfl .nil)) .nil ?_
   obtain ⟨hz5, h⟩ := ifp h
   refine .gv (f_shift (by rfl) (shr_ok hz5) (by rfl)) rfl rfl rfl hc4 (.c rfl (.c rfl .nil)) .nil ?_
   refine .gv (f_binI (by rfl) rfl (by rfl)) rfl rfl rfl hc4 (.c rfl (.c rfl .nil)) .nil ?_
   refine .v (f_pick_true (by rfl) hc4) rfl (.c rfl (.c rfl .nil)) .nil ?_
   refine .a rfl ?_
   refine .nil ?_
   obtain rfl := Option.some.inj h
   refine aq_weak (s' := ⟨[(0, .d (.val (.int .u64 a0))), (1, .d (.val (.int .i64 a1))), (15, .d (.val (.bool (decide ((shr .u64 a0 (IntKind.i64.wrap ((8 : Int) * a1))) > (0 : Int))))))], [], []⟩) id hb0 (.keep rfl (.keep rfl (.keep rfl .nil))) .nil rfl (by rfl) ?_
   exact jq
  replace h := ite_f hc4 h
  refine .off rfl rfl rfl hc4 rfl (by rfl) ?_
  refine .off rfl rfl rfl hc4 rfl (by rfl) ?_
  refine .off rfl rfl rfl hc4 rfl (by rfl) ?_
  refine .off rfl rfl rfl hc4 rfl (by rfl) ?_
  refine .off rfl rfl rfl hc4 rfl (by rfl) ?_
  refine .v (f_pick_false (by rfl) hc4) rfl (.c rfl (.c rfl .nil)) .nil ?_
  refine .a rfl ?_
  refine .nil ?_
  obtain rfl := Option.some.inj h
  refine aq_weak (s' := ⟨[(0, .d (.val (.int .u64 a0))), (1, .d (.val (.int .i64 a1))), (15, .d (.val (.bool false)))], [], []⟩) id hb0 (.keep rfl (.keep rfl (.keep rfl .nil))) .nil rfl (by rfl) ?_
  exact jq
 refine aq_then ?_
 refine aw_cond rfl (fun hc7 => ?_) (fun hc7 => ?_)
 ·replace h := ite_t hc7 h
  refine aw_rs ?_
  refine .a rfl ?_
  refine .a rfl ?_
  refine .nil (aq_then ?_)
  refine aw_ret ?_
  refine aq_block_ret ?_
  refine aq_then_ret ?_
  obtain rfl := Option.some.inj h
  refine aq_freeze [] [(4, .d (eL139 ([]))), (5, .d (.val (.int .i64 (4 : Int))))] .nil (.cons rfl .nil (.keep rfl .nil)) ?_
  exact aq_finp hb0 rfl (.tmp rfl (by rfl) (.tmp rfl (by rfl) .nil)) (by rfl) rfl ⟨rfl, rfl⟩
 replace h := ite_f hc7 h
 refine aw_skip ?_
 refine aq_block ?_
 refine aq_then ?_
 refine aw_rs ?_
 refine .m rfl ?_
 obtain ⟨hb8, h⟩ := ifp h
 refine .n (f_makeSE (n := a1) (m := ((List.replicate (a1).toNat (0 : Int))).length) (z := (.val (.int .u8 (0 : Int)))) (zs := ((List.replicate (a1).toNat (0 : Int))).map eI_u8) 1002 (by rfl) el139 zel139 (by rfl) hb8.1 (by omega) (by omega) (by simp) (by simp)) rfl (.c rfl .nil) rfl ?_
 refine .a rfl ?_
 refine .nil (aq_then ?_)
 refine aw_seq ?_
 refine aw_rs ?_
 refine .m rfl ?_
 refine .m rfl ?_
 refine .nil (aq_then ?_)
 refine aw_block ?_
 refine aw_weak (s' := ⟨[(0, .d (.val (.int .u64 a0))), (1, .d (.val (.int .i64 a1))), (6, .slc 1002 0 (((List.replicate (a1).toNat (0 : Int))).length) 1), (27, .d (.val (.int .i64 a1))), (28, .d (.val (.int .i64 (0 : Int))))], [(1002, .av (.d (.arr 1 (((List.replicate (a1).toNat (0 : Int))).length) (((List.replicate (a1).toNat (0 : Int))).map eI_u8))))], []⟩) id hb0 (.keep rfl (.keep rfl (.keep rfl (.keep rfl (.keep rfl .nil))))) (.keep rfl .nil) rfl (by rfl) ?_
 obtain ⟨o14, ho15, h⟩ := bind_some h
 refine aw_loopX (σ := Int × List Int) (fun z => ⟨[(0, .d (.val (.int .u64 a0))), (1, .d (.val (.int .i64 a1))), (6, .slc 1002 0 ((z.2).length) 1), (27, .d (.val (.int .i64 a1))), (28, .d (.val (.int .i64 z.1)))], [(1002, .av (.d (.arr 1 ((z.2).length) ((z.2).map eI_u8))))], []⟩) (fun _ => (.exit 1)) (fun (o14 : List Int) => ⟨[(6, .slc 1002 0 ((o14).length) 1)], [(1002, .av (.d (.arr 1 ((o14).length) ((o14).map eI_u8))))], []⟩) ho15 (fun _ => rfl) ?_ ?_
 ·clear h ho15
  rintro ⟨z0_0, z0_1⟩ o h
  change F143_num_Put_s0 a0 a1 z0_0 z0_1 = some o at h
  unfold F143_num_Put_s0 at h
  show AW _ _ _ ⟨[(0, .d (.val (.int .u64 a0))), (1, .d (.val (.int .i64 a1))), (6, .slc 1002 0 ((z0_1).length) 1), (27, .d (.val (.int .i64 a1))), (28, .d (.val (.int .i64 z0_0)))], [(1002, .av (.d (.arr 1 ((z0_1).length) ((z0_1).map eI_u8))))], []⟩
  refine aw_rs ?_
  refine .b rfl rfl rfl ?_
  refine .nil (aq_then ?_)
  refine aw_seq ?_
  refine aw_cond rfl (fun hc9 => ?_) (fun hc9 => ?_)
  ·replace h := ite_t hc9 h
   refine aw_skip ?_
   refine aq_then ?_
   refine aw_seq ?_
   refine aw_block ?_
   refine aw_rs ?_
   refine .m rfl ?_
   refine .a rfl ?_
   refine .nil (aq_then ?_)
   refine aw_r ?_
   refine .m rfl ?_
   refine .m rfl ?_
   refine .b rfl rfl rfl ?_
   refine .m rfl ?_
   refine .b rfl rfl rfl ?_
   refine .m rfl ?_
   refine .m rfl ?_
   refine .b rfl rfl rfl ?_
   obtain ⟨hz10, h⟩ := ifp h
   refine .v (f_shift (by rfl) (shr_ok hz10) (by rfl)) rfl (.c rfl (.c rfl .nil)) .nil ?_
   refine .v (f_convI (by rfl) un27 un5) rfl (.c rfl .nil) .nil ?_
   obtain ⟨x11, hx12, h⟩ := bind_some h
   obtain ⟨hx13, hx12⟩ := rd_some hx12
   refine .v (f_indexSW (by rfl) sl139 hx13 (rd_map _ hx12)) rfl (.c rfl (.c rfl .nil)) (.cons rfl .nil) ?_
   refine .s (f_store (n := 0) (o := 1002) (off := ((0 + ((IntKind.i64.wrap ((IntKind.i64.wrap (a1 - (1 : Int))) - z0_0))).toNat) * 1)) (p := [0 + ((IntKind.i64.wrap ((IntKind.i64.wrap (a1 - (1 : Int))) - z0_0))).toNat]) (c := .d (.arr 1 ((z0_1).length) ((z0_1).map eI_u8))) (old := .d (.val (.int .u8 x11))) (z := .d (.val (.int .u8 (IntKind.u8.wrap (shr .u64 a0 (IntKind.i64.wrap ((8 : Int) * z0_0))))))) (c' := .d (.arr 1 ((z0_1).length) (((z0_1.set (0 + ((IntKind.i64.wrap ((IntKind.i64.wrap (a1 - (1 : Int))) - z0_0))).toNat) (IntKind.u8.wrap (shr .u64 a0 (IntKind.i64.wrap ((8 : Int) * z0_0)))))).map eI_u8))) (at_map _ (by simpa using hx12) rfl) (put_map _ (by simpa using hx12)) (by rfl) ty5 (by rfl)) rfl (.c rfl (.c rfl .nil)) (.cons rfl .nil) ?_
   refine .nil ?_
   refine aq_block ?_
   refine aq_then ?_
   refine aw_r ?_
   refine .b rfl rfl rfl ?_
   refine .m rfl ?_
   refine .nil ?_
   obtain rfl := Option.some.inj h
   refine aq_weak (s' := ⟨[(0, .d (.val (.int .u64 a0))), (1, .d (.val (.int .i64 a1))), (6, .slc 1002 0 (((z0_1.set (0 + ((IntKind.i64.wrap ((IntKind.i64.wrap (a1 - (1 : Int))) - z0_0))).toNat) (IntKind.u8.wrap (shr .u64 a0 (IntKind.i64.wrap ((8 : Int) * z0_0)))))).length) 1), (27, .d (.val (.int .i64 a1))), (28, .d (.val (.int .i64 (IntKind.i64.wrap (z0_0 + (1 : Int))))))], [(1002, .av (.d (.arr 1 (((z0_1.set (0 + ((IntKind.i64.wrap ((IntKind.i64.wrap (a1 - (1 : Int))) - z0_0))).toNat) (IntKind.u8.wrap (shr .u64 a0 (IntKind.i64.wrap ((8 : Int) * z0_0)))))).length) (((z0_1.set (0 + ((IntKind.i64.wrap ((IntKind.i64.wrap (a1 - (1 : Int))) - z0_0))).toNat) (IntKind.u8.wrap (shr .u64 a0 (IntKind.i64.wrap ((8 : Int) * z0_0)))))).map eI_u8))))], []⟩) id hb0 (.keep rfl (.keep rfl (.keep (by simp only [List.length_set]; rfl) (.keep rfl (.keep rfl .nil))))) (.keep (by simp only [List.length_set]; rfl) .nil) rfl (by rfl) ?_
   exact jq
  replace h := ite_f hc9 h
  refine aw_exit ?_
  refine aq_then_exit ?_
  obtain rfl := Option.some.inj h
  refine aq_weak (s' := ⟨[(6, .slc 1002 0 ((z0_1).length) 1)], [(1002, .av (.d (.arr 1 ((z0_1).length) ((z0_1).map eI_u8))))], []⟩) id hb0 (.keep rfl .nil) (.keep rfl .nil) rfl (by rfl) ?_
  exact jq
 refine aq_block_exit ?_
 refine aq_then ?_
 refine aw_rs ?_
 refine .m rfl ?_
 refine .a rfl ?_
 refine .a rfl ?_
 refine .nil (aq_then ?_)
 refine aw_ret ?_
 obtain rfl := Option.some.inj h
 refine aq_freeze [(1002, (.arr 1 ((o14).length) ((o14).map eI_u8)))] [(4, .d (eL139 o14)), (5, .d (.val (.int .i64 (0 : Int))))] (.cons rfl .nil) (.cons rfl (.whole (.head _)) (.keep rfl .nil)) ?_
 exact aq_finp hb0 rfl (.tmp rfl (by rfl) (.tmp rfl (by rfl) .nil)) (by rfl) rfl ⟨rfl, rfl⟩

/- 142: beadroll/tx.Body$2 -/
def F142_tx_Body_2 (n : Nat) (a0 : Int) : Option ((List Int)) :=
  ((F143_num_Put n a0 (8 : Int)).bind fun (y1 : (List Int) × Int) => some y1.1)
theorem F142_tx_Body_2_ok {n : Nat} {a0 : Int} {r : (List Int)} (h : F142_tx_Body_2 n a0 = some r) :
    ACall Tryd.prog GS 142 [.d (.val (.int .u64 a0))] [] (fun r' hp' => r' = .d (eL139 r) ∧ hp' = []) := by
 refine acall_of_body mixed Tryd.func142 rfl (by rfl) ?_
 intro C hro hgl hb0
 unfold F142_tx_Body_2 at h
 refine aw_rs ?_
 refine .a rfl ?_
 refine .z ?_
 refine .m rfl ?_
 obtain ⟨y1, hy2, h⟩ := bind_some h
 refine .v (f_callP hgl (by rfl) en143 rfl (by rfl) (by rfl) (by rfl) (F143_num_Put_ok hy2)) rfl (.c rfl (.c rfl .nil)) .nil ?_
 refine .m rfl ?_
 refine .v (f_extract (by rfl) rfl) rfl (.c rfl .nil) .nil ?_
 refine .v (f_extract (by rfl) rfl) rfl (.c rfl .nil) .nil ?_
 refine .a rfl ?_
 refine .a rfl ?_
 refine .z ?_
 refine .m rfl ?_
 refine .a rfl ?_
 refine .nil (aq_then ?_)
 refine aw_ret ?_
 obtain rfl := Option.some.inj h
 exact aq_finp hb0 rfl (.tmp rfl (by rfl) .nil) (by rfl) rfl ⟨rfl, rfl⟩

/- 140: beadroll/tx.Body$1 -/
def F140_tx_Body_1 (n : Nat) (a0 : (List Int)) : Option ((List Int)) :=
  some a0
theorem F140_tx_Body_1_ok {n : Nat} {a0 : (List Int)} {r : (List Int)} (h : F140_tx_Body_1 n a0 = some r) :
    ACall Tryd.prog GS 140 [.d (eA22 a0)] [] (fun r' hp' => r' = .d (eL139 r) ∧ hp' = []) := by
 refine acall_of_body mixed Tryd.func140 rfl (by rfl) ?_
 intro C hro hgl hb0
 unfold F140_tx_Body_1 at h
 refine aw_rs ?_
 refine .n (f_box 1 (by rfl) (by rfl)) rfl (.c rfl .nil) rfl ?_
 refine .a rfl ?_
 refine .z ?_
 refine .v (f_sliceA (by rfl) ar23) rfl (.c rfl .nil) (.cons rfl .nil) ?_
 refine .a rfl ?_
 refine .nil (aq_then ?_)
 refine aw_ret ?_
 obtain rfl := Option.some.inj h
 refine aq_freeze [(1, (eA22 a0))] [(2, .d (eL139 a0))] (.cons rfl .nil) (.cons rfl (.whole (.head _)) .nil) ?_
 exact aq_finp hb0 rfl (.tmp rfl (by rfl) .nil) (by rfl) rfl ⟨rfl, rfl⟩

/- 138: beadroll/tag.Bytes -/
def F138_tag_Bytes_s0 (n : Nat) (a1 : (List (List Int))) (z0_0 : Int) (z0_1 : List Int) : Option ((Int × List Int) ⊕ (List Int)) :=
  (if (decide (z0_0 < ((a1).length : Int))) = true then ((rd a1 z0_0).bind fun (x2 : (List Int)) => ((F143_num_Put n (IntKind.u64.wrap (IntKind.u32.wrap ((x2).length : Int))) (4 : Int)).bind fun (y5 : (List Int) × Int) => (if ((z0_1 ++ y5.1)).length ≤ 1073741824 then (if (((z0_1 ++ y5.1) ++ x2)).length ≤ 1073741824 then some (.inl ((IntKind.i64.wrap (z0_0 + (1 : Int))), ((z0_1 ++ y5.1) ++ x2))) else none) else none))) else some (.inr z0_1))
def F138_tag_Bytes (n : Nat) (a0 : Int) (a1 : (List (List Int))) : Option ((List Int)) :=
  ((loopF (fun (z : Int × List Int) => F138_tag_Bytes_s0 n a1 z.1 z.2) n ((0 : Int), ([a0] : List Int))).bind fun (o9 : List Int) => some o9)
theorem F138_tag_Bytes_ok {n : Nat} {a0 : Int} {a1 : (List (List Int))} {r : (List Int)} (h : F138_tag_Bytes n a0 a1 = some r) :
    ACall Tryd.prog GS 138 [.d (.val (.int .u8 a0)), .d (eL180 a1)] [] (fun r' hp' => r' = .d (eL139 r) ∧ hp' = []) := by
 refine acall_of_body mixed Tryd.func138 rfl (by rfl) ?_
 intro C hro hgl hb0
 unfold F138_tag_Bytes at h
 refine aw_rs ?_
 refine .a rfl ?_
 refine .z ?_
 refine .m rfl ?_
 refine .n (f_buildS (xs := [(0, .d (.val (.int .u8 a0)))]) (z := (.val (.int .u8 (0 : Int)))) (zs := (([a0] : List Int)).map eI_u8) 1003 (by rfl) el139 zel139 (by rfl) (by decide) (by decide) rfl (by rfl) ⟨_, _, _, rfl, pl139_0, rfl, rfl, trivial⟩ (by rfl)) rfl (.c rfl .nil) rfl ?_
 refine .a rfl ?_
 refine .nil (aq_then ?_)
 refine aw_seq ?_
 refine aw_rs ?_
 refine .m rfl ?_
 refine .v (f_lenD (n := (a1).length) (by rfl) sl180 rfl (by simp)) rfl (.c rfl .nil) .nil ?_
 refine .m rfl ?_
 refine .nil (aq_then ?_)
 refine aw_block ?_
 refine aw_weak (s' := ⟨[(5, .slc 1003 0 ((([a0] : List Int)).length) 1), (12, .d (eL180 a1)), (13, .d (.val (.int .i64 ((a1).length : Int)))), (14, .d (.val (.int .i64 (0 : Int))))], [(1003, .av (.d (.arr 1 ((([a0] : List Int)).length) ((([a0] : List Int)).map eI_u8))))], []⟩) id hb0 (.keep rfl (.keep rfl (.keep rfl (.keep rfl .nil)))) (.keep rfl .nil) rfl (by rfl) ?_
 obtain ⟨o9, ho10, h⟩ := bind_some h
 refine aw_loopX (σ := Int × List Int) (fun z => ⟨[(5, .slc 1003 0 ((z.2).length) 1), (12, .d (eL180 a1)), (13, .d (.val (.int .i64 ((a1).length : Int)))), (14, .d (.val (.int .i64 z.1)))], [(1003, .av (.d (.arr 1 ((z.2).length) ((z.2).map eI_u8))))], []⟩) (fun _ => (.exit 0)) (fun (o9 : List Int) => ⟨[(5, .slc 1003 0 ((o9).length) 1)], [(1003, .av (.d (.arr 1 ((o9).length) ((o9).map eI_u8))))], []⟩) ho10 (fun _ => rfl) ?_ ?_
 ·clear h ho10
  rintro ⟨z0_0, z0_1⟩ o h
  change F138_tag_Bytes_s0 n a1 z0_0 z0_1 = some o at h
  unfold F138_tag_Bytes_s0 at h
  show AW _ _ _ ⟨[(5, .slc 1003 0 ((z0_1).length) 1), (12, .d (eL180 a1)), (13, .d (.val (.int .i64 ((a1).length : Int)))), (14, .d (.val (.int .i64 z0_0)))], [(1003, .av (.d (.arr 1 ((z0_1).length) ((z0_1).map eI_u8))))], []⟩
  refine aw_rs ?_
  refine .b rfl rfl rfl ?_
  refine .nil (aq_then ?_)
  refine aw_seq ?_
  refine aw_cond rfl (fun hc1 => ?_) (fun hc1 => ?_)
  ·replace h := ite_t hc1 h
   refine aw_skip ?_
   refine aq_then ?_
   refine aw_seq ?_
   refine aw_block ?_
   refine aw_rs ?_
   obtain ⟨x2, hx3, h⟩ := bind_some h
   obtain ⟨hx4, hx3⟩ := rd_some hx3
   refine .v (f_indexS (by rfl) sl180 hx4 (rd_map _ hx3)) rfl (.c rfl (.c rfl .nil)) .nil ?_
   refine .v (f_loadR (z := (eL139 x2)) (by rfl) ty139) rfl (.c rfl .nil) .nil ?_
   refine .a rfl ?_
   refine .z ?_
   refine .m rfl ?_
   refine .v (f_lenD (n := (x2).length) (by rfl) sl139 rfl (by simp)) rfl (.c rfl .nil) .nil ?_
   refine .v (f_convI (by rfl) un3 un208) rfl (.c rfl .nil) .nil ?_
   refine .v (f_convI (by rfl) un208 un27) rfl (.c rfl .nil) .nil ?_
   obtain ⟨y5, hy6, h⟩ := bind_some h
   refine .v (f_callP hgl (by rfl) en143 rfl (by rfl) (by rfl) (by rfl) (F143_num_Put_ok hy6)) rfl (.c rfl (.c rfl .nil)) .nil ?_
   refine .m rfl ?_
   refine .v (f_extract (by rfl) rfl) rfl (.c rfl .nil) .nil ?_
   refine .v (f_extract (by rfl) rfl) rfl (.c rfl .nil) .nil ?_
   refine .a rfl ?_
   refine .a rfl ?_
   refine .nil (aq_then ?_)
   refine aw_r ?_
   refine .m rfl ?_
   refine .m rfl ?_
   obtain ⟨hb7, h⟩ := ifp h
   refine .w (f_appendC (m := ((z0_1 ++ y5.1)).length) (ys := (y5.1 : List Int).map eI_u8) (xs := (z0_1).map eI_u8) (zs := ((z0_1 ++ y5.1)).map eI_u8) 1006 (by rfl) el139 (by simp) (by simp) (by simp [List.map_drop]) (by simp) (Nat.le_trans (Nat.mul_le_mul_right _ hb7) (by decide)) (Nat.le_trans hb7 (by decide)) srcD) rfl (.c rfl (.c rfl .nil)) (.cons rfl .nil) (.cons rfl .nil) ?_
   refine .m rfl ?_
   obtain ⟨hb8, h⟩ := ifp h
   refine .w (f_appendC (m := (((z0_1 ++ y5.1) ++ x2)).length) (ys := (x2 : List Int).map eI_u8) (xs := ((z0_1 ++ y5.1)).map eI_u8) (zs := (((z0_1 ++ y5.1) ++ x2)).map eI_u8) 1007 (by rfl) el139 (by simp) (by simp) (by simp [List.map_drop]) (by simp) (Nat.le_trans (Nat.mul_le_mul_right _ hb8) (by decide)) (Nat.le_trans hb8 (by decide)) srcD) rfl (.c rfl (.c rfl .nil)) (.cons rfl .nil) (.cons rfl .nil) ?_
   refine .a rfl ?_
   refine .nil ?_
   refine aq_block ?_
   refine aq_then ?_
   refine aw_r ?_
   refine .b rfl rfl rfl ?_
   refine .m rfl ?_
   refine .nil ?_
   obtain rfl := Option.some.inj h
   refine aq_weak (s' := ⟨[(5, .slc 1003 0 ((((z0_1 ++ y5.1) ++ x2)).length) 1), (12, .d (eL180 a1)), (13, .d (.val (.int .i64 ((a1).length : Int)))), (14, .d (.val (.int .i64 (IntKind.i64.wrap (z0_0 + (1 : Int))))))], [(1003, .av (.d (.arr 1 ((((z0_1 ++ y5.1) ++ x2)).length) ((((z0_1 ++ y5.1) ++ x2)).map eI_u8))))], []⟩) (fun i => (bif Nat.beq i 1003 then 1007 else i)) hb0 (.cons rfl (.cons rfl (.cons rfl (.cons rfl .nil)))) (.cons rfl .nil) rfl (by rfl) ?_
   exact jq
  replace h := ite_f hc1 h
  refine aw_exit ?_
  refine aq_then_exit ?_
  obtain rfl := Option.some.inj h
  refine aq_weak (s' := ⟨[(5, .slc 1003 0 ((z0_1).length) 1)], [(1003, .av (.d (.arr 1 ((z0_1).length) ((z0_1).map eI_u8))))], []⟩) id hb0 (.keep rfl .nil) (.keep rfl .nil) rfl (by rfl) ?_
  exact jq
 refine aq_block_exit ?_
 refine aq_then ?_
 refine aw_rs ?_
 refine .m rfl ?_
 refine .a rfl ?_
 refine .nil (aq_then ?_)
 refine aw_ret ?_
 obtain rfl := Option.some.inj h
 refine aq_freeze [(1003, (.arr 1 ((o9).length) ((o9).map eI_u8)))] [(4, .d (eL139 o9))] (.cons rfl .nil) (.cons rfl (.whole (.head _)) .nil) ?_
 exact aq_finp hb0 rfl (.tmp rfl (by rfl) .nil) (by rfl) rfl ⟨rfl, rfl⟩

/- 160: (*beadroll/sha.state).block -/
def F160_sha_state_block_f5d_s0 (n : Nat) (a0 : (List Int)) (z0_0 : Int) (z0_1 : (List Int)) : Option ((Int × (List Int)) ⊕ ((List Int))) :=
  (if (decide (z0_0 < (64 : Int))) = true then (((if (decide (z0_0 < (16 : Int))) = true then ((rd a0 (IntKind.i64.wrap ((4 : Int) * z0_0))).bind fun (x3 : Int) => ((rd a0 (IntKind.i64.wrap ((IntKind.i64.wrap ((4 : Int) * z0_0)) + (1 : Int)))).bind fun (x6 : Int) => ((rd a0 (IntKind.i64.wrap ((IntKind.i64.wrap ((4 : Int) * z0_0)) + (2 : Int)))).bind fun (x9 : Int) => ((rd a0 (IntKind.i64.wrap ((IntKind.i64.wrap ((4 : Int) * z0_0)) + (3 : Int)))).bind fun (x12 : Int) => ((rd z0_1 z0_0).bind fun (x15 : Int) => some (z0_1.set (z0_0).toNat (bOr .u32 (bOr .u32 (bOr .u32 (shl .u32 (IntKind.u32.wrap x3) (24 : Int)) (shl .u32 (IntKind.u32.wrap x6) (16 : Int))) (shl .u32 (IntKind.u32.wrap x9) (8 : Int))) (IntKind.u32.wrap x12)))))))) else ((rd z0_1 (IntKind.i64.wrap (z0_0 - (15 : Int)))).bind fun (x18 : Int) => ((rd z0_1 (IntKind.i64.wrap (z0_0 - (2 : Int)))).bind fun (x21 : Int) => ((rd z0_1 (IntKind.i64.wrap (z0_0 - (16 : Int)))).bind fun (x24 : Int) => ((F170_sha_turned n x18 (7 : Int)).bind fun (y27 : Int) => ((F170_sha_turned n x18 (18 : Int)).bind fun (y29 : Int) => ((rd z0_1 (IntKind.i64.wrap (z0_0 - (7 : Int)))).bind fun (x31 : Int) => ((F170_sha_turned n x21 (17 : Int)).bind fun (y34 : Int) => ((F170_sha_turned n x21 (19 : Int)).bind fun (y36 : Int) => ((rd z0_1 z0_0).bind fun (x38 : Int) => some (z0_1.set (z0_0).toNat (IntKind.u32.wrap ((IntKind.u32.wrap ((IntKind.u32.wrap (x24 + (bXor .u32 (bXor .u32 y27 y29) (shr .u32 x18 (3 : Int))))) + x31)) + (bXor .u32 (bXor .u32 y34 y36) (shr .u32 x21 (10 : Int))))))))))))))))).bind fun (o41 : (List Int)) => some (.inl ((IntKind.i64.wrap (z0_0 + (1 : Int))), o41))) else some (.inr z0_1))
def F160_sha_state_block_f5d_s1 (n : Nat) (o43 : (List Int)) (z1_0 : Int) (z1_1 : (List Int)) : Option ((Int × (List Int)) ⊕ ((List Int))) :=
  (if (decide (z1_0 < (64 : Int))) = true then ((rd z1_1 (0 : Int)).bind fun (x46 : Int) => ((rd z1_1 (1 : Int)).bind fun (x49 : Int) => ((rd z1_1 (2 : Int)).bind fun (x52 : Int) => ((rd z1_1 (4 : Int)).bind fun (x55 : Int) => ((rd z1_1 (5 : Int)).bind fun (x58 : Int) => ((rd z1_1 (6 : Int)).bind fun (x61 : Int) => ((rd z1_1 (7 : Int)).bind fun (x64 : Int) => ((F170_sha_turned n x55 (6 : Int)).bind fun (y67 : Int) => ((F170_sha_turned n x55 (11 : Int)).bind fun (y69 : Int) => ((F170_sha_turned n x55 (25 : Int)).bind fun (y71 : Int) => ((rd shaK z1_0).bind fun (x73 : Int) => ((rd o43 z1_0).bind fun (x76 : Int) => ((F170_sha_turned n x46 (2 : Int)).bind fun (y79 : Int) => ((F170_sha_turned n x46 (13 : Int)).bind fun (y81 : Int) => ((F170_sha_turned n x46 (22 : Int)).bind fun (y83 : Int) => ((rd z1_1 (3 : Int)).bind fun (x85 : Int) => some (.inl ((IntKind.i64.wrap (z1_0 + (1 : Int))), ([(IntKind.u32.wrap ((IntKind.u32.wrap ((IntKind.u32.wrap ((IntKind.u32.wrap ((IntKind.u32.wrap (x64 + (bXor .u32 (bXor .u32 y67 y69) y71))) + (bXor .u32 (bAnd .u32 x55 x58) (bAnd .u32 (bCom .u32 x55) x61)))) + x73)) + x76)) + (IntKind.u32.wrap ((bXor .u32 (bXor .u32 y79 y81) y83) + (bXor .u32 (bXor .u32 (bAnd .u32 x46 x49) (bAnd .u32 x46 x52)) (bAnd .u32 x49 x52)))))), x46, x49, x52, (IntKind.u32.wrap (x85 + (IntKind.u32.wrap ((IntKind.u32.wrap ((IntKind.u32.wrap ((IntKind.u32.wrap (x64 + (bXor .u32 (bXor .u32 y67 y69) y71))) + (bXor .u32 (bAnd .u32 x55 x58) (bAnd .u32 (bCom .u32 x55) x61)))) + x73)) + x76)))), x55, x58, x61] : List Int))))))))))))))))))) else some (.inr z1_1))
def F160_sha_state_block_f5d_s2 (o88 : (List Int)) (z2_0 : Int) (z2_1 : (List Int)) : Option ((Int × (List Int)) ⊕ ((List Int))) :=
  (if (decide (z2_0 < (8 : Int))) = true then ((rd z2_1 z2_0).bind fun (x91 : Int) => ((rd o88 z2_0).bind fun (x94 : Int) => ((rd z2_1 z2_0).bind fun (x97 : Int) => some (.inl ((IntKind.i64.wrap (z2_0 + (1 : Int))), (z2_1.set (z2_0).toNat (IntKind.u32.wrap (x91 + x94)))))))) else some (.inr z2_1))
def F160_sha_state_block_f5d (n : Nat) (a0 : (List Int)) (a1 : (List Int)) : Option ((List Int)) :=
  ((loopF (fun (z : Int × (List Int)) => F160_sha_state_block_f5d_s0 n a0 z.1 z.2) n ((0 : Int), (List.replicate 64 (0 : Int)))).bind fun (o43 : (List Int)) => ((loopF (fun (z : Int × (List Int)) => F160_sha_state_block_f5d_s1 n o43 z.1 z.2) n ((0 : Int), a1)).bind fun (o88 : (List Int)) => ((loopF (fun (z : Int × (List Int)) => F160_sha_state_block_f5d_s2 o88 z.1 z.2) n ((0 : Int), a1)).bind fun (o100 : (List Int)) => some o100)))
theorem F160_sha_state_block_f5d_ok {n : Nat} {a0 : (List Int)} {a1 : (List Int)} {r : (List Int)} (h : F160_sha_state_block_f5d n a0 a1 = some r) :
    ACall Tryd.prog GS 160 [.ptr 0 0 [], .d (eL139 a0)] [(0, .av (.d (eA209 a1)))] (fun r' hp' => r' = .res [] ∧ hp' = [(0, .av (.d (eA209 r)))]) := by
 refine acall_of_body mixed Tryd.func160 rfl (by rfl) ?_
 intro C hro hgl hb0
 unfold F160_sha_state_block_f5d at h
 refine aw_rs ?_
 refine .n (f_alloc 4 (by rfl) zr223) rfl .nil rfl ?_
 refine .nil (aq_then ?_)
 refine aw_seq ?_
 refine aw_rs ?_
 refine .m rfl ?_
 refine .nil (aq_then ?_)
 refine aw_block ?_
 refine aw_weak (s' := ⟨[(0, .ptr 0 0 []), (1, .d (eL139 a0)), (4, .ptr 4 0 []), (19, .d (.val (.int .i64 (0 : Int))))], [(0, .av (.d (eA209 a1))), (4, .av (.d (eA223 (List.replicate 64 (0 : Int)))))], []⟩) id hb0 (.keep rfl (.keep rfl (.keep rfl (.keep rfl .nil)))) (.keep rfl (.keep rfl .nil)) rfl (by rfl) ?_
 obtain ⟨o43, ho44, h⟩ := bind_some h
 refine aw_loopX (σ := Int × (List Int)) (fun z => ⟨[(0, .ptr 0 0 []), (1, .d (eL139 a0)), (4, .ptr 4 0 []), (19, .d (.val (.int .i64 z.1)))], [(0, .av (.d (eA209 a1))), (4, .av (.d (eA223 z.2)))], []⟩) (fun _ => (.exit 0)) (fun (o43 : (List Int)) => ⟨[(0, .ptr 0 0 []), (4, .ptr 4 0 [])], [(0, .av (.d (eA209 a1))), (4, .av (.d (eA223 o43)))], []⟩) ho44 (fun _ => rfl) ?_ ?_
 ·clear h ho44
  rintro ⟨z0_0, z0_1⟩ o h
  change F160_sha_state_block_f5d_s0 n a0 z0_0 z0_1 = some o at h
  unfold F160_sha_state_block_f5d_s0 at h
  show AW _ _ _ ⟨[(0, .ptr 0 0 []), (1, .d (eL139 a0)), (4, .ptr 4 0 []), (19, .d (.val (.int .i64 z0_0)))], [(0, .av (.d (eA209 a1))), (4, .av (.d (eA223 z0_1)))], []⟩
  refine aw_rs ?_
  refine .b rfl rfl rfl ?_
  refine .nil (aq_then ?_)
  refine aw_seq ?_
  refine aw_cond rfl (fun hc1 => ?_) (fun hc1 => ?_)
  ·replace h := ite_t hc1 h
   refine aw_skip ?_
   refine aq_then ?_
   refine aw_seq ?_
   obtain ⟨o41, ho42, h⟩ := bind_some h
   refine aw_join (.normal) ⟨[(0, .ptr 0 0 []), (1, .d (eL139 a0)), (4, .ptr 4 0 []), (19, .d (.val (.int .i64 z0_0)))], [(0, .av (.d (eA209 a1))), (4, .av (.d (eA223 o41)))], []⟩ ?_ ?_
   ·replace h := ho42
    refine aw_block ?_
    refine aw_rs ?_
    refine .m rfl ?_
    refine .a rfl ?_
    refine .nil (aq_then ?_)
    refine aw_seq ?_
    refine aw_rs ?_
    refine .m rfl ?_
    refine .b rfl rfl rfl ?_
    refine .nil (aq_then ?_)
    refine aw_cond rfl (fun hc2 => ?_) (fun hc2 => ?_)
    ·replace h := ite_t hc2 h
     refine aw_rds ?_
     refine .v (f_move (by rfl)) rfl (.c rfl .nil) .nil ?_
     refine .v (f_move (by rfl)) rfl (.c rfl .nil) .nil ?_
     refine .v (f_move (by rfl)) rfl (.c rfl .nil) .nil ?_
     refine .v (f_binI (by rfl) rfl (by rfl)) rfl (.c rfl (.c rfl .nil)) .nil ?_
     obtain ⟨x3, hx4, h⟩ := bind_some h
     obtain ⟨hx5, hx4⟩ := rd_some hx4
     refine .v (f_indexS (by rfl) sl139 hx5 (rd_map _ hx4)) rfl (.c rfl (.c rfl .nil)) .nil ?_
     refine .v (f_loadR (z := (.val (.int .u8 x3))) (by rfl) ty5) rfl (.c rfl .nil) .nil ?_
     refine .v (f_convI (by rfl) un5 un208) rfl (.c rfl .nil) .nil ?_
     refine .v (f_shift (by rfl) (shl_ok (by decide)) (by rfl)) rfl (.c rfl (.c rfl .nil)) .nil ?_
     refine .v (f_move (by rfl)) rfl (.c rfl .nil) .nil ?_
     refine .v (f_move (by rfl)) rfl (.c rfl .nil) .nil ?_
     refine .v (f_binI (by rfl) rfl (by rfl)) rfl (.c rfl (.c rfl .nil)) .nil ?_
     refine .v (f_binI (by rfl) rfl (by rfl)) rfl (.c rfl (.c rfl .nil)) .nil ?_
     obtain ⟨x6, hx7, h⟩ := bind_some h
     obtain ⟨hx8, hx7⟩ := rd_some hx7
     refine .v (f_indexS (by rfl) sl139 hx8 (rd_map _ hx7)) rfl (.c rfl (.c rfl .nil)) .nil ?_
     refine .v (f_loadR (z := (.val (.int .u8 x6))) (by rfl) ty5) rfl (.c rfl .nil) .nil ?_
     refine .v (f_convI (by rfl) un5 un208) rfl (.c rfl .nil) .nil ?_
     refine .v (f_shift (by rfl) (shl_ok (by decide)) (by rfl)) rfl (.c rfl (.c rfl .nil)) .nil ?_
     refine .v (f_binI (r := .int .u32 (bOr .u32 (shl .u32 (IntKind.u32.wrap x3) (24 : Int)) (shl .u32 (IntKind.u32.wrap x6) (16 : Int)))) (by rfl) rfl (by rfl)) rfl (.c rfl (.c rfl .nil)) .nil ?_
     refine .v (f_move (by rfl)) rfl (.c rfl .nil) .nil ?_
     refine .v (f_move (by rfl)) rfl (.c rfl .nil) .nil ?_
     refine .v (f_binI (by rfl) rfl (by rfl)) rfl (.c rfl (.c rfl .nil)) .nil ?_
     refine .v (f_binI (by rfl) rfl (by rfl)) rfl (.c rfl (.c rfl .nil)) .nil ?_
     obtain ⟨x9, hx10, h⟩ := bind_some h
     obtain ⟨hx11, hx10⟩ := rd_some hx10
     refine .v (f_indexS (by rfl) sl139 hx11 (rd_map _ hx10)) rfl (.c rfl (.c rfl .nil)) .nil ?_
     refine .v (f_loadR (z := (.val (.int .u8 x9))) (by rfl) ty5) rfl (.c rfl .nil) .nil ?_
     refine .v (f_convI (by rfl) un5 un208) rfl (.c rfl .nil) .nil ?_
     refine .v (f_shift (by rfl) (shl_ok (by decide)) (by rfl)) rfl (.c rfl (.c rfl .nil)) .nil ?_
     refine .v (f_binI (r := .int .u32 (bOr .u32 (bOr .u32 (shl .u32 (IntKind.u32.wrap x3) (24 : Int)) (shl .u32 (IntKind.u32.wrap x6) (16 : Int))) (shl .u32 (IntKind.u32.wrap x9) (8 : Int)))) (by rfl) rfl (by rfl)) rfl (.c rfl (.c rfl .nil)) .nil ?_
     refine .v (f_move (by rfl)) rfl (.c rfl .nil) .nil ?_
     refine .v (f_move (by rfl)) rfl (.c rfl .nil) .nil ?_
     refine .v (f_binI (by rfl) rfl (by rfl)) rfl (.c rfl (.c rfl .nil)) .nil ?_
     refine .v (f_binI (by rfl) rfl (by rfl)) rfl (.c rfl (.c rfl .nil)) .nil ?_
     obtain ⟨x12, hx13, h⟩ := bind_some h
     obtain ⟨hx14, hx13⟩ := rd_some hx13
     refine .v (f_indexS (by rfl) sl139 hx14 (rd_map _ hx13)) rfl (.c rfl (.c rfl .nil)) .nil ?_
     refine .v (f_loadR (z := (.val (.int .u8 x12))) (by rfl) ty5) rfl (.c rfl .nil) .nil ?_
     refine .v (f_convI (by rfl) un5 un208) rfl (.c rfl .nil) .nil ?_
     refine .v (f_binI (r := .int .u32 (bOr .u32 (bOr .u32 (bOr .u32 (shl .u32 (IntKind.u32.wrap x3) (24 : Int)) (shl .u32 (IntKind.u32.wrap x6) (16 : Int))) (shl .u32 (IntKind.u32.wrap x9) (8 : Int))) (IntKind.u32.wrap x12))) (by rfl) rfl (by rfl)) rfl (.c rfl (.c rfl .nil)) .nil ?_
     obtain ⟨x15, hx16, h⟩ := bind_some h
     obtain ⟨hx17, hx16⟩ := rd_some hx16
     refine .v (f_indexO (by rfl) ar223 rfl hx17 (rd_map _ hx16)) rfl (.c rfl (.c rfl .nil)) (.cons rfl .nil) ?_
     refine .s (f_store (n := 0) (o := 4) (off := (0 + (z0_0).toNat * 1)) (p := [(z0_0).toNat]) (c := .d (eA223 z0_1)) (old := .d (.val (.int .u32 x15))) (z := .d (.val (.int .u32 (bOr .u32 (bOr .u32 (bOr .u32 (shl .u32 (IntKind.u32.wrap x3) (24 : Int)) (shl .u32 (IntKind.u32.wrap x6) (16 : Int))) (shl .u32 (IntKind.u32.wrap x9) (8 : Int))) (IntKind.u32.wrap x12))))) (c' := .d (eA223 (z0_1.set (z0_0).toNat (bOr .u32 (bOr .u32 (bOr .u32 (shl .u32 (IntKind.u32.wrap x3) (24 : Int)) (shl .u32 (IntKind.u32.wrap x6) (16 : Int))) (shl .u32 (IntKind.u32.wrap x9) (8 : Int))) (IntKind.u32.wrap x12))))) (at_map _ hx16 (by simp)) (put_map _ hx16) (by rfl) ty208 (by rfl)) rfl (.c rfl (.c rfl .nil)) (.cons rfl .nil) ?_
     refine .nil (by kernel_rfl) ?_
     refine aw_exit ?_
     refine aq_then_exit ?_
     refine aq_block_exit ?_
     obtain rfl := Option.some.inj h
     refine aq_weak (s' := ⟨[(0, .ptr 0 0 []), (1, .d (eL139 a0)), (4, .ptr 4 0 []), (19, .d (.val (.int .i64 z0_0)))], [(0, .av (.d (eA209 a1))), (4, .av (.d (eA223 (z0_1.set (z0_0).toNat (bOr .u32 (bOr .u32 (bOr .u32 (shl .u32 (IntKind.u32.wrap x3) (24 : Int)) (shl .u32 (IntKind.u32.wrap x6) (16 : Int))) (shl .u32 (IntKind.u32.wrap x9) (8 : Int))) (IntKind.u32.wrap x12))))))], []⟩) id hb0 (.keep rfl (.keep rfl (.keep rfl (.keep rfl .nil)))) (.keep rfl (.keep rfl .nil)) rfl (by rfl) ?_
     exact jq
    replace h := ite_f hc2 h
    refine aw_skip ?_
    refine aq_then ?_
    refine aw_rds ?_
    refine .v (f_move (by rfl)) rfl (.c rfl .nil) .nil ?_
    refine .v (f_binI (by rfl) rfl (by rfl)) rfl (.c rfl (.c rfl .nil)) .nil ?_
    obtain ⟨x18, hx19, h⟩ := bind_some h
    obtain ⟨hx20, hx19⟩ := rd_some hx19
    refine .v (f_indexO (by rfl) ar223 rfl hx20 (rd_map _ hx19)) rfl (.c rfl (.c rfl .nil)) (.cons rfl .nil) ?_
    refine .v (f_load (n := 0) (o := 4) (off := (0 + ((IntKind.i64.wrap (z0_0 - (15 : Int)))).toNat * 1)) (p := [((IntKind.i64.wrap (z0_0 - (15 : Int)))).toNat]) (c := .d (eA223 z0_1)) (z := .d (.val (.int .u32 x18))) (by rfl) (at_map _ hx19 (by simp)) ty208 (by rfl)) rfl (.c rfl .nil) (.cons rfl .nil) ?_
    refine .v (f_move (by rfl)) rfl (.c rfl .nil) .nil ?_
    refine .v (f_binI (by rfl) rfl (by rfl)) rfl (.c rfl (.c rfl .nil)) .nil ?_
    obtain ⟨x21, hx22, h⟩ := bind_some h
    obtain ⟨hx23, hx22⟩ := rd_some hx22
    refine .v (f_indexO (by rfl) ar223 rfl hx23 (rd_map _ hx22)) rfl (.c rfl (.c rfl .nil)) (.cons rfl .nil) ?_
    refine .v (f_load (n := 0) (o := 4) (off := (0 + ((IntKind.i64.wrap (z0_0 - (2 : Int)))).toNat * 1)) (p := [((IntKind.i64.wrap (z0_0 - (2 : Int)))).toNat]) (c := .d (eA223 z0_1)) (z := .d (.val (.int .u32 x21))) (by rfl) (at_map _ hx22 (by simp)) ty208 (by rfl)) rfl (.c rfl .nil) (.cons rfl .nil) ?_
    refine .v (f_assign (by rfl)) rfl (.c rfl .nil) .nil ?_
    refine .v (f_assign (by rfl)) rfl (.c rfl .nil) .nil ?_
    refine .nil (by kernel_rfl) ?_
    refine aw_rd ?_
    refine .v (f_move (by rfl)) rfl (.c rfl .nil) .nil ?_
    refine .v (f_move (by rfl)) rfl (.c rfl .nil) .nil ?_
    refine .v (f_binI (by rfl) rfl (by rfl)) rfl (.c rfl (.c rfl .nil)) .nil ?_
    obtain ⟨x24, hx25, h⟩ := bind_some h
    obtain ⟨hx26, hx25⟩ := rd_some hx25
    refine .v (f_indexO (by rfl) ar223 rfl hx26 (rd_map _ hx25)) rfl (.c rfl (.c rfl .nil)) (.cons rfl .nil) ?_
    refine .v (f_load (n := 0) (o := 4) (off := (0 + ((IntKind.i64.wrap (z0_0 - (16 : Int)))).toNat * 1)) (p := [((IntKind.i64.wrap (z0_0 - (16 : Int)))).toNat]) (c := .d (eA223 z0_1)) (z := .d (.val (.int .u32 x24))) (by rfl) (at_map _ hx25 (by simp)) ty208 (by rfl)) rfl (.c rfl .nil) (.cons rfl .nil) ?_
    refine .v (f_move (by rfl)) rfl (.c rfl .nil) .nil ?_
    obtain ⟨y27, hy28, h⟩ := bind_some h
    refine .v (f_callP hgl (by rfl) en170 rfl (by rfl) (by rfl) (by rfl) (F170_sha_turned_ok hy28)) rfl (.c rfl (.c rfl .nil)) .nil ?_
    refine .v (f_move (by rfl)) rfl (.c rfl .nil) .nil ?_
    obtain ⟨y29, hy30, h⟩ := bind_some h
    refine .v (f_callP hgl (by rfl) en170 rfl (by rfl) (by rfl) (by rfl) (F170_sha_turned_ok hy30)) rfl (.c rfl (.c rfl .nil)) .nil ?_
    refine .v (f_binI (r := .int .u32 (bXor .u32 y27 y29)) (by rfl) rfl (by rfl)) rfl (.c rfl (.c rfl .nil)) .nil ?_
    refine .v (f_move (by rfl)) rfl (.c rfl .nil) .nil ?_
    refine .v (f_shift (by rfl) (shr_ok (by decide)) (by rfl)) rfl (.c rfl (.c rfl .nil)) .nil ?_
    refine .v (f_binI (r := .int .u32 (bXor .u32 (bXor .u32 y27 y29) (shr .u32 x18 (3 : Int)))) (by rfl) rfl (by rfl)) rfl (.c rfl (.c rfl .nil)) .nil ?_
    refine .v (f_binI (by rfl) rfl (by rfl)) rfl (.c rfl (.c rfl .nil)) .nil ?_
    refine .v (f_move (by rfl)) rfl (.c rfl .nil) .nil ?_
    refine .v (f_binI (by rfl) rfl (by rfl)) rfl (.c rfl (.c rfl .nil)) .nil ?_
    obtain ⟨x31, hx32, h⟩ := bind_some h
    obtain ⟨hx33, hx32⟩ := rd_some hx32
    refine .v (f_indexO (by rfl) ar223 rfl hx33 (rd_map _ hx32)) rfl (.c rfl (.c rfl .nil)) (.cons rfl .nil) ?_
    refine .v (f_load (n := 0) (o := 4) (off := (0 + ((IntKind.i64.wrap (z0_0 - (7 : Int)))).toNat * 1)) (p := [((IntKind.i64.wrap (z0_0 - (7 : Int)))).toNat]) (c := .d (eA223 z0_1)) (z := .d (.val (.int .u32 x31))) (by rfl) (at_map _ hx32 (by simp)) ty208 (by rfl)) rfl (.c rfl .nil) (.cons rfl .nil) ?_
    refine .v (f_binI (by rfl) rfl (by rfl)) rfl (.c rfl (.c rfl .nil)) .nil ?_
    refine .v (f_move (by rfl)) rfl (.c rfl .nil) .nil ?_
    obtain ⟨y34, hy35, h⟩ := bind_some h
    refine .v (f_callP hgl (by rfl) en170 rfl (by rfl) (by rfl) (by rfl) (F170_sha_turned_ok hy35)) rfl (.c rfl (.c rfl .nil)) .nil ?_
    refine .v (f_move (by rfl)) rfl (.c rfl .nil) .nil ?_
    obtain ⟨y36, hy37, h⟩ := bind_some h
    refine .v (f_callP hgl (by rfl) en170 rfl (by rfl) (by rfl) (by rfl) (F170_sha_turned_ok hy37)) rfl (.c rfl (.c rfl .nil)) .nil ?_
    refine .v (f_binI (r := .int .u32 (bXor .u32 y34 y36)) (by rfl) rfl (by rfl)) rfl (.c rfl (.c rfl .nil)) .nil ?_
    refine .v (f_move (by rfl)) rfl (.c rfl .nil) .nil ?_
    refine .v (f_shift (by rfl) (shr_ok (by decide)) (by rfl)) rfl (.c rfl (.c rfl .nil)) .nil ?_
    refine .v (f_binI (r := .int .u32 (bXor .u32 (bXor .u32 y34 y36) (shr .u32 x21 (10 : Int)))) (by rfl) rfl (by rfl)) rfl (.c rfl (.c rfl .nil)) .nil ?_
    refine .v (f_binI (by rfl) rfl (by rfl)) rfl (.c rfl (.c rfl .nil)) .nil ?_
    obtain ⟨x38, hx39, h⟩ := bind_some h
    obtain ⟨hx40, hx39⟩ := rd_some hx39
    refine .v (f_indexO (by rfl) ar223 rfl hx40 (rd_map _ hx39)) rfl (.c rfl (.c rfl .nil)) (.cons rfl .nil) ?_
    refine .s (f_store (n := 0) (o := 4) (off := (0 + (z0_0).toNat * 1)) (p := [(z0_0).toNat]) (c := .d (eA223 z0_1)) (old := .d (.val (.int .u32 x38))) (z := .d (.val (.int .u32 (IntKind.u32.wrap ((IntKind.u32.wrap ((IntKind.u32.wrap (x24 + (bXor .u32 (bXor .u32 y27 y29) (shr .u32 x18 (3 : Int))))) + x31)) + (bXor .u32 (bXor .u32 y34 y36) (shr .u32 x21 (10 : Int)))))))) (c' := .d (eA223 (z0_1.set (z0_0).toNat (IntKind.u32.wrap ((IntKind.u32.wrap ((IntKind.u32.wrap (x24 + (bXor .u32 (bXor .u32 y27 y29) (shr .u32 x18 (3 : Int))))) + x31)) + (bXor .u32 (bXor .u32 y34 y36) (shr .u32 x21 (10 : Int)))))))) (at_map _ hx39 (by simp)) (put_map _ hx39) (by rfl) ty208 (by rfl)) rfl (.c rfl (.c rfl .nil)) (.cons rfl .nil) ?_
    refine .nil (by kernel_rfl) ?_
    refine aq_block ?_
    obtain rfl := Option.some.inj h
    refine aq_weak (s' := ⟨[(0, .ptr 0 0 []), (1, .d (eL139 a0)), (4, .ptr 4 0 []), (19, .d (.val (.int .i64 z0_0)))], [(0, .av (.d (eA209 a1))), (4, .av (.d (eA223 (z0_1.set (z0_0).toNat (IntKind.u32.wrap ((IntKind.u32.wrap ((IntKind.u32.wrap (x24 + (bXor .u32 (bXor .u32 y27 y29) (shr .u32 x18 (3 : Int))))) + x31)) + (bXor .u32 (bXor .u32 y34 y36) (shr .u32 x21 (10 : Int)))))))))], []⟩) id hb0 (.keep rfl (.keep rfl (.keep rfl (.keep rfl .nil)))) (.keep rfl (.keep rfl .nil)) rfl (by rfl) ?_
    exact jq
   refine aq_then ?_
   refine aw_r ?_
   refine .b rfl rfl rfl ?_
   refine .m rfl ?_
   refine .nil ?_
   obtain rfl := Option.some.inj h
   refine aq_weak (s' := ⟨[(0, .ptr 0 0 []), (1, .d (eL139 a0)), (4, .ptr 4 0 []), (19, .d (.val (.int .i64 (IntKind.i64.wrap (z0_0 + (1 : Int))))))], [(0, .av (.d (eA209 a1))), (4, .av (.d (eA223 o41)))], []⟩) id hb0 (.keep rfl (.keep rfl (.keep rfl (.keep rfl .nil)))) (.keep rfl (.keep rfl .nil)) rfl (by rfl) ?_
   exact jq
  replace h := ite_f hc1 h
  refine aw_exit ?_
  refine aq_then_exit ?_
  obtain rfl := Option.some.inj h
  refine aq_weak (s' := ⟨[(0, .ptr 0 0 []), (4, .ptr 4 0 [])], [(0, .av (.d (eA209 a1))), (4, .av (.d (eA223 z0_1)))], []⟩) id hb0 (.keep rfl (.keep rfl .nil)) (.keep rfl (.keep rfl .nil)) rfl (by rfl) ?_
  exact jq
 refine aq_block_exit ?_
 refine aq_then ?_
 refine aw_rs ?_
 refine .m rfl ?_
 refine .v (f_nilCheck (by rfl)) rfl (.c rfl .nil) .nil ?_
 refine .l 0 0 [] (.d (eA209 a1)) (.d (eA209 a1)) ty210 ?_
 refine .n (f_alloc 8 (by rfl) zr210) rfl .nil rfl ?_
 refine .s (f_store (n := 0) (o := 8) (off := 0) (p := []) (c := .d (eA209 (List.replicate 8 (0 : Int)))) (old := .d (eA209 (List.replicate 8 (0 : Int)))) (z := .d (eA209 a1)) (c' := .d (eA209 a1)) rfl rfl (by rfl) ty210 (by rfl)) rfl (.c rfl (.c rfl .nil)) (.cons rfl .nil) ?_
 refine .nil (aq_then ?_)
 refine aw_seq ?_
 refine aw_rs ?_
 refine .m rfl ?_
 refine .nil (aq_then ?_)
 refine aw_block ?_
 refine aw_weak (s' := ⟨[(0, .ptr 0 0 []), (4, .ptr 4 0 []), (8, .ptr 8 0 []), (100, .d (.val (.int .i64 (0 : Int))))], [(0, .av (.d (eA209 a1))), (4, .av (.d (eA223 o43))), (8, .av (.d (eA209 a1)))], []⟩) id hb0 (.keep rfl (.keep rfl (.keep rfl (.keep rfl .nil)))) (.keep rfl (.keep rfl (.keep rfl .nil))) rfl (by rfl) ?_
 obtain ⟨o88, ho89, h⟩ := bind_some h
 refine aw_loopX (σ := Int × (List Int)) (fun z => ⟨[(0, .ptr 0 0 []), (4, .ptr 4 0 []), (8, .ptr 8 0 []), (100, .d (.val (.int .i64 z.1)))], [(0, .av (.d (eA209 a1))), (4, .av (.d (eA223 o43))), (8, .av (.d (eA209 z.2)))], []⟩) (fun _ => (.exit 2)) (fun (o88 : (List Int)) => ⟨[(0, .ptr 0 0 []), (8, .ptr 8 0 [])], [(0, .av (.d (eA209 a1))), (8, .av (.d (eA209 o88)))], []⟩) ho89 (fun _ => rfl) ?_ ?_
 ·clear h ho89
  rintro ⟨z1_0, z1_1⟩ o h
  change F160_sha_state_block_f5d_s1 n o43 z1_0 z1_1 = some o at h
  unfold F160_sha_state_block_f5d_s1 at h
  show AW _ _ _ ⟨[(0, .ptr 0 0 []), (4, .ptr 4 0 []), (8, .ptr 8 0 []), (100, .d (.val (.int .i64 z1_0)))], [(0, .av (.d (eA209 a1))), (4, .av (.d (eA223 o43))), (8, .av (.d (eA209 z1_1)))], []⟩
  refine aw_rs ?_
  refine .b rfl rfl rfl ?_
  refine .nil (aq_then ?_)
  refine aw_seq ?_
  refine aw_cond rfl (fun hc45 => ?_) (fun hc45 => ?_)
  ·replace h := ite_t hc45 h
   refine aw_skip ?_
   refine aq_then ?_
   refine aw_seq ?_
   refine aw_block ?_
   refine aw_rs ?_
   refine .m rfl ?_
   refine .a rfl ?_
   refine .nil (aq_then ?_)
   refine aw_rds ?_
   obtain ⟨x46, hx47, h⟩ := bind_some h
   obtain ⟨hx48, hx47⟩ := rd_some hx47
   refine .v (f_indexO (by rfl) ar210 rfl hx48 (rd_map _ hx47)) rfl (.c rfl (.c rfl .nil)) (.cons rfl .nil) ?_
   refine .v (f_load (n := 0) (o := 8) (off := (0 + ((0 : Int)).toNat * 1)) (p := [((0 : Int)).toNat]) (c := .d (eA209 z1_1)) (z := .d (.val (.int .u32 x46))) (by rfl) (at_map _ hx47 (by simp)) ty208 (by rfl)) rfl (.c rfl .nil) (.cons rfl .nil) ?_
   obtain ⟨x49, hx50, h⟩ := bind_some h
   obtain ⟨hx51, hx50⟩ := rd_some hx50
   refine .v (f_indexO (by rfl) ar210 rfl hx51 (rd_map _ hx50)) rfl (.c rfl (.c rfl .nil)) (.cons rfl .nil) ?_
   refine .v (f_load (n := 0) (o := 8) (off := (0 + ((1 : Int)).toNat * 1)) (p := [((1 : Int)).toNat]) (c := .d (eA209 z1_1)) (z := .d (.val (.int .u32 x49))) (by rfl) (at_map _ hx50 (by simp)) ty208 (by rfl)) rfl (.c rfl .nil) (.cons rfl .nil) ?_
   obtain ⟨x52, hx53, h⟩ := bind_some h
   obtain ⟨hx54, hx53⟩ := rd_some hx53
   refine .v (f_indexO (by rfl) ar210 rfl hx54 (rd_map _ hx53)) rfl (.c rfl (.c rfl .nil)) (.cons rfl .nil) ?_
   refine .v (f_load (n := 0) (o := 8) (off := (0 + ((2 : Int)).toNat * 1)) (p := [((2 : Int)).toNat]) (c := .d (eA209 z1_1)) (z := .d (.val (.int .u32 x52))) (by rfl) (at_map _ hx53 (by simp)) ty208 (by rfl)) rfl (.c rfl .nil) (.cons rfl .nil) ?_
   obtain ⟨x55, hx56, h⟩ := bind_some h
   obtain ⟨hx57, hx56⟩ := rd_some hx56
   refine .v (f_indexO (by rfl) ar210 rfl hx57 (rd_map _ hx56)) rfl (.c rfl (.c rfl .nil)) (.cons rfl .nil) ?_
   refine .v (f_load (n := 0) (o := 8) (off := (0 + ((4 : Int)).toNat * 1)) (p := [((4 : Int)).toNat]) (c := .d (eA209 z1_1)) (z := .d (.val (.int .u32 x55))) (by rfl) (at_map _ hx56 (by simp)) ty208 (by rfl)) rfl (.c rfl .nil) (.cons rfl .nil) ?_
   obtain ⟨x58, hx59, h⟩ := bind_some h
   obtain ⟨hx60, hx59⟩ := rd_some hx59
   refine .v (f_indexO (by rfl) ar210 rfl hx60 (rd_map _ hx59)) rfl (.c rfl (.c rfl .nil)) (.cons rfl .nil) ?_
   refine .v (f_load (n := 0) (o := 8) (off := (0 + ((5 : Int)).toNat * 1)) (p := [((5 : Int)).toNat]) (c := .d (eA209 z1_1)) (z := .d (.val (.int .u32 x58))) (by rfl) (at_map _ hx59 (by simp)) ty208 (by rfl)) rfl (.c rfl .nil) (.cons rfl .nil) ?_
   obtain ⟨x61, hx62, h⟩ := bind_some h
   obtain ⟨hx63, hx62⟩ := rd_some hx62
   refine .v (f_indexO (by rfl) ar210 rfl hx63 (rd_map _ hx62)) rfl (.c rfl (.c rfl .nil)) (.cons rfl .nil) ?_
   refine .v (f_load (n := 0) (o := 8) (off := (0 + ((6 : Int)).toNat * 1)) (p := [((6 : Int)).toNat]) (c := .d (eA209 z1_1)) (z := .d (.val (.int .u32 x61))) (by rfl) (at_map _ hx62 (by simp)) ty208 (by rfl)) rfl (.c rfl .nil) (.cons rfl .nil) ?_
   refine .v (f_assign (by rfl)) rfl (.c rfl .nil) .nil ?_
   refine .v (f_assign (by rfl)) rfl (.c rfl .nil) .nil ?_
   refine .v (f_assign (by rfl)) rfl (.c rfl .nil) .nil ?_
   refine .v (f_assign (by rfl)) rfl (.c rfl .nil) .nil ?_
   refine .v (f_assign (by rfl)) rfl (.c rfl .nil) .nil ?_
   refine .v (f_assign (by rfl)) rfl (.c rfl .nil) .nil ?_
   refine .nil (by kernel_rfl) ?_
   refine aw_rds ?_
   obtain ⟨x64, hx65, h⟩ := bind_some h
   obtain ⟨hx66, hx65⟩ := rd_some hx65
   refine .v (f_indexO (by rfl) ar210 rfl hx66 (rd_map _ hx65)) rfl (.c rfl (.c rfl .nil)) (.cons rfl .nil) ?_
   refine .v (f_load (n := 0) (o := 8) (off := (0 + ((7 : Int)).toNat * 1)) (p := [((7 : Int)).toNat]) (c := .d (eA209 z1_1)) (z := .d (.val (.int .u32 x64))) (by rfl) (at_map _ hx65 (by simp)) ty208 (by rfl)) rfl (.c rfl .nil) (.cons rfl .nil) ?_
   refine .v (f_move (by rfl)) rfl (.c rfl .nil) .nil ?_
   obtain ⟨y67, hy68, h⟩ := bind_some h
   refine .v (f_callP hgl (by rfl) en170 rfl (by rfl) (by rfl) (by rfl) (F170_sha_turned_ok hy68)) rfl (.c rfl (.c rfl .nil)) .nil ?_
   refine .v (f_move (by rfl)) rfl (.c rfl .nil) .nil ?_
   obtain ⟨y69, hy70, h⟩ := bind_some h
   refine .v (f_callP hgl (by rfl) en170 rfl (by rfl) (by rfl) (by rfl) (F170_sha_turned_ok hy70)) rfl (.c rfl (.c rfl .nil)) .nil ?_
   refine .v (f_binI (r := .int .u32 (bXor .u32 y67 y69)) (by rfl) rfl (by rfl)) rfl (.c rfl (.c rfl .nil)) .nil ?_
   refine .v (f_move (by rfl)) rfl (.c rfl .nil) .nil ?_
   obtain ⟨y71, hy72, h⟩ := bind_some h
   refine .v (f_callP hgl (by rfl) en170 rfl (by rfl) (by rfl) (by rfl) (F170_sha_turned_ok hy72)) rfl (.c rfl (.c rfl .nil)) .nil ?_
   refine .v (f_binI (r := .int .u32 (bXor .u32 (bXor .u32 y67 y69) y71)) (by rfl) rfl (by rfl)) rfl (.c rfl (.c rfl .nil)) .nil ?_
   refine .v (f_binI (by rfl) rfl (by rfl)) rfl (.c rfl (.c rfl .nil)) .nil ?_
   refine .v (f_move (by rfl)) rfl (.c rfl .nil) .nil ?_
   refine .v (f_move (by rfl)) rfl (.c rfl .nil) .nil ?_
   refine .v (f_binI (r := .int .u32 (bAnd .u32 x55 x58)) (by rfl) rfl (by rfl)) rfl (.c rfl (.c rfl .nil)) .nil ?_
   refine .v (f_move (by rfl)) rfl (.c rfl .nil) .nil ?_
   refine .v (f_compl (by rfl)) rfl (.c rfl .nil) .nil ?_
   refine .v (f_move (by rfl)) rfl (.c rfl .nil) .nil ?_
   refine .v (f_binI (r := .int .u32 (bAnd .u32 (bCom .u32 x55) x61)) (by rfl) rfl (by rfl)) rfl (.c rfl (.c rfl .nil)) .nil ?_
   refine .v (f_binI (r := .int .u32 (bXor .u32 (bAnd .u32 x55 x58) (bAnd .u32 (bCom .u32 x55) x61))) (by rfl) rfl (by rfl)) rfl (.c rfl (.c rfl .nil)) .nil ?_
   refine .v (f_binI (by rfl) rfl (by rfl)) rfl (.c rfl (.c rfl .nil)) .nil ?_
   refine .v (f_move (by rfl)) rfl (.c rfl .nil) .nil ?_
   obtain ⟨x73, hx74, h⟩ := bind_some h
   obtain ⟨hx75, hx74⟩ := rd_some hx74
   refine .v (f_indexAR (by rfl) ar223 hx75 (rd_map _ hx74)) rfl (.c (glob_ev hgl rfl) (.c rfl .nil)) .nil ?_
   refine .v (f_loadR (z := (.val (.int .u32 x73))) (by rfl) ty208) rfl (.c rfl .nil) .nil ?_
   refine .v (f_binI (by rfl) rfl (by rfl)) rfl (.c rfl (.c rfl .nil)) .nil ?_
   refine .v (f_move (by rfl)) rfl (.c rfl .nil) .nil ?_
   obtain ⟨x76, hx77, h⟩ := bind_some h
   obtain ⟨hx78, hx77⟩ := rd_some hx77
   refine .v (f_indexO (by rfl) ar223 rfl hx78 (rd_map _ hx77)) rfl (.c rfl (.c rfl .nil)) (.cons rfl .nil) ?_
   refine .v (f_load (n := 0) (o := 4) (off := (0 + (z1_0).toNat * 1)) (p := [(z1_0).toNat]) (c := .d (eA223 o43)) (z := .d (.val (.int .u32 x76))) (by rfl) (at_map _ hx77 (by simp)) ty208 (by rfl)) rfl (.c rfl .nil) (.cons rfl .nil) ?_
   refine .v (f_binI (by rfl) rfl (by rfl)) rfl (.c rfl (.c rfl .nil)) .nil ?_
   refine .v (f_assign (by rfl)) rfl (.c rfl .nil) .nil ?_
   refine .nil (by kernel_rfl) ?_
   refine aw_rs ?_
   refine .m rfl ?_
   obtain ⟨y79, hy80, h⟩ := bind_some h
   refine .v (f_callP hgl (by rfl) en170 rfl (by rfl) (by rfl) (by rfl) (F170_sha_turned_ok hy80)) rfl (.c rfl (.c rfl .nil)) .nil ?_
   refine .m rfl ?_
   obtain ⟨y81, hy82, h⟩ := bind_some h
   refine .v (f_callP hgl (by rfl) en170 rfl (by rfl) (by rfl) (by rfl) (F170_sha_turned_ok hy82)) rfl (.c rfl (.c rfl .nil)) .nil ?_
   refine .v (f_binI (r := .int .u32 (bXor .u32 y79 y81)) (by rfl) rfl (by rfl)) rfl (.c rfl (.c rfl .nil)) .nil ?_
   refine .m rfl ?_
   obtain ⟨y83, hy84, h⟩ := bind_some h
   refine .v (f_callP hgl (by rfl) en170 rfl (by rfl) (by rfl) (by rfl) (F170_sha_turned_ok hy84)) rfl (.c rfl (.c rfl .nil)) .nil ?_
   refine .v (f_binI (r := .int .u32 (bXor .u32 (bXor .u32 y79 y81) y83)) (by rfl) rfl (by rfl)) rfl (.c rfl (.c rfl .nil)) .nil ?_
   refine .m rfl ?_
   refine .m rfl ?_
   refine .v (f_binI (r := .int .u32 (bAnd .u32 x46 x49)) (by rfl) rfl (by rfl)) rfl (.c rfl (.c rfl .nil)) .nil ?_
   refine .m rfl ?_
   refine .m rfl ?_
   refine .v (f_binI (r := .int .u32 (bAnd .u32 x46 x52)) (by rfl) rfl (by rfl)) rfl (.c rfl (.c rfl .nil)) .nil ?_
   refine .v (f_binI (r := .int .u32 (bXor .u32 (bAnd .u32 x46 x49) (bAnd .u32 x46 x52))) (by rfl) rfl (by rfl)) rfl (.c rfl (.c rfl .nil)) .nil ?_
   refine .m rfl ?_
   refine .m rfl ?_
   refine .v (f_binI (r := .int .u32 (bAnd .u32 x49 x52)) (by rfl) rfl (by rfl)) rfl (.c rfl (.c rfl .nil)) .nil ?_
   refine .v (f_binI (r := .int .u32 (bXor .u32 (bXor .u32 (bAnd .u32 x46 x49) (bAnd .u32 x46 x52)) (bAnd .u32 x49 x52))) (by rfl) rfl (by rfl)) rfl (.c rfl (.c rfl .nil)) .nil ?_
   refine .b rfl rfl rfl ?_
   refine .a rfl ?_
   refine .nil (aq_then ?_)
   refine aw_r ?_
   refine .m rfl ?_
   refine .m rfl ?_
   refine .b rfl rfl rfl ?_
   refine .m rfl ?_
   refine .m rfl ?_
   refine .m rfl ?_
   obtain ⟨x85, hx86, h⟩ := bind_some h
   obtain ⟨hx87, hx86⟩ := rd_some hx86
   refine .v (f_indexO (by rfl) ar210 rfl hx87 (rd_map _ hx86)) rfl (.c rfl (.c rfl .nil)) (.cons rfl .nil) ?_
   refine .v (f_load (n := 0) (o := 8) (off := (0 + ((3 : Int)).toNat * 1)) (p := [((3 : Int)).toNat]) (c := .d (eA209 z1_1)) (z := .d (.val (.int .u32 x85))) (by rfl) (at_map _ hx86 (by simp)) ty208 (by rfl)) rfl (.c rfl .nil) (.cons rfl .nil) ?_
   refine .m rfl ?_
   refine .b rfl rfl rfl ?_
   refine .m rfl ?_
   refine .m rfl ?_
   refine .m rfl ?_
   refine .v (f_build (xs := [(0, .d (.val (.int .u32 (IntKind.u32.wrap ((IntKind.u32.wrap ((IntKind.u32.wrap ((IntKind.u32.wrap ((IntKind.u32.wrap (x64 + (bXor .u32 (bXor .u32 y67 y69) y71))) + (bXor .u32 (bAnd .u32 x55 x58) (bAnd .u32 (bCom .u32 x55) x61)))) + x73)) + x76)) + (IntKind.u32.wrap ((bXor .u32 (bXor .u32 y79 y81) y83) + (bXor .u32 (bXor .u32 (bAnd .u32 x46 x49) (bAnd .u32 x46 x52)) (bAnd .u32 x49 x52))))))))), (1, .d (.val (.int .u32 x46))), (2, .d (.val (.int .u32 x49))), (3, .d (.val (.int .u32 x52))), (4, .d (.val (.int .u32 (IntKind.u32.wrap (x85 + (IntKind.u32.wrap ((IntKind.u32.wrap ((IntKind.u32.wrap ((IntKind.u32.wrap (x64 + (bXor .u32 (bXor .u32 y67 y69) y71))) + (bXor .u32 (bAnd .u32 x55 x58) (bAnd .u32 (bCom .u32 x55) x61)))) + x73)) + x76))))))), (5, .d (.val (.int .u32 x55))), (6, .d (.val (.int .u32 x58))), (7, .d (.val (.int .u32 x61)))]) (z' := .d (eA209 ([(IntKind.u32.wrap ((IntKind.u32.wrap ((IntKind.u32.wrap ((IntKind.u32.wrap ((IntKind.u32.wrap (x64 + (bXor .u32 (bXor .u32 y67 y69) y71))) + (bXor .u32 (bAnd .u32 x55 x58) (bAnd .u32 (bCom .u32 x55) x61)))) + x73)) + x76)) + (IntKind.u32.wrap ((bXor .u32 (bXor .u32 y79 y81) y83) + (bXor .u32 (bXor .u32 (bAnd .u32 x46 x49) (bAnd .u32 x46 x52)) (bAnd .u32 x49 x52)))))), x46, x49, x52, (IntKind.u32.wrap (x85 + (IntKind.u32.wrap ((IntKind.u32.wrap ((IntKind.u32.wrap ((IntKind.u32.wrap (x64 + (bXor .u32 (bXor .u32 y67 y69) y71))) + (bXor .u32 (bAnd .u32 x55 x58) (bAnd .u32 (bCom .u32 x55) x61)))) + x73)) + x76)))), x55, x58, x61] : List Int))) (by rfl) zr210 ag210 rfl (by rfl) ⟨_, _, _, rfl, pl210_0, rfl, rfl, ⟨_, _, _, rfl, pl210_1, rfl, rfl, ⟨_, _, _, rfl, pl210_2, rfl, rfl, ⟨_, _, _, rfl, pl210_3, rfl, rfl, ⟨_, _, _, rfl, pl210_4, rfl, rfl, ⟨_, _, _, rfl, pl210_5, rfl, rfl, ⟨_, _, _, rfl, pl210_6, rfl, rfl, ⟨_, _, _, rfl, pl210_7, rfl, rfl, trivial⟩⟩⟩⟩⟩⟩⟩⟩ (by rfl) (by rfl)) rfl (.c rfl (.c rfl (.c rfl (.c rfl (.c rfl (.c rfl (.c rfl (.c rfl .nil)))))))) .nil ?_
   refine .s (f_store (n := 0) (o := 8) (off := 0) (p := []) (c := .d (eA209 z1_1)) (old := .d (eA209 z1_1)) (z := .d (eA209 ([(IntKind.u32.wrap ((IntKind.u32.wrap ((IntKind.u32.wrap ((IntKind.u32.wrap ((IntKind.u32.wrap (x64 + (bXor .u32 (bXor .u32 y67 y69) y71))) + (bXor .u32 (bAnd .u32 x55 x58) (bAnd .u32 (bCom .u32 x55) x61)))) + x73)) + x76)) + (IntKind.u32.wrap ((bXor .u32 (bXor .u32 y79 y81) y83) + (bXor .u32 (bXor .u32 (bAnd .u32 x46 x49) (bAnd .u32 x46 x52)) (bAnd .u32 x49 x52)))))), x46, x49, x52, (IntKind.u32.wrap (x85 + (IntKind.u32.wrap ((IntKind.u32.wrap ((IntKind.u32.wrap ((IntKind.u32.wrap (x64 + (bXor .u32 (bXor .u32 y67 y69) y71))) + (bXor .u32 (bAnd .u32 x55 x58) (bAnd .u32 (bCom .u32 x55) x61)))) + x73)) + x76)))), x55, x58, x61] : List Int))) (c' := .d (eA209 ([(IntKind.u32.wrap ((IntKind.u32.wrap ((IntKind.u32.wrap ((IntKind.u32.wrap ((IntKind.u32.wrap (x64 + (bXor .u32 (bXor .u32 y67 y69) y71))) + (bXor .u32 (bAnd .u32 x55 x58) (bAnd .u32 (bCom .u32 x55) x61)))) + x73)) + x76)) + (IntKind.u32.wrap ((bXor .u32 (bXor .u32 y79 y81) y83) + (bXor .u32 (bXor .u32 (bAnd .u32 x46 x49) (bAnd .u32 x46 x52)) (bAnd .u32 x49 x52)))))), x46, x49, x52, (IntKind.u32.wrap (x85 + (IntKind.u32.wrap ((IntKind.u32.wrap ((IntKind.u32.wrap ((IntKind.u32.wrap (x64 + (bXor .u32 (bXor .u32 y67 y69) y71))) + (bXor .u32 (bAnd .u32 x55 x58) (bAnd .u32 (bCom .u32 x55) x61)))) + x73)) + x76)))), x55, x58, x61] : List Int))) rfl rfl (by rfl) ty210 (by rfl)) rfl (.c rfl (.c rfl .nil)) (.cons rfl .nil) ?_
   refine .nil ?_
   refine aq_block ?_
   refine aq_then ?_
   refine aw_r ?_
   refine .b rfl rfl rfl ?_
   refine .m rfl ?_
   refine .nil ?_
   obtain rfl := Option.some.inj h
   refine aq_weak (s' := ⟨[(0, .ptr 0 0 []), (4, .ptr 4 0 []), (8, .ptr 8 0 []), (100, .d (.val (.int .i64 (IntKind.i64.wrap (z1_0 + (1 : Int))))))], [(0, .av (.d (eA209 a1))), (4, .av (.d (eA223 o43))), (8, .av (.d (eA209 ([(IntKind.u32.wrap ((IntKind.u32.wrap ((IntKind.u32.wrap ((IntKind.u32.wrap ((IntKind.u32.wrap (x64 + (bXor .u32 (bXor .u32 y67 y69) y71))) + (bXor .u32 (bAnd .u32 x55 x58) (bAnd .u32 (bCom .u32 x55) x61)))) + x73)) + x76)) + (IntKind.u32.wrap ((bXor .u32 (bXor .u32 y79 y81) y83) + (bXor .u32 (bXor .u32 (bAnd .u32 x46 x49) (bAnd .u32 x46 x52)) (bAnd .u32 x49 x52)))))), x46, x49, x52, (IntKind.u32.wrap (x85 + (IntKind.u32.wrap ((IntKind.u32.wrap ((IntKind.u32.wrap ((IntKind.u32.wrap (x64 + (bXor .u32 (bXor .u32 y67 y69) y71))) + (bXor .u32 (bAnd .u32 x55 x58) (bAnd .u32 (bCom .u32 x55) x61)))) + x73)) + x76)))), x55, x58, x61] : List Int))))], []⟩) id hb0 (.keep rfl (.keep rfl (.keep rfl (.keep rfl .nil)))) (.keep rfl (.keep rfl (.keep rfl .nil))) rfl (by rfl) ?_
   exact jq
  replace h := ite_f hc45 h
  refine aw_exit ?_
  refine aq_then_exit ?_
  obtain rfl := Option.some.inj h
  refine aq_weak (s' := ⟨[(0, .ptr 0 0 []), (8, .ptr 8 0 [])], [(0, .av (.d (eA209 a1))), (8, .av (.d (eA209 z1_1)))], []⟩) id hb0 (.keep rfl (.keep rfl .nil)) (.keep rfl (.keep rfl .nil)) rfl (by rfl) ?_
  exact jq
 refine aq_block_exit ?_
 refine aq_then ?_
 refine aw_rs ?_
 refine .m rfl ?_
 refine .nil (aq_then ?_)
 refine aw_block ?_
 refine aw_weak (s' := ⟨[(0, .ptr 0 0 []), (8, .ptr 8 0 []), (178, .d (.val (.int .i64 (0 : Int))))], [(0, .av (.d (eA209 a1))), (8, .av (.d (eA209 o88)))], []⟩) id hb0 (.keep rfl (.keep rfl (.keep rfl .nil))) (.keep rfl (.keep rfl .nil)) rfl (by rfl) ?_
 obtain ⟨o100, ho101, h⟩ := bind_some h
 refine aw_loopX (σ := Int × (List Int)) (fun z => ⟨[(0, .ptr 0 0 []), (8, .ptr 8 0 []), (178, .d (.val (.int .i64 z.1)))], [(0, .av (.d (eA209 z.2))), (8, .av (.d (eA209 o88)))], []⟩) (fun _ => (.exit 4)) (fun (o100 : (List Int)) => ⟨[], [(0, .av (.d (eA209 o100)))], []⟩) ho101 (fun _ => rfl) ?_ ?_
 ·clear h ho101
  rintro ⟨z2_0, z2_1⟩ o h
  change F160_sha_state_block_f5d_s2 o88 z2_0 z2_1 = some o at h
  unfold F160_sha_state_block_f5d_s2 at h
  show AW _ _ _ ⟨[(0, .ptr 0 0 []), (8, .ptr 8 0 []), (178, .d (.val (.int .i64 z2_0)))], [(0, .av (.d (eA209 z2_1))), (8, .av (.d (eA209 o88)))], []⟩
  refine aw_rs ?_
  refine .b rfl rfl rfl ?_
  refine .nil (aq_then ?_)
  refine aw_seq ?_
  refine aw_cond rfl (fun hc90 => ?_) (fun hc90 => ?_)
  ·replace h := ite_t hc90 h
   refine aw_skip ?_
   refine aq_then ?_
   refine aw_seq ?_
   refine aw_block ?_
   refine aw_rs ?_
   refine .m rfl ?_
   refine .a rfl ?_
   refine .nil (aq_then ?_)
   refine aw_rd ?_
   refine .v (f_move (by rfl)) rfl (.c rfl .nil) .nil ?_
   refine .v (f_move (by rfl)) rfl (.c rfl .nil) .nil ?_
   refine .v (f_nilCheck (by rfl)) rfl (.c rfl .nil) .nil ?_
   obtain ⟨x91, hx92, h⟩ := bind_some h
   obtain ⟨hx93, hx92⟩ := rd_some hx92
   refine .v (f_indexO (by rfl) ar210 rfl hx93 (rd_map _ hx92)) rfl (.c rfl (.c rfl .nil)) (.cons rfl .nil) ?_
   refine .v (f_load (n := 0) (o := 0) (off := (0 + (z2_0).toNat * 1)) (p := [(z2_0).toNat]) (c := .d (eA209 z2_1)) (z := .d (.val (.int .u32 x91))) (by rfl) (at_map _ hx92 (by simp)) ty208 (by rfl)) rfl (.c rfl .nil) (.cons rfl .nil) ?_
   refine .v (f_move (by rfl)) rfl (.c rfl .nil) .nil ?_
   obtain ⟨x94, hx95, h⟩ := bind_some h
   obtain ⟨hx96, hx95⟩ := rd_some hx95
   refine .v (f_indexO (by rfl) ar210 rfl hx96 (rd_map _ hx95)) rfl (.c rfl (.c rfl .nil)) (.cons rfl .nil) ?_
   refine .v (f_load (n := 0) (o := 8) (off := (0 + (z2_0).toNat * 1)) (p := [(z2_0).toNat]) (c := .d (eA209 o88)) (z := .d (.val (.int .u32 x94))) (by rfl) (at_map _ hx95 (by simp)) ty208 (by rfl)) rfl (.c rfl .nil) (.cons rfl .nil) ?_
   refine .v (f_binI (by rfl) rfl (by rfl)) rfl (.c rfl (.c rfl .nil)) .nil ?_
   refine .v (f_nilCheck (by rfl)) rfl (.c rfl .nil) .nil ?_
   obtain ⟨x97, hx98, h⟩ := bind_some h
   obtain ⟨hx99, hx98⟩ := rd_some hx98
   refine .v (f_indexO (by rfl) ar210 rfl hx99 (rd_map _ hx98)) rfl (.c rfl (.c rfl .nil)) (.cons rfl .nil) ?_
   refine .s (f_store (n := 0) (o := 0) (off := (0 + (z2_0).toNat * 1)) (p := [(z2_0).toNat]) (c := .d (eA209 z2_1)) (old := .d (.val (.int .u32 x97))) (z := .d (.val (.int .u32 (IntKind.u32.wrap (x91 + x94))))) (c' := .d (eA209 (z2_1.set (z2_0).toNat (IntKind.u32.wrap (x91 + x94))))) (at_map _ hx98 (by simp)) (put_map _ hx98) (by rfl) ty208 (by rfl)) rfl (.c rfl (.c rfl .nil)) (.cons rfl .nil) ?_
   refine .nil (by kernel_rfl) ?_
   refine aq_block ?_
   refine aq_then ?_
   refine aw_r ?_
   refine .b rfl rfl rfl ?_
   refine .m rfl ?_
   refine .nil ?_
   obtain rfl := Option.some.inj h
   refine aq_weak (s' := ⟨[(0, .ptr 0 0 []), (8, .ptr 8 0 []), (178, .d (.val (.int .i64 (IntKind.i64.wrap (z2_0 + (1 : Int))))))], [(0, .av (.d (eA209 (z2_1.set (z2_0).toNat (IntKind.u32.wrap (x91 + x94)))))), (8, .av (.d (eA209 o88)))], []⟩) id hb0 (.keep rfl (.keep rfl (.keep rfl .nil))) (.keep rfl (.keep rfl .nil)) rfl (by rfl) ?_
   exact jq
  replace h := ite_f hc90 h
  refine aw_exit ?_
  refine aq_then_exit ?_
  obtain rfl := Option.some.inj h
  refine aq_weak (s' := ⟨[], [(0, .av (.d (eA209 z2_1)))], []⟩) id hb0 .nil (.keep rfl .nil) rfl (by rfl) ?_
  exact jq
 refine aq_block_exit ?_
 obtain rfl := Option.some.inj h
 refine aq_weak (s' := ⟨[], [(0, .av (.d (eA209 o100)))], []⟩) id hb0 .nil (.keep rfl .nil) rfl (by rfl) ?_
 exact aq_fin0 .nil rfl ⟨rfl, rfl⟩

/- 137: beadroll/sha.Of -/
def F137_sha_Of_s1 (n : Nat) (z1_0 : (List Int)) (z1_1 : List Int) : Option (((List Int) × List Int) ⊕ ((List Int) × List Int)) :=
  (if (decide (((z1_1).length : Int) ≥ (64 : Int))) = true then (if 0 ≤ (0 : Int) ∧ (0 : Int) ≤ (64 : Int) ∧ (64 : Int) ≤ (((z1_1).length : Nat) : Int) then ((F160_sha_state_block_f5d n (((z1_1).drop (0)).take ((((64 : Int)).toNat - ((0 : Int)).toNat))) z1_0).bind fun (y8 : (List Int)) => (if 0 ≤ (64 : Int) ∧ (64 : Int) ≤ (((z1_1).length : Nat) : Int) ∧ (((z1_1).length : Nat) : Int) ≤ (((z1_1).length : Nat) : Int) then some (.inl (y8, ((z1_1).drop ((0 + ((64 : Int)).toNat))))) else none)) else none) else some (.inr (z1_0, z1_1)))
def F137_sha_Of_s0 (n : Nat) (a0 : (List (List Int))) (z0_0 : Int) (z0_1 : Int) (z0_2 : (List Int)) (z0_3 : List Int) : Option ((Int × Int × (List Int) × List Int) ⊕ (Int × (List Int) × List Int)) :=
  (if (decide (z0_1 < ((a0).length : Int))) = true then ((rd a0 z0_1).bind fun (x2 : (List Int)) => (if ((z0_3 ++ x2)).length ≤ 1073741824 then ((loopF (fun (z : (List Int) × List Int) => F137_sha_Of_s1 n z.1 z.2) n (z0_2, (z0_3 ++ x2))).bind fun (o11 : (List Int) × List Int) => some (.inl ((IntKind.u64.wrap (z0_0 + (IntKind.u64.wrap ((x2).length : Int)))), (IntKind.i64.wrap (z0_1 + (1 : Int))), o11.1, o11.2))) else none)) else some (.inr (z0_0, z0_2, z0_3)))
def F137_sha_Of_s2 (z2_0 : List Int) : Option ((List Int) ⊕ (List Int)) :=
  (if ((Int.tmod ((z2_0).length : Int) (64 : Int)) != (56 : Int)) = true then (if ((z2_0 ++ ([(0 : Int)] : List Int))).length ≤ 1073741824 then some (.inl (z2_0 ++ ([(0 : Int)] : List Int))) else none) else some (.inr z2_0))
def F137_sha_Of_s3 (o13 : Int × (List Int) × List Int) (z3_0 : Int) (z3_1 : List Int) : Option ((Int × List Int) ⊕ (List Int)) :=
  (if (decide (z3_0 ≥ (0 : Int))) = true then (if 0 ≤ z3_0 then (if ((z3_1 ++ ([(IntKind.u8.wrap (shr .u64 (IntKind.u64.wrap ((8 : Int) * o13.1)) z3_0))] : List Int))).length ≤ 1073741824 then some (.inl ((IntKind.i64.wrap (z3_0 - (8 : Int))), (z3_1 ++ ([(IntKind.u8.wrap (shr .u64 (IntKind.u64.wrap ((8 : Int) * o13.1)) z3_0))] : List Int)))) else none) else none) else some (.inr z3_1))
def F137_sha_Of_s4 (n : Nat) (z4_0 : (List Int)) (z4_1 : List Int) : Option (((List Int) × List Int) ⊕ ((List Int))) :=
  (if (decide (((z4_1).length : Int) > (0 : Int))) = true then (if 0 ≤ (0 : Int) ∧ (0 : Int) ≤ (64 : Int) ∧ (64 : Int) ≤ (((z4_1).length : Nat) : Int) then ((F160_sha_state_block_f5d n (((z4_1).drop (0)).take ((((64 : Int)).toNat - ((0 : Int)).toNat))) z4_0).bind fun (y27 : (List Int)) => (if 0 ≤ (64 : Int) ∧ (64 : Int) ≤ (((z4_1).length : Nat) : Int) ∧ (((z4_1).length : Nat) : Int) ≤ (((z4_1).length : Nat) : Int) then some (.inl (y27, ((z4_1).drop ((0 + ((64 : Int)).toNat))))) else none)) else none) else some (.inr z4_0))
def F137_sha_Of_s5 (o30 : (List Int)) (z5_0 : Int) (z5_1 : (List Int)) : Option ((Int × (List Int)) ⊕ ((List Int))) :=
  (if (decide (z5_0 < (32 : Int))) = true then ((rd o30 (IntKind.i64.wrap (Int.tdiv z5_0 (4 : Int)))).bind fun (x33 : Int) => (if 0 ≤ (IntKind.i64.wrap ((24 : Int) - (IntKind.i64.wrap ((8 : Int) * (Int.tmod z5_0 (4 : Int)))))) then ((rd z5_1 z5_0).bind fun (x37 : Int) => some (.inl ((IntKind.i64.wrap (z5_0 + (1 : Int))), (z5_1.set (z5_0).toNat (IntKind.u8.wrap (shr .u32 x33 (IntKind.i64.wrap ((24 : Int) - (IntKind.i64.wrap ((8 : Int) * (Int.tmod z5_0 (4 : Int)))))))))))) else none)) else some (.inr z5_1))
def F137_sha_Of (n : Nat) (a0 : (List (List Int))) : Option ((List Int)) :=
  ((loopF (fun (z : Int × Int × (List Int) × List Int) => F137_sha_Of_s0 n a0 z.1 z.2.1 z.2.2.1 z.2.2.2) n ((0 : Int), (0 : Int), ([(1779033703 : Int), (3144134277 : Int), (1013904242 : Int), (2773480762 : Int), (1359893119 : Int), (2600822924 : Int), (528734635 : Int), (1541459225 : Int)] : List Int), ([] : List Int))).bind fun (o13 : Int × (List Int) × List Int) => (if ((o13.2.2 ++ ([(128 : Int)] : List Int))).length ≤ 1073741824 then ((loopF (fun (z : List Int) => F137_sha_Of_s2  z) n (o13.2.2 ++ ([(128 : Int)] : List Int))).bind fun (o18 : List Int) => ((loopF (fun (z : Int × List Int) => F137_sha_Of_s3 o13 z.1 z.2) n ((56 : Int), o18)).bind fun (o23 : List Int) => ((loopF (fun (z : (List Int) × List Int) => F137_sha_Of_s4 n z.1 z.2) n (o13.2.1, o23)).bind fun (o30 : (List Int)) => ((loopF (fun (z : Int × (List Int)) => F137_sha_Of_s5 o30 z.1 z.2) n ((0 : Int), (List.replicate 32 (0 : Int)))).bind fun (o40 : (List Int)) => some o40)))) else none))
theorem F137_sha_Of_ok {n : Nat} {a0 : (List (List Int))} {r : (List Int)} (h : F137_sha_Of n a0 = some r) :
    ACall Tryd.prog GS 137 [.d (eL180 a0)] [] (fun r' hp' => r' = .d (eA22 r) ∧ hp' = []) := by
 refine acall_of_body mixed Tryd.func137 rfl (by rfl) ?_
 intro C hro hgl hb0
 unfold F137_sha_Of at h
 refine aw_rs ?_
 refine .n (f_alloc 2 (by rfl) zr23) rfl .nil rfl ?_
 refine .z ?_
 refine .v (f_build (xs := [(0, .d (.val (.int .u32 (1779033703 : Int)))), (1, .d (.val (.int .u32 (3144134277 : Int)))), (2, .d (.val (.int .u32 (1013904242 : Int)))), (3, .d (.val (.int .u32 (2773480762 : Int)))), (4, .d (.val (.int .u32 (1359893119 : Int)))), (5, .d (.val (.int .u32 (2600822924 : Int)))), (6, .d (.val (.int .u32 (528734635 : Int)))), (7, .d (.val (.int .u32 (1541459225 : Int))))]) (z' := .d (eA209 ([(1779033703 : Int), (3144134277 : Int), (1013904242 : Int), (2773480762 : Int), (1359893119 : Int), (2600822924 : Int), (528734635 : Int), (1541459225 : Int)] : List Int))) (by rfl) zr210 ag210 rfl (by rfl) ⟨_, _, _, rfl, pl210_0, rfl, rfl, ⟨_, _, _, rfl, pl210_1, rfl, rfl, ⟨_, _, _, rfl, pl210_2, rfl, rfl, ⟨_, _, _, rfl, pl210_3, rfl, rfl, ⟨_, _, _, rfl, pl210_4, rfl, rfl, ⟨_, _, _, rfl, pl210_5, rfl, rfl, ⟨_, _, _, rfl, pl210_6, rfl, rfl, ⟨_, _, _, rfl, pl210_7, rfl, rfl, trivial⟩⟩⟩⟩⟩⟩⟩⟩ (by rfl) (by rfl)) rfl (.c rfl (.c rfl (.c rfl (.c rfl (.c rfl (.c rfl (.c rfl (.c rfl .nil)))))))) .nil ?_
 refine .n (f_alloc 3 (by rfl) zr210) rfl .nil rfl ?_
 refine .s (f_store (n := 0) (o := 3) (off := 0) (p := []) (c := .d (eA209 (List.replicate 8 (0 : Int)))) (old := .d (eA209 (List.replicate 8 (0 : Int)))) (z := .d (eA209 ([(1779033703 : Int), (3144134277 : Int), (1013904242 : Int), (2773480762 : Int), (1359893119 : Int), (2600822924 : Int), (528734635 : Int), (1541459225 : Int)] : List Int))) (c' := .d (eA209 ([(1779033703 : Int), (3144134277 : Int), (1013904242 : Int), (2773480762 : Int), (1359893119 : Int), (2600822924 : Int), (528734635 : Int), (1541459225 : Int)] : List Int))) rfl rfl (by rfl) ty210 (by rfl)) rfl (.c rfl (.c rfl .nil)) (.cons rfl .nil) ?_
 refine .z ?_
 refine .a rfl ?_
 refine .z ?_
 refine .a rfl ?_
 refine .nil (aq_then ?_)
 refine aw_seq ?_
 refine aw_rs ?_
 refine .m rfl ?_
 refine .v (f_lenD (n := (a0).length) (by rfl) sl180 rfl (by simp)) rfl (.c rfl .nil) .nil ?_
 refine .m rfl ?_
 refine .nil (aq_then ?_)
 refine aw_block ?_
 refine aw_adopt 4 1011 1 rfl rfl ?_
 refine aw_weak (s' := ⟨[(2, .ptr 2 0 []), (3, .ptr 3 0 []), (4, .slc 1011 0 ((([] : List Int)).length) 1), (5, .d (.val (.int .u64 (0 : Int)))), (11, .d (eL180 a0)), (12, .d (.val (.int .i64 ((a0).length : Int)))), (13, .d (.val (.int .i64 (0 : Int))))], [(2, .av (.d (eA22 (List.replicate 32 (0 : Int))))), (3, .av (.d (eA209 ([(1779033703 : Int), (3144134277 : Int), (1013904242 : Int), (2773480762 : Int), (1359893119 : Int), (2600822924 : Int), (528734635 : Int), (1541459225 : Int)] : List Int)))), (1011, .av (.d (.arr 1 ((([] : List Int)).length) ((([] : List Int)).map eI_u8))))], []⟩) id hb0 (.keep rfl (.keep rfl (.keep (by simp only [List.length_set]; rfl) (.keep rfl (.keep rfl (.keep rfl (.keep rfl .nil))))))) (.keep rfl (.keep rfl (.keep (by simp only [List.length_set]; rfl) .nil))) rfl (by rfl) ?_
 obtain ⟨o13, ho14, h⟩ := bind_some h
 refine aw_loopX (σ := Int × Int × (List Int) × List Int) (fun z => ⟨[(2, .ptr 2 0 []), (3, .ptr 3 0 []), (4, .slc 1011 0 ((z.2.2.2).length) 1), (5, .d (.val (.int .u64 z.1))), (11, .d (eL180 a0)), (12, .d (.val (.int .i64 ((a0).length : Int)))), (13, .d (.val (.int .i64 z.2.1)))], [(2, .av (.d (eA22 (List.replicate 32 (0 : Int))))), (3, .av (.d (eA209 z.2.2.1))), (1011, .av (.d (.arr 1 ((z.2.2.2).length) ((z.2.2.2).map eI_u8))))], []⟩) (fun _ => (.exit 0)) (fun (o13 : Int × (List Int) × List Int) => ⟨[(2, .ptr 2 0 []), (3, .ptr 3 0 []), (4, .slc 1011 0 ((o13.2.2).length) 1), (5, .d (.val (.int .u64 o13.1)))], [(2, .av (.d (eA22 (List.replicate 32 (0 : Int))))), (3, .av (.d (eA209 o13.2.1))), (1011, .av (.d (.arr 1 ((o13.2.2).length) ((o13.2.2).map eI_u8))))], []⟩) ho14 (fun _ => rfl) ?_ ?_
 ·clear h ho14
  rintro ⟨z0_0, z0_1, z0_2, z0_3⟩ o h
  change F137_sha_Of_s0 n a0 z0_0 z0_1 z0_2 z0_3 = some o at h
  unfold F137_sha_Of_s0 at h
  show AW _ _ _ ⟨[(2, .ptr 2 0 []), (3, .ptr 3 0 []), (4, .slc 1011 0 ((z0_3).length) 1), (5, .d (.val (.int .u64 z0_0))), (11, .d (eL180 a0)), (12, .d (.val (.int .i64 ((a0).length : Int)))), (13, .d (.val (.int .i64 z0_1)))], [(2, .av (.d (eA22 (List.replicate 32 (0 : Int))))), (3, .av (.d (eA209 z0_2))), (1011, .av (.d (.arr 1 ((z0_3).length) ((z0_3).map eI_u8))))], []⟩
  refine aw_rs ?_
  refine .b rfl rfl rfl ?_
  refine .nil (aq_then ?_)
  refine aw_seq ?_
  refine aw_cond rfl (fun hc1 => ?_) (fun hc1 => ?_)
  ·replace h := ite_t hc1 h
   refine aw_skip ?_
   refine aq_then ?_
   refine aw_seq ?_
   refine aw_block ?_
   refine aw_rs ?_
   obtain ⟨x2, hx3, h⟩ := bind_some h
   obtain ⟨hx4, hx3⟩ := rd_some hx3
   refine .v (f_indexS (by rfl) sl180 hx4 (rd_map _ hx3)) rfl (.c rfl (.c rfl .nil)) .nil ?_
   refine .v (f_loadR (z := (eL139 x2)) (by rfl) ty139) rfl (.c rfl .nil) .nil ?_
   refine .a rfl ?_
   refine .z ?_
   refine .m rfl ?_
   refine .m rfl ?_
   refine .v (f_lenD (n := (x2).length) (by rfl) sl139 rfl (by simp)) rfl (.c rfl .nil) .nil ?_
   refine .v (f_convI (by rfl) un3 un27) rfl (.c rfl .nil) .nil ?_
   refine .b rfl rfl rfl ?_
   refine .a rfl ?_
   refine .z ?_
   refine .m rfl ?_
   refine .m rfl ?_
   obtain ⟨hb5, h⟩ := ifp h
   refine .w (f_appendC (m := ((z0_3 ++ x2)).length) (ys := (x2 : List Int).map eI_u8) (xs := (z0_3).map eI_u8) (zs := ((z0_3 ++ x2)).map eI_u8) 1015 (by rfl) el139 (by simp) (by simp) (by simp [List.map_drop]) (by simp) (Nat.le_trans (Nat.mul_le_mul_right _ hb5) (by decide)) (Nat.le_trans hb5 (by decide)) srcD) rfl (.c rfl (.c rfl .nil)) (.cons rfl .nil) (.cons rfl .nil) ?_
   refine .a rfl ?_
   refine .nil (aq_then ?_)
   refine aw_block ?_
   refine aw_weak (s' := ⟨[(2, .ptr 2 0 []), (3, .ptr 3 0 []), (4, .slc 1015 0 (((z0_3 ++ x2)).length) 1), (5, .d (.val (.int .u64 (IntKind.u64.wrap (z0_0 + (IntKind.u64.wrap ((x2).length : Int))))))), (11, .d (eL180 a0)), (12, .d (.val (.int .i64 ((a0).length : Int)))), (13, .d (.val (.int .i64 z0_1)))], [(2, .av (.d (eA22 (List.replicate 32 (0 : Int))))), (3, .av (.d (eA209 z0_2))), (1015, .av (.d (.arr 1 (((z0_3 ++ x2)).length) (((z0_3 ++ x2)).map eI_u8))))], []⟩) id hb0 (.keep rfl (.keep rfl (.keep rfl (.keep rfl (.keep rfl (.keep rfl (.keep rfl .nil))))))) (.keep rfl (.keep rfl (.keep rfl .nil))) rfl (by rfl) ?_
   obtain ⟨o11, ho12, h⟩ := bind_some h
   refine aw_loopX (σ := (List Int) × List Int) (fun z => ⟨[(2, .ptr 2 0 []), (3, .ptr 3 0 []), (4, .slc 1015 0 ((z.2).length) 1), (5, .d (.val (.int .u64 (IntKind.u64.wrap (z0_0 + (IntKind.u64.wrap ((x2).length : Int))))))), (11, .d (eL180 a0)), (12, .d (.val (.int .i64 ((a0).length : Int)))), (13, .d (.val (.int .i64 z0_1)))], [(2, .av (.d (eA22 (List.replicate 32 (0 : Int))))), (3, .av (.d (eA209 z.1))), (1015, .av (.d (.arr 1 ((z.2).length) ((z.2).map eI_u8))))], []⟩) (fun _ => (.exit 2)) (fun (o11 : (List Int) × List Int) => ⟨[(2, .ptr 2 0 []), (3, .ptr 3 0 []), (4, .slc 1015 0 ((o11.2).length) 1), (5, .d (.val (.int .u64 (IntKind.u64.wrap (z0_0 + (IntKind.u64.wrap ((x2).length : Int))))))), (11, .d (eL180 a0)), (12, .d (.val (.int .i64 ((a0).length : Int)))), (13, .d (.val (.int .i64 z0_1)))], [(2, .av (.d (eA22 (List.replicate 32 (0 : Int))))), (3, .av (.d (eA209 o11.1))), (1015, .av (.d (.arr 1 ((o11.2).length) ((o11.2).map eI_u8))))], []⟩) ho12 (fun _ => rfl) ?_ ?_
   ·clear h ho12
    rintro ⟨z1_0, z1_1⟩ o h
    change F137_sha_Of_s1 n z1_0 z1_1 = some o at h
    unfold F137_sha_Of_s1 at h
    show AW _ _ _ ⟨[(2, .ptr 2 0 []), (3, .ptr 3 0 []), (4, .slc 1015 0 ((z1_1).length) 1), (5, .d (.val (.int .u64 (IntKind.u64.wrap (z0_0 + (IntKind.u64.wrap ((x2).length : Int))))))), (11, .d (eL180 a0)), (12, .d (.val (.int .i64 ((a0).length : Int)))), (13, .d (.val (.int .i64 z0_1)))], [(2, .av (.d (eA22 (List.replicate 32 (0 : Int))))), (3, .av (.d (eA209 z1_0))), (1015, .av (.d (.arr 1 ((z1_1).length) ((z1_1).map eI_u8))))], []⟩
    refine aw_seq ?_
    refine aw_rs ?_
    refine .m rfl ?_
    refine .v (f_lenO (by rfl) sl139 rfl) rfl (.c rfl .nil) .nil ?_
    refine .b rfl rfl rfl ?_
    refine .nil (aq_then ?_)
    refine aw_cond rfl (fun hc6 => ?_) (fun hc6 => ?_)
    ·replace h := ite_t hc6 h
     refine aw_skip ?_
     refine aq_then ?_
     refine aw_seq ?_
     refine aw_block ?_
     refine aw_r ?_
     refine .m rfl ?_
     obtain ⟨hb7, h⟩ := ifp h
     refine .v (f_sliceOE (k1 := .i64) (k2 := .i64) (i := (0 : Int)) (j := (64 : Int)) (off' := 0) (len' := (((64 : Int)).toNat - ((0 : Int)).toNat)) (by rfl) sl139 (by intro hx; first | rfl | cases hx) (by intro hx; first | rfl | cases hx) hb7.1 hb7.2.1 hb7.2.2 (by simp) (by simp)) rfl (.c rfl (.c rfl .nil)) .nil ?_
     obtain ⟨y8, hy9, h⟩ := bind_some h
     refine .w (f_callH (xs := [.ptr 3 0 [], .slc 1015 0 (((64 : Int)).toNat - ((0 : Int)).toNat) 1]) (r := .res []) (hw := [(3, .av (.d (eA209 y8)))]) (fun i => bif Nat.beq i 0 then 3 else i) [(1015, (.arr 1 ((z1_1).length) ((z1_1).map eI_u8)))] hgl (by rfl) (cal_f en160) rfl (by rfl) (by rfl) (by rfl) (by rfl) (by rfl) (.cons (.same _) (.cons (.slcE (.head _) (by simp [List.map_drop, List.map_take]) (by simp <;> omega)) .nil)) rfl rfl rfl rfl (by rfl) trivial ⟨(fl_eA209 _), trivial⟩ (F160_sha_state_block_f5d_ok hy9)) rfl (.c rfl (.c rfl .nil)) (.cons rfl (.cons rfl .nil)) .nil ?_
     refine .nil ?_
     refine aq_block ?_
     refine aq_then ?_
     refine aw_r ?_
     refine .m rfl ?_
     obtain ⟨hb10, h⟩ := ifp h
     refine .v (f_sliceOE (k1 := .i64) (k2 := .i64) (i := (64 : Int)) (j := (((z1_1).length : Nat) : Int)) (off' := (0 + ((64 : Int)).toNat)) (len' := (((((z1_1).length : Nat) : Int)).toNat - ((64 : Int)).toNat)) (by rfl) sl139 (by intro hx; first | rfl | cases hx) (by intro hx; first | rfl | cases hx) hb10.1 hb10.2.1 hb10.2.2 (by simp) (by simp)) rfl (.c rfl (.c rfl .nil)) .nil ?_
     refine .a rfl ?_
     refine .nil ?_
     obtain rfl := Option.some.inj h
     refine aq_anewE (n := (z1_1).length) (m := (((z1_1).drop ((0 + ((64 : Int)).toNat)))).length) (zs := (((z1_1).drop ((0 + ((64 : Int)).toNat)))).map eI_u8) 4 1017 rfl rfl rfl (by simp [List.map_drop]) (by simp <;> omega) (by simp) ?_
     refine aq_weak (s' := ⟨[(2, .ptr 2 0 []), (3, .ptr 3 0 []), (4, .slc 1015 0 ((((z1_1).drop ((0 + ((64 : Int)).toNat)))).length) 1), (5, .d (.val (.int .u64 (IntKind.u64.wrap (z0_0 + (IntKind.u64.wrap ((x2).length : Int))))))), (11, .d (eL180 a0)), (12, .d (.val (.int .i64 ((a0).length : Int)))), (13, .d (.val (.int .i64 z0_1)))], [(2, .av (.d (eA22 (List.replicate 32 (0 : Int))))), (3, .av (.d (eA209 y8))), (1015, .av (.d (.arr 1 ((((z1_1).drop ((0 + ((64 : Int)).toNat)))).length) ((((z1_1).drop ((0 + ((64 : Int)).toNat)))).map eI_u8))))], []⟩) (fun i => (bif Nat.beq i 1015 then 1017 else i)) hb0 (.cons rfl (.cons rfl (.cons rfl (.cons rfl (.cons rfl (.cons rfl (.cons rfl .nil))))))) (.cons rfl (.cons rfl (.cons rfl .nil))) rfl (by rfl) ?_
     exact jq
    replace h := ite_f hc6 h
    refine aw_exit ?_
    refine aq_then_exit ?_
    obtain rfl := Option.some.inj h
    refine aq_weak (s' := ⟨[(2, .ptr 2 0 []), (3, .ptr 3 0 []), (4, .slc 1015 0 ((z1_1).length) 1), (5, .d (.val (.int .u64 (IntKind.u64.wrap (z0_0 + (IntKind.u64.wrap ((x2).length : Int))))))), (11, .d (eL180 a0)), (12, .d (.val (.int .i64 ((a0).length : Int)))), (13, .d (.val (.int .i64 z0_1)))], [(2, .av (.d (eA22 (List.replicate 32 (0 : Int))))), (3, .av (.d (eA209 z1_0))), (1015, .av (.d (.arr 1 ((z1_1).length) ((z1_1).map eI_u8))))], []⟩) id hb0 (.keep rfl (.keep rfl (.keep rfl (.keep rfl (.keep rfl (.keep rfl (.keep rfl .nil))))))) (.keep rfl (.keep rfl (.keep rfl .nil))) rfl (by rfl) ?_
    exact jq
   refine aq_block_exit ?_
   refine aq_block ?_
   refine aq_then ?_
   refine aw_r ?_
   refine .b rfl rfl rfl ?_
   refine .m rfl ?_
   refine .nil ?_
   obtain rfl := Option.some.inj h
   refine aq_weak (s' := ⟨[(2, .ptr 2 0 []), (3, .ptr 3 0 []), (4, .slc 1011 0 ((o11.2).length) 1), (5, .d (.val (.int .u64 (IntKind.u64.wrap (z0_0 + (IntKind.u64.wrap ((x2).length : Int))))))), (11, .d (eL180 a0)), (12, .d (.val (.int .i64 ((a0).length : Int)))), (13, .d (.val (.int .i64 (IntKind.i64.wrap (z0_1 + (1 : Int))))))], [(2, .av (.d (eA22 (List.replicate 32 (0 : Int))))), (3, .av (.d (eA209 o11.1))), (1011, .av (.d (.arr 1 ((o11.2).length) ((o11.2).map eI_u8))))], []⟩) (fun i => (bif Nat.beq i 1011 then 1015 else i)) hb0 (.cons rfl (.cons rfl (.cons rfl (.cons rfl (.cons rfl (.cons rfl (.cons rfl .nil))))))) (.cons rfl (.cons rfl (.cons rfl .nil))) rfl (by rfl) ?_
   exact jq
  replace h := ite_f hc1 h
  refine aw_exit ?_
  refine aq_then_exit ?_
  obtain rfl := Option.some.inj h
  refine aq_weak (s' := ⟨[(2, .ptr 2 0 []), (3, .ptr 3 0 []), (4, .slc 1011 0 ((z0_3).length) 1), (5, .d (.val (.int .u64 z0_0)))], [(2, .av (.d (eA22 (List.replicate 32 (0 : Int))))), (3, .av (.d (eA209 z0_2))), (1011, .av (.d (.arr 1 ((z0_3).length) ((z0_3).map eI_u8))))], []⟩) id hb0 (.keep rfl (.keep rfl (.keep rfl (.keep rfl .nil)))) (.keep rfl (.keep rfl (.keep rfl .nil))) rfl (by rfl) ?_
  exact jq
 refine aq_block_exit ?_
 refine aq_then ?_
 refine aw_rs ?_
 refine .m rfl ?_
 refine .n (f_buildS (xs := [(0, .d (.val (.int .u8 (128 : Int))))]) (z := (.val (.int .u8 (0 : Int)))) (zs := (([(128 : Int)] : List Int)).map eI_u8) 1018 (by rfl) el139 zel139 (by rfl) (by decide) (by decide) rfl (by rfl) ⟨_, _, _, rfl, pl139_0, rfl, rfl, trivial⟩ (by rfl)) rfl (.c rfl .nil) rfl ?_
 obtain ⟨hb15, h⟩ := ifp h
 refine .w (f_appendC (m := ((o13.2.2 ++ ([(128 : Int)] : List Int))).length) (ys := (([(128 : Int)] : List Int) : List Int).map eI_u8) (xs := (o13.2.2).map eI_u8) (zs := ((o13.2.2 ++ ([(128 : Int)] : List Int))).map eI_u8) 1019 (by rfl) el139 (by simp) (by simp) (by simp [List.map_drop]) (by simp) (Nat.le_trans (Nat.mul_le_mul_right _ hb15) (by decide)) (Nat.le_trans hb15 (by decide)) srcW) rfl (.c rfl (.c rfl .nil)) (.cons rfl (.cons rfl .nil)) (.cons rfl .nil) ?_
 refine .a rfl ?_
 refine .nil (aq_then ?_)
 refine aw_seq ?_
 refine aw_block ?_
 refine aw_weak (s' := ⟨[(2, .ptr 2 0 []), (3, .ptr 3 0 []), (4, .slc 1019 0 (((o13.2.2 ++ ([(128 : Int)] : List Int))).length) 1), (5, .d (.val (.int .u64 o13.1)))], [(2, .av (.d (eA22 (List.replicate 32 (0 : Int))))), (3, .av (.d (eA209 o13.2.1))), (1019, .av (.d (.arr 1 (((o13.2.2 ++ ([(128 : Int)] : List Int))).length) (((o13.2.2 ++ ([(128 : Int)] : List Int))).map eI_u8))))], []⟩) id hb0 (.keep rfl (.keep rfl (.keep rfl (.keep rfl .nil)))) (.keep rfl (.keep rfl (.keep rfl .nil))) rfl (by rfl) ?_
 obtain ⟨o18, ho19, h⟩ := bind_some h
 refine aw_loopX (σ := List Int) (fun z => ⟨[(2, .ptr 2 0 []), (3, .ptr 3 0 []), (4, .slc 1019 0 ((z).length) 1), (5, .d (.val (.int .u64 o13.1)))], [(2, .av (.d (eA22 (List.replicate 32 (0 : Int))))), (3, .av (.d (eA209 o13.2.1))), (1019, .av (.d (.arr 1 ((z).length) ((z).map eI_u8))))], []⟩) (fun _ => (.exit 4)) (fun (o18 : List Int) => ⟨[(2, .ptr 2 0 []), (3, .ptr 3 0 []), (4, .slc 1019 0 ((o18).length) 1), (5, .d (.val (.int .u64 o13.1)))], [(2, .av (.d (eA22 (List.replicate 32 (0 : Int))))), (3, .av (.d (eA209 o13.2.1))), (1019, .av (.d (.arr 1 ((o18).length) ((o18).map eI_u8))))], []⟩) ho19 (fun _ => rfl) ?_ ?_
 ·clear h ho19
  intro z2_0 o h
  change F137_sha_Of_s2  z2_0 = some o at h
  unfold F137_sha_Of_s2 at h
  show AW _ _ _ ⟨[(2, .ptr 2 0 []), (3, .ptr 3 0 []), (4, .slc 1019 0 ((z2_0).length) 1), (5, .d (.val (.int .u64 o13.1)))], [(2, .av (.d (eA22 (List.replicate 32 (0 : Int))))), (3, .av (.d (eA209 o13.2.1))), (1019, .av (.d (.arr 1 ((z2_0).length) ((z2_0).map eI_u8))))], []⟩
  refine aw_seq ?_
  refine aw_rs ?_
  refine .m rfl ?_
  refine .v (f_lenO (by rfl) sl139 rfl) rfl (.c rfl .nil) .nil ?_
  refine .v (f_binI (by rfl) (rem_ok (by decide)) (by rfl)) rfl (.c rfl (.c rfl .nil)) .nil ?_
  refine .b rfl rfl rfl ?_
  refine .nil (aq_then ?_)
  refine aw_cond rfl (fun hc16 => ?_) (fun hc16 => ?_)
  ·replace h := ite_t hc16 h
   refine aw_skip ?_
   refine aq_then ?_
   refine aw_block ?_
   refine aw_r ?_
   refine .m rfl ?_
   refine .n (f_buildS (xs := [(0, .d (.val (.int .u8 (0 : Int))))]) (z := (.val (.int .u8 (0 : Int)))) (zs := (([(0 : Int)] : List Int)).map eI_u8) 1022 (by rfl) el139 zel139 (by rfl) (by decide) (by decide) rfl (by rfl) ⟨_, _, _, rfl, pl139_0, rfl, rfl, trivial⟩ (by rfl)) rfl (.c rfl .nil) rfl ?_
   obtain ⟨hb17, h⟩ := ifp h
   refine .w (f_appendC (m := ((z2_0 ++ ([(0 : Int)] : List Int))).length) (ys := (([(0 : Int)] : List Int) : List Int).map eI_u8) (xs := (z2_0).map eI_u8) (zs := ((z2_0 ++ ([(0 : Int)] : List Int))).map eI_u8) 1023 (by rfl) el139 (by simp) (by simp) (by simp [List.map_drop]) (by simp) (Nat.le_trans (Nat.mul_le_mul_right _ hb17) (by decide)) (Nat.le_trans hb17 (by decide)) srcW) rfl (.c rfl (.c rfl .nil)) (.cons rfl (.cons rfl .nil)) (.cons rfl .nil) ?_
   refine .a rfl ?_
   refine .nil ?_
   refine aq_block ?_
   obtain rfl := Option.some.inj h
   refine aq_weak (s' := ⟨[(2, .ptr 2 0 []), (3, .ptr 3 0 []), (4, .slc 1019 0 (((z2_0 ++ ([(0 : Int)] : List Int))).length) 1), (5, .d (.val (.int .u64 o13.1)))], [(2, .av (.d (eA22 (List.replicate 32 (0 : Int))))), (3, .av (.d (eA209 o13.2.1))), (1019, .av (.d (.arr 1 (((z2_0 ++ ([(0 : Int)] : List Int))).length) (((z2_0 ++ ([(0 : Int)] : List Int))).map eI_u8))))], []⟩) (fun i => (bif Nat.beq i 1019 then 1023 else i)) hb0 (.cons rfl (.cons rfl (.cons rfl (.cons rfl .nil)))) (.cons rfl (.cons rfl (.cons rfl .nil))) rfl (by rfl) ?_
   exact jq
  replace h := ite_f hc16 h
  refine aw_exit ?_
  refine aq_then_exit ?_
  obtain rfl := Option.some.inj h
  refine aq_weak (s' := ⟨[(2, .ptr 2 0 []), (3, .ptr 3 0 []), (4, .slc 1019 0 ((z2_0).length) 1), (5, .d (.val (.int .u64 o13.1)))], [(2, .av (.d (eA22 (List.replicate 32 (0 : Int))))), (3, .av (.d (eA209 o13.2.1))), (1019, .av (.d (.arr 1 ((z2_0).length) ((z2_0).map eI_u8))))], []⟩) id hb0 (.keep rfl (.keep rfl (.keep rfl (.keep rfl .nil)))) (.keep rfl (.keep rfl (.keep rfl .nil))) rfl (by rfl) ?_
  exact jq
 refine aq_block_exit ?_
 refine aq_then ?_
 refine aw_seq ?_
 refine aw_rs ?_
 refine .a rfl ?_
 refine .nil (aq_then ?_)
 refine aw_block ?_
 refine aw_weak (s' := ⟨[(2, .ptr 2 0 []), (3, .ptr 3 0 []), (4, .slc 1019 0 ((o18).length) 1), (5, .d (.val (.int .u64 o13.1))), (8, .d (.val (.int .i64 (56 : Int))))], [(2, .av (.d (eA22 (List.replicate 32 (0 : Int))))), (3, .av (.d (eA209 o13.2.1))), (1019, .av (.d (.arr 1 ((o18).length) ((o18).map eI_u8))))], []⟩) id hb0 (.keep rfl (.keep rfl (.keep rfl (.keep rfl (.keep rfl .nil))))) (.keep rfl (.keep rfl (.keep rfl .nil))) rfl (by rfl) ?_
 obtain ⟨o23, ho24, h⟩ := bind_some h
 refine aw_loopX (σ := Int × List Int) (fun z => ⟨[(2, .ptr 2 0 []), (3, .ptr 3 0 []), (4, .slc 1019 0 ((z.2).length) 1), (5, .d (.val (.int .u64 o13.1))), (8, .d (.val (.int .i64 z.1)))], [(2, .av (.d (eA22 (List.replicate 32 (0 : Int))))), (3, .av (.d (eA209 o13.2.1))), (1019, .av (.d (.arr 1 ((z.2).length) ((z.2).map eI_u8))))], []⟩) (fun _ => (.exit 6)) (fun (o23 : List Int) => ⟨[(2, .ptr 2 0 []), (3, .ptr 3 0 []), (4, .slc 1019 0 ((o23).length) 1)], [(2, .av (.d (eA22 (List.replicate 32 (0 : Int))))), (3, .av (.d (eA209 o13.2.1))), (1019, .av (.d (.arr 1 ((o23).length) ((o23).map eI_u8))))], []⟩) ho24 (fun _ => rfl) ?_ ?_
 ·clear h ho24
  rintro ⟨z3_0, z3_1⟩ o h
  change F137_sha_Of_s3 o13 z3_0 z3_1 = some o at h
  unfold F137_sha_Of_s3 at h
  show AW _ _ _ ⟨[(2, .ptr 2 0 []), (3, .ptr 3 0 []), (4, .slc 1019 0 ((z3_1).length) 1), (5, .d (.val (.int .u64 o13.1))), (8, .d (.val (.int .i64 z3_0)))], [(2, .av (.d (eA22 (List.replicate 32 (0 : Int))))), (3, .av (.d (eA209 o13.2.1))), (1019, .av (.d (.arr 1 ((z3_1).length) ((z3_1).map eI_u8))))], []⟩
  refine aw_seq ?_
  refine aw_rs ?_
  refine .m rfl ?_
  refine .b rfl rfl rfl ?_
  refine .nil (aq_then ?_)
  refine aw_cond rfl (fun hc20 => ?_) (fun hc20 => ?_)
  ·replace h := ite_t hc20 h
   refine aw_skip ?_
   refine aq_then ?_
   refine aw_seq ?_
   refine aw_block ?_
   refine aw_r ?_
   refine .m rfl ?_
   refine .m rfl ?_
   refine .b rfl rfl rfl ?_
   refine .m rfl ?_
   obtain ⟨hz21, h⟩ := ifp h
   refine .v (f_shift (by rfl) (shr_ok hz21) (by rfl)) rfl (.c rfl (.c rfl .nil)) .nil ?_
   refine .v (f_convI (by rfl) un27 un5) rfl (.c rfl .nil) .nil ?_
   refine .n (f_buildS (xs := [(0, .d (.val (.int .u8 (IntKind.u8.wrap (shr .u64 (IntKind.u64.wrap ((8 : Int) * o13.1)) z3_0)))))]) (z := (.val (.int .u8 (0 : Int)))) (zs := (([(IntKind.u8.wrap (shr .u64 (IntKind.u64.wrap ((8 : Int) * o13.1)) z3_0))] : List Int)).map eI_u8) 1026 (by rfl) el139 zel139 (by rfl) (by decide) (by decide) rfl (by rfl) ⟨_, _, _, rfl, pl139_0, rfl, rfl, trivial⟩ (by rfl)) rfl (.c rfl .nil) rfl ?_
   obtain ⟨hb22, h⟩ := ifp h
   refine .w (f_appendC (m := ((z3_1 ++ ([(IntKind.u8.wrap (shr .u64 (IntKind.u64.wrap ((8 : Int) * o13.1)) z3_0))] : List Int))).length) (ys := (([(IntKind.u8.wrap (shr .u64 (IntKind.u64.wrap ((8 : Int) * o13.1)) z3_0))] : List Int) : List Int).map eI_u8) (xs := (z3_1).map eI_u8) (zs := ((z3_1 ++ ([(IntKind.u8.wrap (shr .u64 (IntKind.u64.wrap ((8 : Int) * o13.1)) z3_0))] : List Int))).map eI_u8) 1027 (by rfl) el139 (by simp) (by simp) (by simp [List.map_drop]) (by simp) (Nat.le_trans (Nat.mul_le_mul_right _ hb22) (by decide)) (Nat.le_trans hb22 (by decide)) srcW) rfl (.c rfl (.c rfl .nil)) (.cons rfl (.cons rfl .nil)) (.cons rfl .nil) ?_
   refine .a rfl ?_
   refine .nil ?_
   refine aq_block ?_
   refine aq_then ?_
   refine aw_r ?_
   refine .m rfl ?_
   refine .b rfl rfl rfl ?_
   refine .a rfl ?_
   refine .nil ?_
   obtain rfl := Option.some.inj h
   refine aq_weak (s' := ⟨[(2, .ptr 2 0 []), (3, .ptr 3 0 []), (4, .slc 1019 0 (((z3_1 ++ ([(IntKind.u8.wrap (shr .u64 (IntKind.u64.wrap ((8 : Int) * o13.1)) z3_0))] : List Int))).length) 1), (5, .d (.val (.int .u64 o13.1))), (8, .d (.val (.int .i64 (IntKind.i64.wrap (z3_0 - (8 : Int))))))], [(2, .av (.d (eA22 (List.replicate 32 (0 : Int))))), (3, .av (.d (eA209 o13.2.1))), (1019, .av (.d (.arr 1 (((z3_1 ++ ([(IntKind.u8.wrap (shr .u64 (IntKind.u64.wrap ((8 : Int) * o13.1)) z3_0))] : List Int))).length) (((z3_1 ++ ([(IntKind.u8.wrap (shr .u64 (IntKind.u64.wrap ((8 : Int) * o13.1)) z3_0))] : List Int))).map eI_u8))))], []⟩) (fun i => (bif Nat.beq i 1019 then 1027 else i)) hb0 (.cons rfl (.cons rfl (.cons rfl (.cons rfl (.cons rfl .nil))))) (.cons rfl (.cons rfl (.cons rfl .nil))) rfl (by rfl) ?_
   exact jq
  replace h := ite_f hc20 h
  refine aw_exit ?_
  refine aq_then_exit ?_
  obtain rfl := Option.some.inj h
  refine aq_weak (s' := ⟨[(2, .ptr 2 0 []), (3, .ptr 3 0 []), (4, .slc 1019 0 ((z3_1).length) 1)], [(2, .av (.d (eA22 (List.replicate 32 (0 : Int))))), (3, .av (.d (eA209 o13.2.1))), (1019, .av (.d (.arr 1 ((z3_1).length) ((z3_1).map eI_u8))))], []⟩) id hb0 (.keep rfl (.keep rfl (.keep rfl .nil))) (.keep rfl (.keep rfl (.keep rfl .nil))) rfl (by rfl) ?_
  exact jq
 refine aq_block_exit ?_
 refine aq_then ?_
 refine aw_seq ?_
 refine aw_block ?_
 refine aw_weak (s' := ⟨[(2, .ptr 2 0 []), (3, .ptr 3 0 []), (4, .slc 1019 0 ((o23).length) 1)], [(2, .av (.d (eA22 (List.replicate 32 (0 : Int))))), (3, .av (.d (eA209 o13.2.1))), (1019, .av (.d (.arr 1 ((o23).length) ((o23).map eI_u8))))], []⟩) id hb0 (.keep rfl (.keep rfl (.keep rfl .nil))) (.keep rfl (.keep rfl (.keep rfl .nil))) rfl (by rfl) ?_
 obtain ⟨o30, ho31, h⟩ := bind_some h
 refine aw_loopX (σ := (List Int) × List Int) (fun z => ⟨[(2, .ptr 2 0 []), (3, .ptr 3 0 []), (4, .slc 1019 0 ((z.2).length) 1)], [(2, .av (.d (eA22 (List.replicate 32 (0 : Int))))), (3, .av (.d (eA209 z.1))), (1019, .av (.d (.arr 1 ((z.2).length) ((z.2).map eI_u8))))], []⟩) (fun _ => (.exit 8)) (fun (o30 : (List Int)) => ⟨[(2, .ptr 2 0 []), (3, .ptr 3 0 [])], [(2, .av (.d (eA22 (List.replicate 32 (0 : Int))))), (3, .av (.d (eA209 o30)))], []⟩) ho31 (fun _ => rfl) ?_ ?_
 ·clear h ho31
  rintro ⟨z4_0, z4_1⟩ o h
  change F137_sha_Of_s4 n z4_0 z4_1 = some o at h
  unfold F137_sha_Of_s4 at h
  show AW _ _ _ ⟨[(2, .ptr 2 0 []), (3, .ptr 3 0 []), (4, .slc 1019 0 ((z4_1).length) 1)], [(2, .av (.d (eA22 (List.replicate 32 (0 : Int))))), (3, .av (.d (eA209 z4_0))), (1019, .av (.d (.arr 1 ((z4_1).length) ((z4_1).map eI_u8))))], []⟩
  refine aw_seq ?_
  refine aw_rs ?_
  refine .m rfl ?_
  refine .v (f_lenO (by rfl) sl139 rfl) rfl (.c rfl .nil) .nil ?_
  refine .b rfl rfl rfl ?_
  refine .nil (aq_then ?_)
  refine aw_cond rfl (fun hc25 => ?_) (fun hc25 => ?_)
  ·replace h := ite_t hc25 h
   refine aw_skip ?_
   refine aq_then ?_
   refine aw_seq ?_
   refine aw_block ?_
   refine aw_r ?_
   refine .m rfl ?_
   obtain ⟨hb26, h⟩ := ifp h
   refine .v (f_sliceOE (k1 := .i64) (k2 := .i64) (i := (0 : Int)) (j := (64 : Int)) (off' := 0) (len' := (((64 : Int)).toNat - ((0 : Int)).toNat)) (by rfl) sl139 (by intro hx; first | rfl | cases hx) (by intro hx; first | rfl | cases hx) hb26.1 hb26.2.1 hb26.2.2 (by simp) (by simp)) rfl (.c rfl (.c rfl .nil)) .nil ?_
   obtain ⟨y27, hy28, h⟩ := bind_some h
   refine .w (f_callH (xs := [.ptr 3 0 [], .slc 1019 0 (((64 : Int)).toNat - ((0 : Int)).toNat) 1]) (r := .res []) (hw := [(3, .av (.d (eA209 y27)))]) (fun i => bif Nat.beq i 0 then 3 else i) [(1019, (.arr 1 ((z4_1).length) ((z4_1).map eI_u8)))] hgl (by rfl) (cal_f en160) rfl (by rfl) (by rfl) (by rfl) (by rfl) (by rfl) (.cons (.same _) (.cons (.slcE (.head _) (by simp [List.map_drop, List.map_take]) (by simp <;> omega)) .nil)) rfl rfl rfl rfl (by rfl) trivial ⟨(fl_eA209 _), trivial⟩ (F160_sha_state_block_f5d_ok hy28)) rfl (.c rfl (.c rfl .nil)) (.cons rfl (.cons rfl .nil)) .nil ?_
   refine .nil ?_
   refine aq_block ?_
   refine aq_then ?_
   refine aw_r ?_
   refine .m rfl ?_
   obtain ⟨hb29, h⟩ := ifp h
   refine .v (f_sliceOE (k1 := .i64) (k2 := .i64) (i := (64 : Int)) (j := (((z4_1).length : Nat) : Int)) (off' := (0 + ((64 : Int)).toNat)) (len' := (((((z4_1).length : Nat) : Int)).toNat - ((64 : Int)).toNat)) (by rfl) sl139 (by intro hx; first | rfl | cases hx) (by intro hx; first | rfl | cases hx) hb29.1 hb29.2.1 hb29.2.2 (by simp) (by simp)) rfl (.c rfl (.c rfl .nil)) .nil ?_
   refine .a rfl ?_
   refine .nil ?_
   obtain rfl := Option.some.inj h
   refine aq_anewE (n := (z4_1).length) (m := (((z4_1).drop ((0 + ((64 : Int)).toNat)))).length) (zs := (((z4_1).drop ((0 + ((64 : Int)).toNat)))).map eI_u8) 4 1029 rfl rfl rfl (by simp [List.map_drop]) (by simp <;> omega) (by simp) ?_
   refine aq_weak (s' := ⟨[(2, .ptr 2 0 []), (3, .ptr 3 0 []), (4, .slc 1019 0 ((((z4_1).drop ((0 + ((64 : Int)).toNat)))).length) 1)], [(2, .av (.d (eA22 (List.replicate 32 (0 : Int))))), (3, .av (.d (eA209 y27))), (1019, .av (.d (.arr 1 ((((z4_1).drop ((0 + ((64 : Int)).toNat)))).length) ((((z4_1).drop ((0 + ((64 : Int)).toNat)))).map eI_u8))))], []⟩) (fun i => (bif Nat.beq i 1019 then 1029 else i)) hb0 (.cons rfl (.cons rfl (.cons rfl .nil))) (.cons rfl (.cons rfl (.cons rfl .nil))) rfl (by rfl) ?_
   exact jq
  replace h := ite_f hc25 h
  refine aw_exit ?_
  refine aq_then_exit ?_
  obtain rfl := Option.some.inj h
  refine aq_weak (s' := ⟨[(2, .ptr 2 0 []), (3, .ptr 3 0 [])], [(2, .av (.d (eA22 (List.replicate 32 (0 : Int))))), (3, .av (.d (eA209 z4_0)))], []⟩) id hb0 (.keep rfl (.keep rfl .nil)) (.keep rfl (.keep rfl .nil)) rfl (by rfl) ?_
  exact jq
 refine aq_block_exit ?_
 refine aq_then ?_
 refine aw_seq ?_
 refine aw_rs ?_
 refine .m rfl ?_
 refine .nil (aq_then ?_)
 refine aw_block ?_
 refine aw_weak (s' := ⟨[(2, .ptr 2 0 []), (3, .ptr 3 0 []), (64, .d (.val (.int .i64 (0 : Int))))], [(2, .av (.d (eA22 (List.replicate 32 (0 : Int))))), (3, .av (.d (eA209 o30)))], []⟩) id hb0 (.keep rfl (.keep rfl (.keep rfl .nil))) (.keep rfl (.keep rfl .nil)) rfl (by rfl) ?_
 obtain ⟨o40, ho41, h⟩ := bind_some h
 refine aw_loopX (σ := Int × (List Int)) (fun z => ⟨[(2, .ptr 2 0 []), (3, .ptr 3 0 []), (64, .d (.val (.int .i64 z.1)))], [(2, .av (.d (eA22 z.2))), (3, .av (.d (eA209 o30)))], []⟩) (fun _ => (.exit 10)) (fun (o40 : (List Int)) => ⟨[(2, .ptr 2 0 [])], [(2, .av (.d (eA22 o40)))], []⟩) ho41 (fun _ => rfl) ?_ ?_
 ·clear h ho41
  rintro ⟨z5_0, z5_1⟩ o h
  change F137_sha_Of_s5 o30 z5_0 z5_1 = some o at h
  unfold F137_sha_Of_s5 at h
  show AW _ _ _ ⟨[(2, .ptr 2 0 []), (3, .ptr 3 0 []), (64, .d (.val (.int .i64 z5_0)))], [(2, .av (.d (eA22 z5_1))), (3, .av (.d (eA209 o30)))], []⟩
  refine aw_rs ?_
  refine .b rfl rfl rfl ?_
  refine .nil (aq_then ?_)
  refine aw_seq ?_
  refine aw_cond rfl (fun hc32 => ?_) (fun hc32 => ?_)
  ·replace h := ite_t hc32 h
   refine aw_skip ?_
   refine aq_then ?_
   refine aw_seq ?_
   refine aw_block ?_
   refine aw_rs ?_
   refine .m rfl ?_
   refine .a rfl ?_
   refine .nil (aq_then ?_)
   refine aw_r ?_
   refine .m rfl ?_
   refine .m rfl ?_
   refine .v (f_binI (by rfl) (quo_ok (by decide)) (by rfl)) rfl (.c rfl (.c rfl .nil)) .nil ?_
   obtain ⟨x33, hx34, h⟩ := bind_some h
   obtain ⟨hx35, hx34⟩ := rd_some hx34
   refine .v (f_indexO (by rfl) ar210 rfl hx35 (rd_map _ hx34)) rfl (.c rfl (.c rfl .nil)) (.cons rfl .nil) ?_
   refine .v (f_load (n := 0) (o := 3) (off := (0 + ((IntKind.i64.wrap (Int.tdiv z5_0 (4 : Int)))).toNat * 1)) (p := [((IntKind.i64.wrap (Int.tdiv z5_0 (4 : Int)))).toNat]) (c := .d (eA209 o30)) (z := .d (.val (.int .u32 x33))) (by rfl) (at_map _ hx34 (by simp)) ty208 (by rfl)) rfl (.c rfl .nil) (.cons rfl .nil) ?_
   refine .m rfl ?_
   refine .v (f_binI (by rfl) (rem_ok (by decide)) (by rfl)) rfl (.c rfl (.c rfl .nil)) .nil ?_
   refine .b rfl rfl rfl ?_
   refine .b rfl rfl rfl ?_
   obtain ⟨hz36, h⟩ := ifp h
   refine .v (f_shift (by rfl) (shr_ok hz36) (by rfl)) rfl (.c rfl (.c rfl .nil)) .nil ?_
   refine .v (f_convI (by rfl) un208 un5) rfl (.c rfl .nil) .nil ?_
   obtain ⟨x37, hx38, h⟩ := bind_some h
   obtain ⟨hx39, hx38⟩ := rd_some hx38
   refine .v (f_indexO (by rfl) ar23 rfl hx39 (rd_map _ hx38)) rfl (.c rfl (.c rfl .nil)) (.cons rfl .nil) ?_
   refine .s (f_store (n := 0) (o := 2) (off := (0 + (z5_0).toNat * 1)) (p := [(z5_0).toNat]) (c := .d (eA22 z5_1)) (old := .d (.val (.int .u8 x37))) (z := .d (.val (.int .u8 (IntKind.u8.wrap (shr .u32 x33 (IntKind.i64.wrap ((24 : Int) - (IntKind.i64.wrap ((8 : Int) * (Int.tmod z5_0 (4 : Int))))))))))) (c' := .d (eA22 (z5_1.set (z5_0).toNat (IntKind.u8.wrap (shr .u32 x33 (IntKind.i64.wrap ((24 : Int) - (IntKind.i64.wrap ((8 : Int) * (Int.tmod z5_0 (4 : Int))))))))))) (at_map _ hx38 (by simp)) (put_map _ hx38) (by rfl) ty5 (by rfl)) rfl (.c rfl (.c rfl .nil)) (.cons rfl .nil) ?_
   refine .nil ?_
   refine aq_block ?_
   refine aq_then ?_
   refine aw_r ?_
   refine .b rfl rfl rfl ?_
   refine .m rfl ?_
   refine .nil ?_
   obtain rfl := Option.some.inj h
   refine aq_weak (s' := ⟨[(2, .ptr 2 0 []), (3, .ptr 3 0 []), (64, .d (.val (.int .i64 (IntKind.i64.wrap (z5_0 + (1 : Int))))))], [(2, .av (.d (eA22 (z5_1.set (z5_0).toNat (IntKind.u8.wrap (shr .u32 x33 (IntKind.i64.wrap ((24 : Int) - (IntKind.i64.wrap ((8 : Int) * (Int.tmod z5_0 (4 : Int)))))))))))), (3, .av (.d (eA209 o30)))], []⟩) id hb0 (.keep rfl (.keep rfl (.keep rfl .nil))) (.keep rfl (.keep rfl .nil)) rfl (by rfl) ?_
   exact jq
  replace h := ite_f hc32 h
  refine aw_exit ?_
  refine aq_then_exit ?_
  obtain rfl := Option.some.inj h
  refine aq_weak (s' := ⟨[(2, .ptr 2 0 [])], [(2, .av (.d (eA22 z5_1)))], []⟩) id hb0 (.keep rfl .nil) (.keep rfl .nil) rfl (by rfl) ?_
  exact jq
 refine aq_block_exit ?_
 refine aq_then ?_
 refine aw_rs ?_
 refine .l 2 0 [] (.d (eA22 o40)) (.d (eA22 o40)) ty23 ?_
 refine .s (f_store (n := 0) (o := 2) (off := 0) (p := []) (c := .d (eA22 o40)) (old := .d (eA22 o40)) (z := .d (eA22 o40)) (c' := .d (eA22 o40)) rfl rfl (by rfl) ty23 (by rfl)) rfl (.c rfl (.c rfl .nil)) (.cons rfl .nil) ?_
 refine .nil (aq_then ?_)
 refine aw_ret ?_
 obtain rfl := Option.some.inj h
 exact aq_finp hb0 rfl (.cell rfl rfl ty23 (by rfl) .nil) (by rfl) rfl ⟨rfl, rfl⟩

/- 133: beadroll/num.End -/
def F133_num_End (n : Nat) (a0 : (List Int)) : Option (Int) :=
  (if (decide (((a0).length : Int) > (0 : Int))) = true then some (11 : Int) else some (0 : Int))
theorem F133_num_End_ok {n : Nat} {a0 : (List Int)} {r : Int} (h : F133_num_End n a0 = some r) :
    ACall Tryd.prog GS 133 [.d (eL139 a0)] [] (fun r' hp' => r' = .d (.val (.int .i64 r)) ∧ hp' = []) := by
 refine acall_of_body mixed Tryd.func133 rfl (by rfl) ?_
 intro C hro hgl hb0
 unfold F133_num_End at h
 refine aw_rs ?_
 refine .a rfl ?_
 refine .nil (aq_then ?_)
 refine aw_seq ?_
 refine aw_rs ?_
 refine .m rfl ?_
 refine .v (f_lenD (n := (a0).length) (by rfl) sl139 rfl (by simp)) rfl (.c rfl .nil) .nil ?_
 refine .b rfl rfl rfl ?_
 refine .nil (aq_then ?_)
 refine aw_cond rfl (fun hc1 => ?_) (fun hc1 => ?_)
 ·replace h := ite_t hc1 h
  refine aw_rs ?_
  refine .a rfl ?_
  refine .nil (aq_then ?_)
  refine aw_ret ?_
  refine aq_then_ret ?_
  obtain rfl := Option.some.inj h
  exact aq_finp hb0 rfl (.tmp rfl (by rfl) .nil) (by rfl) rfl ⟨rfl, rfl⟩
 replace h := ite_f hc1 h
 refine aw_skip ?_
 refine aq_then ?_
 refine aw_rs ?_
 refine .a rfl ?_
 refine .nil (aq_then ?_)
 refine aw_ret ?_
 obtain rfl := Option.some.inj h
 exact aq_finp hb0 rfl (.tmp rfl (by rfl) .nil) (by rfl) rfl ⟨rfl, rfl⟩

/- 130: beadroll/tree.find -/
def F130_tree_find_s0 (n : Nat) (a0 : GTree) (a1 : (List Int)) (z0_0 : Int) (z0_1 : Int) : Option ((Int × Int) ⊕ ((Unit) ⊕ (Int))) :=
  (if (decide (z0_0 > (0 : Int))) = true then ((rd a0.Nodes (IntKind.i64.wrap (z0_0 - (1 : Int)))).bind fun (x2 : GNode) => (if x2.Leaf = true then (if (decide (x2.Key = a1)) = true then some (.inr (.inr z0_0)) else some (.inr (.inr (0 : Int)))) else ((F155_tree_roads n x2).bind fun (y7 : (List Int)) => ((F156_tree_bit n a1 z0_1).bind fun (y9 : Int) => ((rd y7 y9).bind fun (x11 : Int) => some (.inl (x11, (IntKind.i64.wrap (z0_1 + (1 : Int)))))))))) else some (.inr (.inl ())))
def F130_tree_find (n : Nat) (a0 : GTree) (a1 : (List Int)) : Option (Int) :=
  ((loopF (fun (z : Int × Int) => F130_tree_find_s0 n a0 a1 z.1 z.2) n (a0.Root, (0 : Int))).bind (Sum.elim (fun (j14 : Unit) => some (0 : Int)) (fun (j14 : Int) => some j14)))
theorem F130_tree_find_ok {n : Nat} {a0 : GTree} {a1 : (List Int)} {r : Int} (h : F130_tree_find n a0 a1 = some r) :
    ACall Tryd.prog GS 130 [.d (eGTree a0), .d (eA22 a1)] [] (fun r' hp' => r' = .d (.val (.int .i64 r)) ∧ hp' = []) := by
 refine acall_of_body mixed Tryd.func130 rfl (by rfl) ?_
 intro C hro hgl hb0
 unfold F130_tree_find at h
 refine aw_rs ?_
 refine .n (f_box 2 (by rfl) (by rfl)) rfl (.c rfl .nil) rfl ?_
 refine .n (f_box 3 (by rfl) (by rfl)) rfl (.c rfl .nil) rfl ?_
 refine .a rfl ?_
 refine .z ?_
 refine .v (f_fieldAddr (n := 1) (by rfl) fl90_1 (by decide)) rfl (.c rfl .nil) .nil ?_
 refine .l 2 (0 + 1) [1] (.d (eGTree a0)) (.d (.val (.int .i64 a0.Root))) ty3 ?_
 refine .a rfl ?_
 refine .nil (aq_then ?_)
 refine aw_seq ?_
 refine aw_rs ?_
 refine .a rfl ?_
 refine .nil (aq_then ?_)
 refine aw_block ?_
 refine aw_weak (s' := ⟨[(2, .ptr 2 0 []), (3, .ptr 3 0 []), (5, .d (.val (.int .i64 a0.Root))), (6, .d (.val (.int .i64 (0 : Int))))], [(2, .av (.d (eGTree a0))), (3, .av (.d (eA22 a1)))], []⟩) id hb0 (.keep rfl (.keep rfl (.keep rfl (.keep rfl .nil)))) (.keep rfl (.keep rfl .nil)) rfl (by rfl) ?_
 obtain ⟨o14, ho15, h⟩ := bind_some h
 refine aw_loopX (σ := Int × Int) (fun z => ⟨[(2, .ptr 2 0 []), (3, .ptr 3 0 []), (5, .d (.val (.int .i64 z.1))), (6, .d (.val (.int .i64 z.2)))], [(2, .av (.d (eGTree a0))), (3, .av (.d (eA22 a1)))], []⟩) (Sum.elim (fun _ => .exit 0) (fun _ => .ret)) (Sum.elim (fun j14 => ⟨[], [], []⟩) (fun j14 => ⟨[(4, .d (.val (.int .i64 j14)))], [], []⟩)) ho15 (by intro b; rcases b with _ | _ <;> rfl) ?_ ?_
 ·clear h ho15
  rintro ⟨z0_0, z0_1⟩ o h
  change F130_tree_find_s0 n a0 a1 z0_0 z0_1 = some o at h
  unfold F130_tree_find_s0 at h
  show AW _ _ _ ⟨[(2, .ptr 2 0 []), (3, .ptr 3 0 []), (5, .d (.val (.int .i64 z0_0))), (6, .d (.val (.int .i64 z0_1)))], [(2, .av (.d (eGTree a0))), (3, .av (.d (eA22 a1)))], []⟩
  refine aw_seq ?_
  refine aw_rs ?_
  refine .m rfl ?_
  refine .b rfl rfl rfl ?_
  refine .nil (aq_then ?_)
  refine aw_cond rfl (fun hc1 => ?_) (fun hc1 => ?_)
  ·replace h := ite_t hc1 h
   refine aw_skip ?_
   refine aq_then ?_
   refine aw_seq ?_
   refine aw_block ?_
   refine aw_rs ?_
   refine .v (f_fieldAddr (n := 0) (by rfl) fl90_0 (by decide)) rfl (.c rfl .nil) .nil ?_
   refine .l 2 (0 + 0) [0] (.d (eGTree a0)) (.d (eL88 a0.Nodes)) ty88 ?_
   refine .m rfl ?_
   refine .b rfl rfl rfl ?_
   obtain ⟨x2, hx3, h⟩ := bind_some h
   obtain ⟨hx4, hx3⟩ := rd_some hx3
   refine .v (f_indexS (by rfl) sl88 hx4 (rd_map _ hx3)) rfl (.c rfl (.c rfl .nil)) .nil ?_
   refine .v (f_loadR (z := (eGNode x2)) (by rfl) ty141) rfl (.c rfl .nil) .nil ?_
   refine .n (f_alloc 7 (by rfl) zrv141) rfl .nil rfl ?_
   refine .s (f_store (n := 0) (o := 7) (off := 0) (p := []) (c := .st [.d (.val (.bool false)), .d (eA22 (List.replicate 32 (0 : Int))), .d (.val (.slice none 0 0)), .d (.val (.int .i64 (0 : Int))), .d (.val (.int .i64 (0 : Int)))]) (old := .st [.d (.val (.bool false)), .d (eA22 (List.replicate 32 (0 : Int))), .d (.val (.slice none 0 0)), .d (.val (.int .i64 (0 : Int))), .d (.val (.int .i64 (0 : Int)))]) (z := .d (eGNode x2)) (c' := .d (eGNode x2)) rfl rfl (by rfl) ty141 (by rfl)) rfl (.c rfl (.c rfl .nil)) (.cons rfl .nil) ?_
   refine .nil (aq_then ?_)
   refine aw_seq ?_
   refine aw_rs ?_
   refine .v (f_fieldAddr (n := 0) (by rfl) fl141_0 (by decide)) rfl (.c rfl .nil) .nil ?_
   refine .l 7 (0 + 0) [0] (.d (eGNode x2)) (.d (.val (.bool x2.Leaf))) ty4 ?_
   refine .nil (aq_then ?_)
   refine aw_cond rfl (fun hc5 => ?_) (fun hc5 => ?_)
   ·replace h := ite_t hc5 h
    refine aw_seq ?_
    refine aw_rs ?_
    refine .v (f_fieldAddr (n := 1) (by rfl) fl141_1 (by decide)) rfl (.c rfl .nil) .nil ?_
    refine .l 7 (0 + 1) [1] (.d (eGNode x2)) (.d (eA22 x2.Key)) ty23 ?_
    refine .l 3 0 [] (.d (eA22 a1)) (.d (eA22 a1)) ty23 ?_
    refine .v (f_eqlT (by rfl) (fit23 _) (fit23 _) (by rfl) (by rfl) gd23 (eq_eA22 _ _)) rfl (.c rfl (.c rfl .nil)) .nil ?_
    refine .nil (aq_then ?_)
    refine aw_cond rfl (fun hc6 => ?_) (fun hc6 => ?_)
    ·replace h := ite_t hc6 h
     refine aw_rs ?_
     refine .m rfl ?_
     refine .a rfl ?_
     refine .nil (aq_then ?_)
     refine aw_ret ?_
     refine aq_then_ret ?_
     refine aq_then_ret ?_
     refine aq_block_ret ?_
     refine aq_then_ret ?_
     obtain rfl := Option.some.inj h
     refine aq_weak (s' := ⟨[(4, .d (.val (.int .i64 z0_0)))], [], []⟩) id hb0 (.keep rfl .nil) .nil rfl (by rfl) ?_
     exact jq
    replace h := ite_f hc6 h
    refine aw_skip ?_
    refine aq_then ?_
    refine aw_rs ?_
    refine .a rfl ?_
    refine .nil (aq_then ?_)
    refine aw_ret ?_
    refine aq_then_ret ?_
    refine aq_block_ret ?_
    refine aq_then_ret ?_
    obtain rfl := Option.some.inj h
    refine aq_weak (s' := ⟨[(4, .d (.val (.int .i64 (0 : Int))))], [], []⟩) id hb0 (.keep rfl .nil) .nil rfl (by rfl) ?_
    exact jq
   replace h := ite_f hc5 h
   refine aw_skip ?_
   refine aq_then ?_
   refine aw_rd ?_
   refine .v (f_load (n := 0) (o := 7) (off := 0) (p := []) (c := .d (eGNode x2)) (z := .d (eGNode x2)) (by rfl) rfl ty141 (by rfl)) rfl (.c rfl .nil) (.cons rfl .nil) ?_
   obtain ⟨y7, hy8, h⟩ := bind_some h
   refine .v (f_callP hgl (by rfl) en155 rfl (by rfl) (by rfl) (by rfl) (F155_tree_roads_ok hy8)) rfl (.c rfl .nil) .nil ?_
   refine .v (f_load (n := 0) (o := 3) (off := 0) (p := []) (c := .d (eA22 a1)) (z := .d (eA22 a1)) (by rfl) rfl ty23 (by rfl)) rfl (.c rfl .nil) (.cons rfl .nil) ?_
   refine .v (f_move (by rfl)) rfl (.c rfl .nil) .nil ?_
   obtain ⟨y9, hy10, h⟩ := bind_some h
   refine .v (f_callP hgl (by rfl) en156 rfl (by rfl) (by rfl) (by rfl) (F156_tree_bit_ok hy10)) rfl (.c rfl (.c rfl .nil)) .nil ?_
   obtain ⟨x11, hx12, h⟩ := bind_some h
   obtain ⟨hx13, hx12⟩ := rd_some hx12
   refine .v (f_indexV (z := (.val (.int .i64 x11))) (by rfl) uda200 ty3 hx13 (rd_map eI_i64 hx12)) rfl (.c rfl (.c rfl .nil)) .nil ?_
   refine .v (f_assign (by rfl)) rfl (.c rfl .nil) .nil ?_
   refine .nil (by kernel_rfl) ?_
   refine aq_block ?_
   refine aq_then ?_
   refine aw_r ?_
   refine .m rfl ?_
   refine .b rfl rfl rfl ?_
   refine .a rfl ?_
   refine .nil ?_
   obtain rfl := Option.some.inj h
   refine aq_weak (s' := ⟨[(2, .ptr 2 0 []), (3, .ptr 3 0 []), (5, .d (.val (.int .i64 x11))), (6, .d (.val (.int .i64 (IntKind.i64.wrap (z0_1 + (1 : Int))))))], [(2, .av (.d (eGTree a0))), (3, .av (.d (eA22 a1)))], []⟩) id hb0 (.keep rfl (.keep rfl (.keep rfl (.keep rfl .nil)))) (.keep rfl (.keep rfl .nil)) rfl (by rfl) ?_
   exact jq
  replace h := ite_f hc1 h
  refine aw_exit ?_
  refine aq_then_exit ?_
  obtain rfl := Option.some.inj h
  refine aq_weak (s' := ⟨[], [], []⟩) id hb0 .nil .nil rfl (by rfl) ?_
  exact jq
 rcases o14 with j14 | j14
 ·replace h := elim_l h
  refine aq_block_exit ?_
  refine aq_then ?_
  refine aw_rs ?_
  refine .a rfl ?_
  refine .nil (aq_then ?_)
  refine aw_ret ?_
  obtain rfl := Option.some.inj h
  exact aq_finp hb0 rfl (.tmp rfl (by rfl) .nil) (by rfl) rfl ⟨rfl, rfl⟩
 replace h := elim_r h
 refine aq_block_ret ?_
 refine aq_then_ret ?_
 obtain rfl := Option.some.inj h
 exact aq_finp hb0 rfl (.tmp rfl (by rfl) .nil) (by rfl) rfl ⟨rfl, rfl⟩

/- 123: beadroll/path.apart -/
def F123_path_apart (n : Nat) (a0 : (List Int)) (a1 : (List Int)) : Option ((List Int) × (List Int)) :=
  some (a0, a1)
/- 139: beadroll/tx.put[beadroll/api.Digest] -/
def F139_api_Digest_70f_s0 (n : Nat) (a0 : (List (List Int))) (z0_0 : Int) (z0_1 : List Int) : Option ((Int × List Int) ⊕ (List Int)) :=
  (if (decide (z0_0 < ((a0).length : Int))) = true then ((rd a0 z0_0).bind fun (x2 : (List Int)) => ((F140_tx_Body_1 n x2).bind fun (y5 : (List Int)) => (if ((z0_1 ++ y5)).length ≤ 1073741824 then some (.inl ((IntKind.i64.wrap (z0_0 + (1 : Int))), (z0_1 ++ y5))) else none))) else some (.inr z0_1))
def F139_api_Digest_70f (n : Nat) (a0 : (List (List Int))) : Option (List Int) :=
  ((loopF (fun (z : Int × List Int) => F139_api_Digest_70f_s0 n a0 z.1 z.2) n ((0 : Int), ([] : List Int))).bind fun (o8 : List Int) => some o8)
theorem F139_api_Digest_70f_ok {n : Nat} {a0 : (List (List Int))} {r : List Int} (h : F139_api_Digest_70f n a0 = some r) :
    ACall Tryd.prog GS 139 [.d (.val (.slice none 0 0)), .d (eL184 a0), .fn (.func 140) [] []] [] (fun r' hp' => r' = .slc 1034 0 ((r).length) 1 ∧ hp' = [(1034, .av (.d (.arr 1 ((r).length) ((r).map eI_u8))))]) := by
 refine acall_of_body mixed Tryd.func139 rfl (by rfl) ?_
 intro C hro hgl hb0
 unfold F139_api_Digest_70f at h
 refine aw_rs ?_
 refine .a rfl ?_
 refine .nil (aq_then ?_)
 refine aw_seq ?_
 refine aw_rs ?_
 refine .m rfl ?_
 refine .v (f_lenD (n := (a0).length) (by rfl) sl184 rfl (by simp)) rfl (.c rfl .nil) .nil ?_
 refine .m rfl ?_
 refine .nil (aq_then ?_)
 refine aw_block ?_
 refine aw_adopt 0 1034 1 rfl rfl ?_
 refine aw_weak (s' := ⟨[(0, .slc 1034 0 ((([] : List Int)).length) 1), (2, .fn (.func 140) [] []), (9, .d (eL184 a0)), (10, .d (.val (.int .i64 ((a0).length : Int)))), (11, .d (.val (.int .i64 (0 : Int))))], [(1034, .av (.d (.arr 1 ((([] : List Int)).length) ((([] : List Int)).map eI_u8))))], []⟩) id hb0 (.keep (by simp only [List.length_set]; rfl) (.keep rfl (.keep rfl (.keep rfl (.keep rfl .nil))))) (.keep (by simp only [List.length_set]; rfl) .nil) rfl (by rfl) ?_
 obtain ⟨o8, ho9, h⟩ := bind_some h
 refine aw_loopX (σ := Int × List Int) (fun z => ⟨[(0, .slc 1034 0 ((z.2).length) 1), (2, .fn (.func 140) [] []), (9, .d (eL184 a0)), (10, .d (.val (.int .i64 ((a0).length : Int)))), (11, .d (.val (.int .i64 z.1)))], [(1034, .av (.d (.arr 1 ((z.2).length) ((z.2).map eI_u8))))], []⟩) (fun _ => (.exit 0)) (fun (o8 : List Int) => ⟨[(0, .slc 1034 0 ((o8).length) 1)], [(1034, .av (.d (.arr 1 ((o8).length) ((o8).map eI_u8))))], []⟩) ho9 (fun _ => rfl) ?_ ?_
 ·clear h ho9
  rintro ⟨z0_0, z0_1⟩ o h
  change F139_api_Digest_70f_s0 n a0 z0_0 z0_1 = some o at h
  unfold F139_api_Digest_70f_s0 at h
  show AW _ _ _ ⟨[(0, .slc 1034 0 ((z0_1).length) 1), (2, .fn (.func 140) [] []), (9, .d (eL184 a0)), (10, .d (.val (.int .i64 ((a0).length : Int)))), (11, .d (.val (.int .i64 z0_0)))], [(1034, .av (.d (.arr 1 ((z0_1).length) ((z0_1).map eI_u8))))], []⟩
  refine aw_rs ?_
  refine .b rfl rfl rfl ?_
  refine .nil (aq_then ?_)
  refine aw_seq ?_
  refine aw_cond rfl (fun hc1 => ?_) (fun hc1 => ?_)
  ·replace h := ite_t hc1 h
   refine aw_skip ?_
   refine aq_then ?_
   refine aw_seq ?_
   refine aw_block ?_
   refine aw_rs ?_
   obtain ⟨x2, hx3, h⟩ := bind_some h
   obtain ⟨hx4, hx3⟩ := rd_some hx3
   refine .v (f_indexS (by rfl) sl184 hx4 (rd_map _ hx3)) rfl (.c rfl (.c rfl .nil)) .nil ?_
   refine .v (f_loadR (z := (eA22 x2)) (by rfl) ty23) rfl (.c rfl .nil) .nil ?_
   refine .n (f_alloc 8 (by rfl) zr23) rfl .nil rfl ?_
   refine .s (f_store (n := 0) (o := 8) (off := 0) (p := []) (c := .d (eA22 (List.replicate 32 (0 : Int)))) (old := .d (eA22 (List.replicate 32 (0 : Int)))) (z := .d (eA22 x2)) (c' := .d (eA22 x2)) rfl rfl (by rfl) ty23 (by rfl)) rfl (.c rfl (.c rfl .nil)) (.cons rfl .nil) ?_
   refine .nil (aq_then ?_)
   refine aw_r ?_
   refine .m rfl ?_
   refine .m rfl ?_
   refine .l 8 0 [] (.d (eA22 x2)) (.d (eA22 x2)) ty23 ?_
   obtain ⟨y5, hy6, h⟩ := bind_some h
   refine .w (f_callG0 (xs := [.d (eA22 x2)]) (r := .d (eL139 y5)) (fun i => i) [] hgl (by rfl) (cal_v (first := []) (caps := []) en140) rfl (by rfl) (by rfl) (by rfl) (by rfl) (.cons (.same _) .nil) rfl rfl (F140_tx_Body_1_ok hy6)) rfl (.c rfl (.c rfl .nil)) .nil .nil ?_
   obtain ⟨hb7, h⟩ := ifp h
   refine .w (f_appendC (m := ((z0_1 ++ y5)).length) (ys := (y5 : List Int).map eI_u8) (xs := (z0_1).map eI_u8) (zs := ((z0_1 ++ y5)).map eI_u8) 1036 (by rfl) el139 (by simp) (by simp) (by simp [List.map_drop]) (by simp) (Nat.le_trans (Nat.mul_le_mul_right _ hb7) (by decide)) (Nat.le_trans hb7 (by decide)) srcD) rfl (.c rfl (.c rfl .nil)) (.cons rfl .nil) (.cons rfl .nil) ?_
   refine .a rfl ?_
   refine .nil ?_
   refine aq_block ?_
   refine aq_then ?_
   refine aw_r ?_
   refine .b rfl rfl rfl ?_
   refine .m rfl ?_
   refine .nil ?_
   obtain rfl := Option.some.inj h
   refine aq_weak (s' := ⟨[(0, .slc 1034 0 (((z0_1 ++ y5)).length) 1), (2, .fn (.func 140) [] []), (9, .d (eL184 a0)), (10, .d (.val (.int .i64 ((a0).length : Int)))), (11, .d (.val (.int .i64 (IntKind.i64.wrap (z0_0 + (1 : Int))))))], [(1034, .av (.d (.arr 1 (((z0_1 ++ y5)).length) (((z0_1 ++ y5)).map eI_u8))))], []⟩) (fun i => (bif Nat.beq i 1034 then 1036 else i)) hb0 (.cons rfl (.cons rfl (.cons rfl (.cons rfl (.cons rfl .nil))))) (.cons rfl .nil) rfl (by rfl) ?_
   exact jq
  replace h := ite_f hc1 h
  refine aw_exit ?_
  refine aq_then_exit ?_
  obtain rfl := Option.some.inj h
  refine aq_weak (s' := ⟨[(0, .slc 1034 0 ((z0_1).length) 1)], [(1034, .av (.d (.arr 1 ((z0_1).length) ((z0_1).map eI_u8))))], []⟩) id hb0 (.keep rfl .nil) (.keep rfl .nil) rfl (by rfl) ?_
  exact jq
 refine aq_block_exit ?_
 refine aq_then ?_
 refine aw_rs ?_
 refine .m rfl ?_
 refine .a rfl ?_
 refine .nil (aq_then ?_)
 refine aw_ret ?_
 obtain rfl := Option.some.inj h
 refine aq_weak (s' := ⟨[(6, .slc 1034 0 ((o8).length) 1)], [(1034, .av (.d (.arr 1 ((o8).length) ((o8).map eI_u8))))], []⟩) id hb0 (.keep rfl .nil) (.keep rfl .nil) rfl (by rfl) ?_
 exact aq_fin1 (.tmp rfl (by rfl) .nil) rfl ⟨rfl, rfl⟩

/- 141: beadroll/tx.put[uint64] -/
def F141_tx_put_129_s0 (n : Nat) (a0 : (List Int)) (z0_0 : Int) (z0_1 : List Int) : Option ((Int × List Int) ⊕ (List Int)) :=
  (if (decide (z0_0 < ((a0).length : Int))) = true then ((rd a0 z0_0).bind fun (x2 : Int) => ((F142_tx_Body_2 n x2).bind fun (y5 : (List Int)) => (if ((z0_1 ++ y5)).length ≤ 1073741824 then some (.inl ((IntKind.i64.wrap (z0_0 + (1 : Int))), (z0_1 ++ y5))) else none))) else some (.inr z0_1))
def F141_tx_put_129 (n : Nat) (a0 : (List Int)) (a1 : (List Int)) : Option (List Int) :=
  ((loopF (fun (z : Int × List Int) => F141_tx_put_129_s0 n a0 z.1 z.2) n ((0 : Int), a1)).bind fun (o8 : List Int) => some o8)
theorem F141_tx_put_129_ok {n : Nat} {a0 : (List Int)} {a1 : (List Int)} {r : List Int} (h : F141_tx_put_129 n a0 a1 = some r) :
    ACall Tryd.prog GS 141 [.slc 0 0 ((a1).length) 1, .d (eL187 a0), .fn (.func 142) [] []] [(0, .av (.d (.arr 1 ((a1).length) ((a1).map eI_u8))))] (fun r' hp' => r' = .slc 1040 0 ((r).length) 1 ∧ hp' = [(1040, .av (.d (.arr 1 ((r).length) ((r).map eI_u8)))), (0, .dead)]) := by
 refine acall_of_body mixed Tryd.func141 rfl (by rfl) ?_
 intro C hro hgl hb0
 unfold F141_tx_put_129 at h
 refine aw_rs ?_
 refine .a rfl ?_
 refine .nil (aq_then ?_)
 refine aw_seq ?_
 refine aw_rs ?_
 refine .m rfl ?_
 refine .v (f_lenD (n := (a0).length) (by rfl) sl187 rfl (by simp)) rfl (.c rfl .nil) .nil ?_
 refine .m rfl ?_
 refine .nil (aq_then ?_)
 refine aw_block ?_
 refine aw_anewE (n := (a1).length) (m := (a1).length) (zs := (a1).map eI_u8) 0 1040 rfl rfl rfl (by simp [List.map_drop]) (by simp <;> omega) rfl ?_
 refine aw_weak (s' := ⟨[(0, .slc 1040 0 ((a1).length) 1), (2, .fn (.func 142) [] []), (9, .d (eL187 a0)), (10, .d (.val (.int .i64 ((a0).length : Int)))), (11, .d (.val (.int .i64 (0 : Int))))], [(1040, .av (.d (.arr 1 ((a1).length) ((a1).map eI_u8)))), (0, .dead)], []⟩) id hb0 (.keep rfl (.keep rfl (.keep rfl (.keep rfl (.keep rfl .nil))))) (.keep rfl (.keepH rfl .nil)) rfl (by rfl) ?_
 obtain ⟨o8, ho9, h⟩ := bind_some h
 refine aw_loopX (σ := Int × List Int) (fun z => ⟨[(0, .slc 1040 0 ((z.2).length) 1), (2, .fn (.func 142) [] []), (9, .d (eL187 a0)), (10, .d (.val (.int .i64 ((a0).length : Int)))), (11, .d (.val (.int .i64 z.1)))], [(1040, .av (.d (.arr 1 ((z.2).length) ((z.2).map eI_u8)))), (0, .dead)], []⟩) (fun _ => (.exit 0)) (fun (o8 : List Int) => ⟨[(0, .slc 1040 0 ((o8).length) 1)], [(1040, .av (.d (.arr 1 ((o8).length) ((o8).map eI_u8)))), (0, .dead)], []⟩) ho9 (fun _ => rfl) ?_ ?_
 ·clear h ho9
  rintro ⟨z0_0, z0_1⟩ o h
  change F141_tx_put_129_s0 n a0 z0_0 z0_1 = some o at h
  unfold F141_tx_put_129_s0 at h
  show AW _ _ _ ⟨[(0, .slc 1040 0 ((z0_1).length) 1), (2, .fn (.func 142) [] []), (9, .d (eL187 a0)), (10, .d (.val (.int .i64 ((a0).length : Int)))), (11, .d (.val (.int .i64 z0_0)))], [(1040, .av (.d (.arr 1 ((z0_1).length) ((z0_1).map eI_u8)))), (0, .dead)], []⟩
  refine aw_rs ?_
  refine .b rfl rfl rfl ?_
  refine .nil (aq_then ?_)
  refine aw_seq ?_
  refine aw_cond rfl (fun hc1 => ?_) (fun hc1 => ?_)
  ·replace h := ite_t hc1 h
   refine aw_skip ?_
   refine aq_then ?_
   refine aw_seq ?_
   refine aw_block ?_
   refine aw_rs ?_
   obtain ⟨x2, hx3, h⟩ := bind_some h
   obtain ⟨hx4, hx3⟩ := rd_some hx3
   refine .v (f_indexS (by rfl) sl187 hx4 (rd_map _ hx3)) rfl (.c rfl (.c rfl .nil)) .nil ?_
   refine .v (f_loadR (z := (.val (.int .u64 x2))) (by rfl) ty27) rfl (.c rfl .nil) .nil ?_
   refine .a rfl ?_
   refine .nil (aq_then ?_)
   refine aw_r ?_
   refine .m rfl ?_
   refine .m rfl ?_
   refine .m rfl ?_
   obtain ⟨y5, hy6, h⟩ := bind_some h
   refine .w (f_callG0 (xs := [.d (.val (.int .u64 x2))]) (r := .d (eL139 y5)) (fun i => i) [] hgl (by rfl) (cal_v (first := []) (caps := []) en142) rfl (by rfl) (by rfl) (by rfl) (by rfl) (.cons (.same _) .nil) rfl rfl (F142_tx_Body_2_ok hy6)) rfl (.c rfl (.c rfl .nil)) .nil .nil ?_
   obtain ⟨hb7, h⟩ := ifp h
   refine .w (f_appendC (m := ((z0_1 ++ y5)).length) (ys := (y5 : List Int).map eI_u8) (xs := (z0_1).map eI_u8) (zs := ((z0_1 ++ y5)).map eI_u8) 1042 (by rfl) el139 (by simp) (by simp) (by simp [List.map_drop]) (by simp) (Nat.le_trans (Nat.mul_le_mul_right _ hb7) (by decide)) (Nat.le_trans hb7 (by decide)) srcD) rfl (.c rfl (.c rfl .nil)) (.cons rfl .nil) (.cons rfl .nil) ?_
   refine .a rfl ?_
   refine .nil ?_
   refine aq_block ?_
   refine aq_then ?_
   refine aw_r ?_
   refine .b rfl rfl rfl ?_
   refine .m rfl ?_
   refine .nil ?_
   obtain rfl := Option.some.inj h
   refine aq_weak (s' := ⟨[(0, .slc 1040 0 (((z0_1 ++ y5)).length) 1), (2, .fn (.func 142) [] []), (9, .d (eL187 a0)), (10, .d (.val (.int .i64 ((a0).length : Int)))), (11, .d (.val (.int .i64 (IntKind.i64.wrap (z0_0 + (1 : Int))))))], [(1040, .av (.d (.arr 1 (((z0_1 ++ y5)).length) (((z0_1 ++ y5)).map eI_u8)))), (0, .dead)], []⟩) (fun i => (bif Nat.beq i 1040 then 1042 else i)) hb0 (.cons rfl (.cons rfl (.cons rfl (.cons rfl (.cons rfl .nil))))) (.cons rfl (.cons rfl .nil)) rfl (by rfl) ?_
   exact jq
  replace h := ite_f hc1 h
  refine aw_exit ?_
  refine aq_then_exit ?_
  obtain rfl := Option.some.inj h
  refine aq_weak (s' := ⟨[(0, .slc 1040 0 ((z0_1).length) 1)], [(1040, .av (.d (.arr 1 ((z0_1).length) ((z0_1).map eI_u8)))), (0, .dead)], []⟩) id hb0 (.keep rfl .nil) (.keep rfl (.keepH rfl .nil)) rfl (by rfl) ?_
  exact jq
 refine aq_block_exit ?_
 refine aq_then ?_
 refine aw_rs ?_
 refine .m rfl ?_
 refine .a rfl ?_
 refine .nil (aq_then ?_)
 refine aw_ret ?_
 obtain rfl := Option.some.inj h
 refine aq_weak (s' := ⟨[(6, .slc 1040 0 ((o8).length) 1)], [(1040, .av (.d (.arr 1 ((o8).length) ((o8).map eI_u8)))), (0, .dead)], []⟩) id hb0 (.keep rfl .nil) (.keep rfl (.keepH rfl .nil)) rfl (by rfl) ?_
 exact aq_fin1 (.tmp rfl (by rfl) .nil) rfl ⟨rfl, rfl⟩

/- 116: beadroll/tx.Body -/
def F116_tx_Body (n : Nat) (a0 : GTx) : Option ((List Int)) :=
  ((F139_api_Digest_70f n ([a0.Pub, a0.To] : List (List Int))).bind fun (y1 : List Int) => ((F141_tx_put_129 n ([a0.Nonce, a0.Amount, a0.Fee] : List Int) y1).bind fun (y3 : List Int) => some y3))
theorem F116_tx_Body_ok {n : Nat} {a0 : GTx} {r : (List Int)} (h : F116_tx_Body n a0 = some r) :
    ACall Tryd.prog GS 116 [.d (eGTx a0)] [] (fun r' hp' => r' = .d (eL139 r) ∧ hp' = []) := by
 refine acall_of_body mixed Tryd.func116 rfl (by rfl) ?_
 intro C hro hgl hb0
 unfold F116_tx_Body at h
 refine aw_rs ?_
 refine .n (f_box 1 (by rfl) (by rfl)) rfl (.c rfl .nil) rfl ?_
 refine .a rfl ?_
 refine .z ?_
 refine .v (f_fieldAddr (n := 0) (by rfl) fl36_0 (by decide)) rfl (.c rfl .nil) .nil ?_
 refine .l 1 (0 + 0) [0] (.d (eGTx a0)) (.d (eA22 a0.Pub)) ty23 ?_
 refine .v (f_fieldAddr (n := 32) (by rfl) fl36_1 (by decide)) rfl (.c rfl .nil) .nil ?_
 refine .l 1 (0 + 32) [1] (.d (eGTx a0)) (.d (eA22 a0.To)) ty23 ?_
 refine .n (f_buildS (xs := [(0, .d (eA22 a0.Pub)), (1, .d (eA22 a0.To))]) (z := (eA22 (List.replicate 32 (0 : Int)))) (zs := (([a0.Pub, a0.To] : List (List Int))).map eA22) 1032 (by rfl) el184 zel184 (by rfl) (by decide) (by decide) rfl (by rfl) ⟨_, _, _, rfl, pl184_0, rfl, rfl, ⟨_, _, _, rfl, pl184_1, rfl, rfl, trivial⟩⟩ (by rfl)) rfl (.c rfl (.c rfl .nil)) rfl ?_
 obtain ⟨y1, hy2, h⟩ := bind_some h
 refine .w (f_callH (xs := [.d (.val (.slice none 0 0)), .slc 1032 0 ((([a0.Pub, a0.To] : List (List Int))).length) 32, .fn (.func 140) [] []]) (r := .slc 1037 0 ((y1).length) 1) (hw := [(1037, .av (.d (.arr 1 ((y1).length) ((y1).map eI_u8))))]) (fun i => bif Nat.beq i 1034 then 1037 else i) [(1032, (.arr 32 ((([a0.Pub, a0.To] : List (List Int))).length) ((([a0.Pub, a0.To] : List (List Int))).map eA22)))] hgl (by rfl) (cal_f en139) rfl (by rfl) (by rfl) (by rfl) (by rfl) (by rfl) (.cons (.same _) (.cons (.whole (.head _)) (.cons (.same _) .nil))) rfl rfl rfl rfl (by rfl) trivial ⟨(flat_arr fun _ => flat_val), trivial⟩ (F139_api_Digest_70f_ok hy2)) rfl (.c rfl (.c rfl (.c rfl .nil))) (.cons rfl .nil) (.cons rfl .nil) ?_
 refine .a rfl ?_
 refine .z ?_
 refine .m rfl ?_
 refine .v (f_fieldAddr (n := 64) (by rfl) fl36_2 (by decide)) rfl (.c rfl .nil) .nil ?_
 refine .l 1 (0 + 64) [2] (.d (eGTx a0)) (.d (.val (.int .u64 a0.Nonce))) ty27 ?_
 refine .v (f_fieldAddr (n := 65) (by rfl) fl36_3 (by decide)) rfl (.c rfl .nil) .nil ?_
 refine .l 1 (0 + 65) [3] (.d (eGTx a0)) (.d (.val (.int .u64 a0.Amount))) ty27 ?_
 refine .v (f_fieldAddr (n := 66) (by rfl) fl36_4 (by decide)) rfl (.c rfl .nil) .nil ?_
 refine .l 1 (0 + 66) [4] (.d (eGTx a0)) (.d (.val (.int .u64 a0.Fee))) ty27 ?_
 refine .n (f_buildS (xs := [(0, .d (.val (.int .u64 a0.Nonce))), (1, .d (.val (.int .u64 a0.Amount))), (2, .d (.val (.int .u64 a0.Fee)))]) (z := (.val (.int .u64 (0 : Int)))) (zs := (([a0.Nonce, a0.Amount, a0.Fee] : List Int)).map eI_u64) 1038 (by rfl) el187 zel187 (by rfl) (by decide) (by decide) rfl (by rfl) ⟨_, _, _, rfl, pl187_0, rfl, rfl, ⟨_, _, _, rfl, pl187_1, rfl, rfl, ⟨_, _, _, rfl, pl187_2, rfl, rfl, trivial⟩⟩⟩ (by rfl)) rfl (.c rfl (.c rfl (.c rfl .nil))) rfl ?_
 obtain ⟨y3, hy4, h⟩ := bind_some h
 refine .w (f_callH (xs := [.slc 1037 0 ((y1).length) 1, .slc 1038 0 ((([a0.Nonce, a0.Amount, a0.Fee] : List Int)).length) 1, .fn (.func 142) [] []]) (r := .slc 1043 0 ((y3).length) 1) (hw := [(1043, .av (.d (.arr 1 ((y3).length) ((y3).map eI_u8)))), (1037, .dead)]) (fun i => bif Nat.beq i 1040 then 1043 else (bif Nat.beq i 0 then 1037 else i)) [(1038, (.arr 1 ((([a0.Nonce, a0.Amount, a0.Fee] : List Int)).length) ((([a0.Nonce, a0.Amount, a0.Fee] : List Int)).map eI_u64)))] hgl (by rfl) (cal_f en141) rfl (by rfl) (by rfl) (by rfl) (by rfl) (by rfl) (.cons (.same _) (.cons (.whole (.head _)) (.cons (.same _) .nil))) rfl rfl rfl rfl (by rfl) trivial ⟨(flat_arr fun _ => flat_val), trivial⟩ (F141_tx_put_129_ok hy4)) rfl (.c rfl (.c rfl (.c rfl .nil))) (.cons rfl (.cons rfl .nil)) (.cons rfl .nil) ?_
 refine .a rfl ?_
 refine .nil (aq_then ?_)
 refine aw_ret ?_
 obtain rfl := Option.some.inj h
 refine aq_freeze [(1043, (.arr 1 ((y3).length) ((y3).map eI_u8)))] [(2, .d (eL139 y3))] (.cons rfl .nil) (.cons rfl (.whole (.head _)) .nil) ?_
 exact aq_finp hb0 rfl (.tmp rfl (by rfl) .nil) (by rfl) rfl ⟨rfl, rfl⟩

/- 115: beadroll/tag.Of -/
def F115_tag_Of (n : Nat) (a0 : Int) (a1 : (List (List Int))) : Option ((List Int)) :=
  ((F138_tag_Bytes n a0 a1).bind fun (y1 : (List Int)) => ((F137_sha_Of n ([y1] : List (List Int))).bind fun (y3 : (List Int)) => some y3))
theorem F115_tag_Of_ok {n : Nat} {a0 : Int} {a1 : (List (List Int))} {r : (List Int)} (h : F115_tag_Of n a0 a1 = some r) :
    ACall Tryd.prog GS 115 [.d (.val (.int .u8 a0)), .d (eL180 a1)] [] (fun r' hp' => r' = .d (eA22 r) ∧ hp' = []) := by
 refine acall_of_body mixed Tryd.func115 rfl (by rfl) ?_
 intro C hro hgl hb0
 unfold F115_tag_Of at h
 refine aw_rs ?_
 refine .n (f_alloc 4 (by rfl) zr23) rfl .nil rfl ?_
 refine .z ?_
 refine .m rfl ?_
 refine .m rfl ?_
 obtain ⟨y1, hy2, h⟩ := bind_some h
 refine .v (f_callP hgl (by rfl) en138 rfl (by rfl) (by rfl) (by rfl) (F138_tag_Bytes_ok hy2)) rfl (.c rfl (.c rfl .nil)) .nil ?_
 refine .n (f_buildS (xs := [(0, .d (eL139 y1))]) (z := (.val (.slice none 0 0))) (zs := (([y1] : List (List Int))).map eL139) 1044 (by rfl) el180 zel180 (by rfl) (by decide) (by decide) rfl (by rfl) ⟨_, _, _, rfl, pl180_0, rfl, rfl, trivial⟩ (by rfl)) rfl (.c rfl .nil) rfl ?_
 obtain ⟨y3, hy4, h⟩ := bind_some h
 refine .w (f_callH0 (xs := [.slc 1044 0 ((([y1] : List (List Int))).length) 1]) (r := .d (eA22 y3)) (hr := []) (fun i => i) [(1044, (.arr 1 ((([y1] : List (List Int))).length) ((([y1] : List (List Int))).map eL139)))] hgl (by rfl) (cal_f en137) rfl (by rfl) (by rfl) (by rfl) (by rfl) (by rfl) (.cons (.whole (.head _)) .nil) rfl rfl (fl_eA22 _) trivial (F137_sha_Of_ok hy4)) rfl (.c rfl .nil) (.cons rfl .nil) .nil ?_
 refine .s (f_store (n := 0) (o := 4) (off := 0) (p := []) (c := .d (eA22 (List.replicate 32 (0 : Int)))) (old := .d (eA22 (List.replicate 32 (0 : Int)))) (z := .d (eA22 y3)) (c' := .d (eA22 y3)) rfl rfl (by rfl) ty23 (by rfl)) rfl (.c rfl (.c rfl .nil)) (.cons rfl .nil) ?_
 refine .nil (aq_then ?_)
 refine aw_ret ?_
 obtain rfl := Option.some.inj h
 exact aq_finp hb0 rfl (.cell rfl rfl ty23 (by rfl) .nil) (by rfl) rfl ⟨rfl, rfl⟩

/- 111: beadroll/queue.nonces$1 -/
def F111_queue_nonces_1 (n : Nat) (a0 : GTx) : Option (Int) :=
  some a0.Nonce
theorem F111_queue_nonces_1_ok {n : Nat} {a0 : GTx} {r : Int} (h : F111_queue_nonces_1 n a0 = some r) :
    ACall Tryd.prog GS 111 [.d (eGTx a0)] [] (fun r' hp' => r' = .d (.val (.int .u64 r)) ∧ hp' = []) := by
 refine acall_of_body mixed Tryd.func111 rfl (by rfl) ?_
 intro C hro hgl hb0
 unfold F111_queue_nonces_1 at h
 refine aw_rs ?_
 refine .n (f_box 1 (by rfl) (by rfl)) rfl (.c rfl .nil) rfl ?_
 refine .a rfl ?_
 refine .z ?_
 refine .v (f_fieldAddr (n := 64) (by rfl) fl36_2 (by decide)) rfl (.c rfl .nil) .nil ?_
 refine .l 1 (0 + 64) [2] (.d (eGTx a0)) (.d (.val (.int .u64 a0.Nonce))) ty27 ?_
 refine .a rfl ?_
 refine .nil (aq_then ?_)
 refine aw_ret ?_
 obtain rfl := Option.some.inj h
 exact aq_finp hb0 rfl (.tmp rfl (by rfl) .nil) (by rfl) rfl ⟨rfl, rfl⟩

/- 85: beadroll/tx.sign -/
def F85_tx_sign (n : Nat) (a0 : GTx) : Option ((List Int)) :=
  ((F116_tx_Body n a0).bind fun (y1 : (List Int)) => ((F115_tag_Of n (4 : Int) ([y1] : List (List Int))).bind fun (y3 : (List Int)) => some y3))
theorem F85_tx_sign_ok {n : Nat} {a0 : GTx} {r : (List Int)} (h : F85_tx_sign n a0 = some r) :
    ACall Tryd.prog GS 85 [.d (eGTx a0)] [] (fun r' hp' => r' = .d (eA22 r) ∧ hp' = []) := by
 refine acall_of_body mixed Tryd.func85 rfl (by rfl) ?_
 intro C hro hgl hb0
 unfold F85_tx_sign at h
 refine aw_rs ?_
 refine .n (f_box 1 (by rfl) (by rfl)) rfl (.c rfl .nil) rfl ?_
 refine .n (f_alloc 2 (by rfl) zr23) rfl .nil rfl ?_
 refine .z ?_
 refine .l 1 0 [] (.d (eGTx a0)) (.d (eGTx a0)) ty36 ?_
 obtain ⟨y1, hy2, h⟩ := bind_some h
 refine .v (f_callP hgl (by rfl) en116 rfl (by rfl) (by rfl) (by rfl) (F116_tx_Body_ok hy2)) rfl (.c rfl .nil) .nil ?_
 refine .n (f_buildS (xs := [(0, .d (eL139 y1))]) (z := (.val (.slice none 0 0))) (zs := (([y1] : List (List Int))).map eL139) 1045 (by rfl) el180 zel180 (by rfl) (by decide) (by decide) rfl (by rfl) ⟨_, _, _, rfl, pl180_0, rfl, rfl, trivial⟩ (by rfl)) rfl (.c rfl .nil) rfl ?_
 obtain ⟨y3, hy4, h⟩ := bind_some h
 refine .w (f_callH0 (xs := [.d (.val (.int .u8 (4 : Int))), .slc 1045 0 ((([y1] : List (List Int))).length) 1]) (r := .d (eA22 y3)) (hr := []) (fun i => i) [(1045, (.arr 1 ((([y1] : List (List Int))).length) ((([y1] : List (List Int))).map eL139)))] hgl (by rfl) (cal_f en115) rfl (by rfl) (by rfl) (by rfl) (by rfl) (by rfl) (.cons (.same _) (.cons (.whole (.head _)) .nil)) rfl rfl (fl_eA22 _) trivial (F115_tag_Of_ok hy4)) rfl (.c rfl (.c rfl .nil)) (.cons rfl .nil) .nil ?_
 refine .s (f_store (n := 0) (o := 2) (off := 0) (p := []) (c := .d (eA22 (List.replicate 32 (0 : Int)))) (old := .d (eA22 (List.replicate 32 (0 : Int)))) (z := .d (eA22 y3)) (c' := .d (eA22 y3)) rfl rfl (by rfl) ty23 (by rfl)) rfl (.c rfl (.c rfl .nil)) (.cons rfl .nil) ?_
 refine .nil (aq_then ?_)
 refine aw_ret ?_
 obtain rfl := Option.some.inj h
 exact aq_finp hb0 rfl (.cell rfl rfl ty23 (by rfl) .nil) (by rfl) rfl ⟨rfl, rfl⟩

/- 38: beadroll/tx.Check -/
def F38_tx_Check (n : Nat) (a0 : GTx) : Option (Int) :=
  ((F85_tx_sign n a0).bind fun (y1 : (List Int)) => (if (!(decide (a0.Sign = y1))) = true then some (110 : Int) else some (0 : Int)))
theorem F38_tx_Check_ok {n : Nat} {a0 : GTx} {r : Int} (h : F38_tx_Check n a0 = some r) :
    ACall Tryd.prog GS 38 [.d (eGTx a0)] [] (fun r' hp' => r' = .d (.val (.int .i64 r)) ∧ hp' = []) := by
 refine acall_of_body mixed Tryd.func38 rfl (by rfl) ?_
 intro C hro hgl hb0
 unfold F38_tx_Check at h
 refine aw_rs ?_
 refine .n (f_box 1 (by rfl) (by rfl)) rfl (.c rfl .nil) rfl ?_
 refine .a rfl ?_
 refine .nil (aq_then ?_)
 refine aw_seq ?_
 refine aw_rds ?_
 refine .v (f_fieldAddr (n := 67) (by rfl) fl36_5 (by decide)) rfl (.c rfl .nil) .nil ?_
 refine .v (f_load (n := 0) (o := 1) (off := (0 + 67)) (p := [5]) (c := .d (eGTx a0)) (z := .d (eA22 a0.Sign)) (by rfl) rfl ty23 (by rfl)) rfl (.c rfl .nil) (.cons rfl .nil) ?_
 refine .v (f_load (n := 0) (o := 1) (off := 0) (p := []) (c := .d (eGTx a0)) (z := .d (eGTx a0)) (by rfl) rfl ty36 (by rfl)) rfl (.c rfl .nil) (.cons rfl .nil) ?_
 obtain ⟨y1, hy2, h⟩ := bind_some h
 refine .v (f_callP hgl (by rfl) en85 rfl (by rfl) (by rfl) (by rfl) (F85_tx_sign_ok hy2)) rfl (.c rfl .nil) .nil ?_
 refine .v (f_neqT (by rfl) (fit23 _) (fit23 _) (by rfl) (by rfl) gd23 (eq_eA22 _ _)) rfl (.c rfl (.c rfl .nil)) .nil ?_
 refine .nil (by kernel_rfl) ?_
 refine aw_cond rfl (fun hc3 => ?_) (fun hc3 => ?_)
 ·replace h := ite_t hc3 h
  refine aw_rs ?_
  refine .a rfl ?_
  refine .nil (aq_then ?_)
  refine aw_ret ?_
  refine aq_then_ret ?_
  obtain rfl := Option.some.inj h
  exact aq_finp hb0 rfl (.tmp rfl (by rfl) .nil) (by rfl) rfl ⟨rfl, rfl⟩
 replace h := ite_f hc3 h
 refine aw_skip ?_
 refine aq_then ?_
 refine aw_rs ?_
 refine .a rfl ?_
 refine .nil (aq_then ?_)
 refine aw_ret ?_
 obtain rfl := Option.some.inj h
 exact aq_finp hb0 rfl (.tmp rfl (by rfl) .nil) (by rfl) rfl ⟨rfl, rfl⟩

/- 84: beadroll/acct.Key -/
def F84_acct_Key (n : Nat) (a0 : (List Int)) : Option ((List Int)) :=
  ((F115_tag_Of n (3 : Int) ([a0] : List (List Int))).bind fun (y1 : (List Int)) => some y1)
theorem F84_acct_Key_ok {n : Nat} {a0 : (List Int)} {r : (List Int)} (h : F84_acct_Key n a0 = some r) :
    ACall Tryd.prog GS 84 [.d (eA22 a0)] [] (fun r' hp' => r' = .d (eA22 r) ∧ hp' = []) := by
 refine acall_of_body mixed Tryd.func84 rfl (by rfl) ?_
 intro C hro hgl hb0
 unfold F84_acct_Key at h
 refine aw_rs ?_
 refine .n (f_box 1 (by rfl) (by rfl)) rfl (.c rfl .nil) rfl ?_
 refine .n (f_alloc 2 (by rfl) zr23) rfl .nil rfl ?_
 refine .z ?_
 refine .v (f_sliceA (by rfl) ar23) rfl (.c rfl .nil) (.cons rfl .nil) ?_
 refine R.freeze [(1, (eA22 a0))] [(2, .ptr 2 0 []), (3, .d (eL139 a0))] (.cons rfl .nil) (.keep rfl (.cons rfl (.whole (.head _)) .nil)) ?_
 refine .n (f_buildS (xs := [(0, .d (eL139 a0))]) (z := (.val (.slice none 0 0))) (zs := (([a0] : List (List Int))).map eL139) 1046 (by rfl) el180 zel180 (by rfl) (by decide) (by decide) rfl (by rfl) ⟨_, _, _, rfl, pl180_0, rfl, rfl, trivial⟩ (by rfl)) rfl (.c rfl .nil) rfl ?_
 obtain ⟨y1, hy2, h⟩ := bind_some h
 refine .w (f_callH0 (xs := [.d (.val (.int .u8 (3 : Int))), .slc 1046 0 ((([a0] : List (List Int))).length) 1]) (r := .d (eA22 y1)) (hr := []) (fun i => i) [(1046, (.arr 1 ((([a0] : List (List Int))).length) ((([a0] : List (List Int))).map eL139)))] hgl (by rfl) (cal_f en115) rfl (by rfl) (by rfl) (by rfl) (by rfl) (by rfl) (.cons (.same _) (.cons (.whole (.head _)) .nil)) rfl rfl (fl_eA22 _) trivial (F115_tag_Of_ok hy2)) rfl (.c rfl (.c rfl .nil)) (.cons rfl .nil) .nil ?_
 refine .s (f_store (n := 0) (o := 2) (off := 0) (p := []) (c := .d (eA22 (List.replicate 32 (0 : Int)))) (old := .d (eA22 (List.replicate 32 (0 : Int)))) (z := .d (eA22 y1)) (c' := .d (eA22 y1)) rfl rfl (by rfl) ty23 (by rfl)) rfl (.c rfl (.c rfl .nil)) (.cons rfl .nil) ?_
 refine .nil (aq_then ?_)
 refine aw_ret ?_
 obtain rfl := Option.some.inj h
 exact aq_finp hb0 rfl (.cell rfl rfl ty23 (by rfl) .nil) (by rfl) rfl ⟨rfl, rfl⟩

/- 39: beadroll/tx.From -/
def F39_tx_From (n : Nat) (a0 : GTx) : Option ((List Int)) :=
  ((F84_acct_Key n a0.Pub).bind fun (y1 : (List Int)) => some y1)
theorem F39_tx_From_ok {n : Nat} {a0 : GTx} {r : (List Int)} (h : F39_tx_From n a0 = some r) :
    ACall Tryd.prog GS 39 [.d (eGTx a0)] [] (fun r' hp' => r' = .d (eA22 r) ∧ hp' = []) := by
 refine acall_of_body mixed Tryd.func39 rfl (by rfl) ?_
 intro C hro hgl hb0
 unfold F39_tx_From at h
 refine aw_rs ?_
 refine .n (f_box 1 (by rfl) (by rfl)) rfl (.c rfl .nil) rfl ?_
 refine .n (f_alloc 2 (by rfl) zr23) rfl .nil rfl ?_
 refine .z ?_
 refine .v (f_fieldAddr (n := 0) (by rfl) fl36_0 (by decide)) rfl (.c rfl .nil) .nil ?_
 refine .l 1 (0 + 0) [0] (.d (eGTx a0)) (.d (eA22 a0.Pub)) ty23 ?_
 obtain ⟨y1, hy2, h⟩ := bind_some h
 refine .v (f_callP hgl (by rfl) en84 rfl (by rfl) (by rfl) (by rfl) (F84_acct_Key_ok hy2)) rfl (.c rfl .nil) .nil ?_
 refine .s (f_store (n := 0) (o := 2) (off := 0) (p := []) (c := .d (eA22 (List.replicate 32 (0 : Int)))) (old := .d (eA22 (List.replicate 32 (0 : Int)))) (z := .d (eA22 y1)) (c' := .d (eA22 y1)) rfl rfl (by rfl) ty23 (by rfl)) rfl (.c rfl (.c rfl .nil)) (.cons rfl .nil) ?_
 refine .nil (aq_then ?_)
 refine aw_ret ?_
 obtain rfl := Option.some.inj h
 exact aq_finp hb0 rfl (.cell rfl rfl ty23 (by rfl) .nil) (by rfl) rfl ⟨rfl, rfl⟩

/- 77: beadroll/queue.own -/
def F77_queue_own (n : Nat) (a0 : GTx) (a1 : (List Int)) : Option (Bool) :=
  ((((F38_tx_Check n a0).bind fun (y1 : Int) => (if (y1 == (0 : Int)) = true then ((F39_tx_From n a0).bind fun (y4 : (List Int)) => some (decide (y4 = a1))) else some false))).bind fun (o6 : Bool) => some o6)
theorem F77_queue_own_ok {n : Nat} {a0 : GTx} {a1 : (List Int)} {r : Bool} (h : F77_queue_own n a0 a1 = some r) :
    ACall Tryd.prog GS 77 [.d (eGTx a0), .d (eA22 a1)] [] (fun r' hp' => r' = .d (.val (.bool r)) ∧ hp' = []) := by
 refine acall_of_body mixed Tryd.func77 rfl (by rfl) ?_
 intro C hro hgl hb0
 unfold F77_queue_own at h
 refine aw_rs ?_
 refine .n (f_box 2 (by rfl) (by rfl)) rfl (.c rfl .nil) rfl ?_
 refine .n (f_box 3 (by rfl) (by rfl)) rfl (.c rfl .nil) rfl ?_
 refine .a rfl ?_
 refine .nil (aq_then ?_)
 refine aw_seq ?_
 obtain ⟨o6, ho7, h⟩ := bind_some h
 refine aw_join (.normal) ⟨[(4, .d (.val (.bool o6)))], [], []⟩ ?_ ?_
 ·replace h := ho7
  refine aw_rd ?_
  refine .v (f_load (n := 0) (o := 2) (off := 0) (p := []) (c := .d (eGTx a0)) (z := .d (eGTx a0)) (by rfl) rfl ty36 (by rfl)) rfl (.c rfl .nil) (.cons rfl .nil) ?_
  obtain ⟨y1, hy2, h⟩ := bind_some h
  refine .v (f_callP hgl (by rfl) en38 rfl (by rfl) (by rfl) (by rfl) (F38_tx_Check_ok hy2)) rfl (.c rfl .nil) .nil ?_
  refine .v (f_binI (by rfl) rfl (by rfl)) rfl (.c rfl (.c rfl .nil)) .nil ?_
  refine .v (f_move (by rfl)) rfl (.c rfl .nil) .nil ?_
  rcases Bool.eq_false_or_eq_true (y1 == (0 : Int)) with hc3 | hc3
  ·replace h := ite_t hc3 h
   refine .gv (f_load (n := 0) (o := 2) (off := 0) (p := []) (c := .d (eGTx a0)) (z := .d (eGTx a0)) (by rfl) rfl ty36 (by rfl)) rfl rfl rfl hc3 (.c rfl .nil) (.cons rfl .nil) ?_
   obtain ⟨y4, hy5, h⟩ := bind_some h
   refine .gv (f_callP hgl (by rfl) en39 rfl (by rfl) (by rfl) (by rfl) (F39_tx_From_ok hy5)) rfl rfl rfl hc3 (.c rfl .nil) .nil ?_
   refine .gv (f_load (n := 0) (o := 3) (off := 0) (p := []) (c := .d (eA22 a1)) (z := .d (eA22 a1)) (by rfl) rfl ty23 (by rfl)) rfl rfl rfl hc3 (.c rfl .nil) (.cons rfl .nil) ?_
   refine .gv (f_eqlT (by rfl) (fit23 _) (fit23 _) (by rfl) (by rfl) gd23 (eq_eA22 _ _)) rfl rfl rfl hc3 (.c rfl (.c rfl .nil)) .nil ?_
   refine .v (f_pick_true (by rfl) hc3) rfl (.c rfl (.c rfl .nil)) .nil ?_
   refine .v (f_assign (by rfl)) rfl (.c rfl .nil) .nil ?_
   refine .nil (by kernel_rfl) ?_
   obtain rfl := Option.some.inj h
   refine aq_weak (s' := ⟨[(4, .d (.val (.bool (decide (y4 = a1)))))], [], []⟩) id hb0 (.keep rfl .nil) .nil rfl (by rfl) ?_
   exact jq
  replace h := ite_f hc3 h
  refine .off rfl rfl rfl hc3 rfl (by rfl) ?_
  refine .off rfl rfl rfl hc3 rfl (by rfl) ?_
  refine .off rfl rfl rfl hc3 rfl (by rfl) ?_
  refine .off rfl rfl rfl hc3 rfl (by rfl) ?_
  refine .v (f_pick_false (by rfl) hc3) rfl (.c rfl (.c rfl .nil)) .nil ?_
  refine .v (f_assign (by rfl)) rfl (.c rfl .nil) .nil ?_
  refine .nil (by kernel_rfl) ?_
  obtain rfl := Option.some.inj h
  refine aq_weak (s' := ⟨[(4, .d (.val (.bool false)))], [], []⟩) id hb0 (.keep rfl .nil) .nil rfl (by rfl) ?_
  exact jq
 refine aq_then ?_
 refine aw_ret ?_
 obtain rfl := Option.some.inj h
 exact aq_finp hb0 rfl (.tmp rfl (by rfl) .nil) (by rfl) rfl ⟨rfl, rfl⟩

/- 18: beadroll/queue.Check -/
def F18_queue_Check_s0 (n : Nat) (a0 : GLine) (z0_0 : Int) : Option ((Int) ⊕ ((Unit) ⊕ (Unit))) :=
  (if (decide (z0_0 < ((a0.Txs).length : Int))) = true then ((rd a0.Txs z0_0).bind fun (x3 : GTx) => ((((F77_queue_own n x3 a0.From).bind fun (y6 : Bool) => (if (!y6) = true then some true else (if (decide (z0_0 > (0 : Int))) = true then ((rd a0.Txs (IntKind.i64.wrap (z0_0 - (1 : Int)))).bind fun (x10 : GTx) => some (decide (x10.Nonce ≥ x3.Nonce))) else some false)))).bind fun (o13 : Bool) => (if o13 = true then some (.inr (.inr ())) else some (.inl (IntKind.i64.wrap (z0_0 + (1 : Int))))))) else some (.inr (.inl ())))
def F18_queue_Check (n : Nat) (a0 : GLine) : Option (Int) :=
  (if (decide (((a0.Txs).length : Int) > (256 : Int))) = true then some (8 : Int) else ((loopF (fun (z : Int) => F18_queue_Check_s0 n a0 z) n (0 : Int)).bind (Sum.elim (fun (j16 : Unit) => some (0 : Int)) (fun (j16 : Unit) => some (8 : Int)))))
theorem F18_queue_Check_ok {n : Nat} {a0 : GLine} {r : Int} (h : F18_queue_Check n a0 = some r) :
    ACall Tryd.prog GS 18 [.d (eGLine a0)] [] (fun r' hp' => r' = .d (.val (.int .i64 r)) ∧ hp' = []) := by
 refine acall_of_body mixed Tryd.func18 rfl (by rfl) ?_
 intro C hro hgl hb0
 unfold F18_queue_Check at h
 refine aw_rs ?_
 refine .n (f_box 1 (by rfl) (by rfl)) rfl (.c rfl .nil) rfl ?_
 refine .a rfl ?_
 refine .nil (aq_then ?_)
 refine aw_seq ?_
 refine aw_rs ?_
 refine .v (f_fieldAddr (n := 32) (by rfl) fl26_1 (by decide)) rfl (.c rfl .nil) .nil ?_
 refine .l 1 (0 + 32) [1] (.d (eGLine a0)) (.d (eL24 a0.Txs)) ty24 ?_
 refine .v (f_lenD (n := (a0.Txs).length) (by rfl) sl24 rfl (by simp)) rfl (.c rfl .nil) .nil ?_
 refine .b rfl rfl rfl ?_
 refine .nil (aq_then ?_)
 refine aw_cond rfl (fun hc1 => ?_) (fun hc1 => ?_)
 ·replace h := ite_t hc1 h
  refine aw_rs ?_
  refine .a rfl ?_
  refine .nil (aq_then ?_)
  refine aw_ret ?_
  refine aq_then_ret ?_
  obtain rfl := Option.some.inj h
  exact aq_finp hb0 rfl (.tmp rfl (by rfl) .nil) (by rfl) rfl ⟨rfl, rfl⟩
 replace h := ite_f hc1 h
 refine aw_skip ?_
 refine aq_then ?_
 refine aw_seq ?_
 refine aw_rs ?_
 refine .v (f_fieldAddr (n := 32) (by rfl) fl26_1 (by decide)) rfl (.c rfl .nil) .nil ?_
 refine .l 1 (0 + 32) [1] (.d (eGLine a0)) (.d (eL24 a0.Txs)) ty24 ?_
 refine .v (f_lenD (n := (a0.Txs).length) (by rfl) sl24 rfl (by simp)) rfl (.c rfl .nil) .nil ?_
 refine .m rfl ?_
 refine .nil (aq_then ?_)
 refine aw_block ?_
 refine aw_weak (s' := ⟨[(1, .ptr 1 0 []), (10, .d (eL24 a0.Txs)), (11, .d (.val (.int .i64 ((a0.Txs).length : Int)))), (12, .d (.val (.int .i64 (0 : Int))))], [(1, .av (.d (eGLine a0)))], []⟩) id hb0 (.keep rfl (.keep rfl (.keep rfl (.keep rfl .nil)))) (.keep rfl .nil) rfl (by rfl) ?_
 obtain ⟨o16, ho17, h⟩ := bind_some h
 refine aw_loopX (σ := Int) (fun z => ⟨[(1, .ptr 1 0 []), (10, .d (eL24 a0.Txs)), (11, .d (.val (.int .i64 ((a0.Txs).length : Int)))), (12, .d (.val (.int .i64 z)))], [(1, .av (.d (eGLine a0)))], []⟩) (Sum.elim (fun _ => .exit 0) (fun _ => .ret)) (Sum.elim (fun j16 => ⟨[], [], []⟩) (fun j16 => ⟨[(2, .d (.val (.int .i64 (8 : Int))))], [], []⟩)) ho17 (by intro b; rcases b with _ | _ <;> rfl) ?_ ?_
 ·clear h ho17
  intro z0_0 o h
  change F18_queue_Check_s0 n a0 z0_0 = some o at h
  unfold F18_queue_Check_s0 at h
  show AW _ _ _ ⟨[(1, .ptr 1 0 []), (10, .d (eL24 a0.Txs)), (11, .d (.val (.int .i64 ((a0.Txs).length : Int)))), (12, .d (.val (.int .i64 z0_0)))], [(1, .av (.d (eGLine a0)))], []⟩
  refine aw_rs ?_
  refine .b rfl rfl rfl ?_
  refine .nil (aq_then ?_)
  refine aw_seq ?_
  refine aw_cond rfl (fun hc2 => ?_) (fun hc2 => ?_)
  ·replace h := ite_t hc2 h
   refine aw_skip ?_
   refine aq_then ?_
   refine aw_seq ?_
   refine aw_block ?_
   refine aw_rs ?_
   refine .m rfl ?_
   obtain ⟨x3, hx4, h⟩ := bind_some h
   obtain ⟨hx5, hx4⟩ := rd_some hx4
   refine .v (f_indexS (by rfl) sl24 hx5 (rd_map _ hx4)) rfl (.c rfl (.c rfl .nil)) .nil ?_
   refine .v (f_loadR (z := (eGTx x3)) (by rfl) ty36) rfl (.c rfl .nil) .nil ?_
   refine .n (f_alloc 4 (by rfl) zr36) rfl .nil rfl ?_
   refine .a rfl ?_
   refine .s (f_store (n := 0) (o := 4) (off := 0) (p := []) (c := .d (eGTx (⟨(List.replicate 32 (0 : Int)), (List.replicate 32 (0 : Int)), (0 : Int), (0 : Int), (0 : Int), (List.replicate 32 (0 : Int))⟩ : GTx))) (old := .d (eGTx (⟨(List.replicate 32 (0 : Int)), (List.replicate 32 (0 : Int)), (0 : Int), (0 : Int), (0 : Int), (List.replicate 32 (0 : Int))⟩ : GTx))) (z := .d (eGTx x3)) (c' := .d (eGTx x3)) rfl rfl (by rfl) ty36 (by rfl)) rfl (.c rfl (.c rfl .nil)) (.cons rfl .nil) ?_
   refine .nil (aq_then ?_)
   refine aw_seq ?_
   obtain ⟨o13, ho15, h⟩ := bind_some h
   refine aw_join (.normal) ⟨[(1, .ptr 1 0 []), (10, .d (eL24 a0.Txs)), (11, .d (.val (.int .i64 ((a0.Txs).length : Int)))), (12, .d (.val (.int .i64 z0_0))), (37, .d (.val (.bool o13)))], [(1, .av (.d (eGLine a0)))], []⟩ ?_ ?_
   ·replace h := ho15
    refine aw_rd ?_
    refine .v (f_load (n := 0) (o := 4) (off := 0) (p := []) (c := .d (eGTx x3)) (z := .d (eGTx x3)) (by rfl) rfl ty36 (by rfl)) rfl (.c rfl .nil) (.cons rfl .nil) ?_
    refine .v (f_fieldAddr (n := 0) (by rfl) fl26_0 (by decide)) rfl (.c rfl .nil) .nil ?_
    refine .v (f_load (n := 0) (o := 1) (off := (0 + 0)) (p := [0]) (c := .d (eGLine a0)) (z := .d (eA22 a0.From)) (by rfl) rfl ty23 (by rfl)) rfl (.c rfl .nil) (.cons rfl .nil) ?_
    obtain ⟨y6, hy7, h⟩ := bind_some h
    refine .v (f_callP hgl (by rfl) en77 rfl (by rfl) (by rfl) (by rfl) (F77_queue_own_ok hy7)) rfl (.c rfl (.c rfl .nil)) .nil ?_
    refine .v (f_not (by rfl)) rfl (.c rfl .nil) .nil ?_
    refine .v (f_move (by rfl)) rfl (.c rfl .nil) .nil ?_
    rcases Bool.eq_false_or_eq_true (!y6) with hc8 | hc8
    ·replace h := ite_t hc8 h
     refine .off rfl rfl rfl hc8 rfl (by rfl) ?_
     refine .off rfl rfl rfl hc8 rfl (by rfl) ?_
     refine .off rfl rfl rfl hc8 rfl (by rfl) ?_
     refine .offu rfl rfl rfl rfl (by rfl) ?_
     refine .offu rfl rfl rfl rfl (by rfl) ?_
     refine .offu rfl rfl rfl rfl (by rfl) ?_
     refine .offu rfl rfl rfl rfl (by rfl) ?_
     refine .offu rfl rfl rfl rfl (by rfl) ?_
     refine .offu rfl rfl rfl rfl (by rfl) ?_
     refine .offu rfl rfl rfl rfl (by rfl) ?_
     refine .offu rfl rfl rfl rfl (by rfl) ?_
     refine .offu rfl rfl rfl rfl (by rfl) ?_
     refine .offu rfl rfl rfl rfl (by rfl) ?_
     refine .off rfl rfl rfl hc8 rfl (by rfl) ?_
     refine .v (f_pick_true (by rfl) hc8) rfl (.c rfl (.c rfl .nil)) .nil ?_
     refine .nil (by kernel_rfl) ?_
     obtain rfl := Option.some.inj h
     refine aq_weak (s' := ⟨[(1, .ptr 1 0 []), (10, .d (eL24 a0.Txs)), (11, .d (.val (.int .i64 ((a0.Txs).length : Int)))), (12, .d (.val (.int .i64 z0_0))), (37, .d (.val (.bool true)))], [(1, .av (.d (eGLine a0)))], []⟩) id hb0 (.keep rfl (.keep rfl (.keep rfl (.keep rfl (.keep rfl .nil))))) (.keep rfl .nil) rfl (by rfl) ?_
     exact jq
    replace h := ite_f hc8 h
    refine .gv (f_move (by rfl)) rfl rfl rfl hc8 (.c rfl .nil) .nil ?_
    refine .gv (f_binI (by rfl) rfl (by rfl)) rfl rfl rfl hc8 (.c rfl (.c rfl .nil)) .nil ?_
    refine .gv (f_move (by rfl)) rfl rfl rfl hc8 (.c rfl .nil) .nil ?_
    rcases Bool.eq_false_or_eq_true (decide (z0_0 > (0 : Int))) with hc9 | hc9
    ·replace h := ite_t hc9 h
     refine .gv (f_fieldAddr (n := 32) (by rfl) fl26_1 (by decide)) rfl rfl rfl hc9 (.c rfl .nil) .nil ?_
     refine .gv (f_load (n := 0) (o := 1) (off := (0 + 32)) (p := [1]) (c := .d (eGLine a0)) (z := .d (eL24 a0.Txs)) (by rfl) rfl ty24 (by rfl)) rfl rfl rfl hc9 (.c rfl .nil) (.cons rfl .nil) ?_
     refine .gv (f_move (by rfl)) rfl rfl rfl hc9 (.c rfl .nil) .nil ?_
     refine .gv (f_binI (by rfl) rfl (by rfl)) rfl rfl rfl hc9 (.c rfl (.c rfl .nil)) .nil ?_
     obtain ⟨x10, hx11, h⟩ := bind_some h
     obtain ⟨hx12, hx11⟩ := rd_some hx11
     refine .gv (f_indexS (by rfl) sl24 hx12 (rd_map _ hx11)) rfl rfl rfl hc9 (.c rfl (.c rfl .nil)) .nil ?_
     refine .gv (f_fieldAddrR (by rfl) fl36_2 (by decide) rfl) rfl rfl rfl hc9 (.c rfl .nil) .nil ?_
     refine .gv (f_loadR (z := (.val (.int .u64 x10.Nonce))) (by rfl) ty27) rfl rfl rfl hc9 (.c rfl .nil) .nil ?_
     refine .gv (f_fieldAddr (n := 64) (by rfl) fl36_2 (by decide)) rfl rfl rfl hc9 (.c rfl .nil) .nil ?_
     refine .gv (f_load (n := 0) (o := 4) (off := (0 + 64)) (p := [2]) (c := .d (eGTx x3)) (z := .d (.val (.int .u64 x3.Nonce))) (by rfl) rfl ty27 (by rfl)) rfl rfl rfl hc9 (.c rfl .nil) (.cons rfl .nil) ?_
     refine .gv (f_binI (by rfl) rfl (by rfl)) rfl rfl rfl hc9 (.c rfl (.c rfl .nil)) .nil ?_
     refine .gv (f_pick_true (by rfl) hc9) rfl rfl rfl hc8 (.c rfl (.c rfl .nil)) .nil ?_
     refine .v (f_pick_false (by rfl) hc8) rfl (.c rfl (.c rfl .nil)) .nil ?_
     refine .nil (by kernel_rfl) ?_
     obtain rfl := Option.some.inj h
     refine aq_weak (s' := ⟨[(1, .ptr 1 0 []), (10, .d (eL24 a0.Txs)), (11, .d (.val (.int .i64 ((a0.Txs).length : Int)))), (12, .d (.val (.int .i64 z0_0))), (37, .d (.val (.bool (decide (x10.Nonce ≥ x3.Nonce)))))], [(1, .av (.d (eGLine a0)))], []⟩) id hb0 (.keep rfl (.keep rfl (.keep rfl (.keep rfl (.keep rfl .nil))))) (.keep rfl .nil) rfl (by rfl) ?_
     exact jq
    replace h := ite_f hc9 h
    refine .off rfl rfl rfl hc9 rfl (by rfl) ?_
    refine .off rfl rfl rfl hc9 rfl (by rfl) ?_
    refine .off rfl rfl rfl hc9 rfl (by rfl) ?_
    refine .off rfl rfl rfl hc9 rfl (by rfl) ?_
    refine .off rfl rfl rfl hc9 rfl (by rfl) ?_
    refine .off rfl rfl rfl hc9 rfl (by rfl) ?_
    refine .off rfl rfl rfl hc9 rfl (by rfl) ?_
    refine .off rfl rfl rfl hc9 rfl (by rfl) ?_
    refine .off rfl rfl rfl hc9 rfl (by rfl) ?_
    refine .off rfl rfl rfl hc9 rfl (by rfl) ?_
    refine .gv (f_pick_false (by rfl) hc9) rfl rfl rfl hc8 (.c rfl (.c rfl .nil)) .nil ?_
    refine .v (f_pick_false (by rfl) hc8) rfl (.c rfl (.c rfl .nil)) .nil ?_
    refine .nil (by kernel_rfl) ?_
    obtain rfl := Option.some.inj h
    refine aq_weak (s' := ⟨[(1, .ptr 1 0 []), (10, .d (eL24 a0.Txs)), (11, .d (.val (.int .i64 ((a0.Txs).length : Int)))), (12, .d (.val (.int .i64 z0_0))), (37, .d (.val (.bool false)))], [(1, .av (.d (eGLine a0)))], []⟩) id hb0 (.keep rfl (.keep rfl (.keep rfl (.keep rfl (.keep rfl .nil))))) (.keep rfl .nil) rfl (by rfl) ?_
    exact jq
   refine aq_then ?_
   refine aw_cond rfl (fun hc14 => ?_) (fun hc14 => ?_)
   ·replace h := ite_t hc14 h
    refine aw_rs ?_
    refine .a rfl ?_
    refine .nil (aq_then ?_)
    refine aw_ret ?_
    refine aq_block_ret ?_
    refine aq_then_ret ?_
    obtain rfl := Option.some.inj h
    refine aq_weak (s' := ⟨[(2, .d (.val (.int .i64 (8 : Int))))], [], []⟩) id hb0 (.keep rfl .nil) .nil rfl (by rfl) ?_
    exact jq
   replace h := ite_f hc14 h
   refine aw_skip ?_
   refine aq_block ?_
   refine aq_then ?_
   refine aw_r ?_
   refine .b rfl rfl rfl ?_
   refine .m rfl ?_
   refine .nil ?_
   obtain rfl := Option.some.inj h
   refine aq_weak (s' := ⟨[(1, .ptr 1 0 []), (10, .d (eL24 a0.Txs)), (11, .d (.val (.int .i64 ((a0.Txs).length : Int)))), (12, .d (.val (.int .i64 (IntKind.i64.wrap (z0_0 + (1 : Int))))))], [(1, .av (.d (eGLine a0)))], []⟩) id hb0 (.keep rfl (.keep rfl (.keep rfl (.keep rfl .nil)))) (.keep rfl .nil) rfl (by rfl) ?_
   exact jq
  replace h := ite_f hc2 h
  refine aw_exit ?_
  refine aq_then_exit ?_
  obtain rfl := Option.some.inj h
  refine aq_weak (s' := ⟨[], [], []⟩) id hb0 .nil .nil rfl (by rfl) ?_
  exact jq
 rcases o16 with j16 | j16
 ·replace h := elim_l h
  refine aq_block_exit ?_
  refine aq_then ?_
  refine aw_rs ?_
  refine .a rfl ?_
  refine .nil (aq_then ?_)
  refine aw_ret ?_
  obtain rfl := Option.some.inj h
  exact aq_finp hb0 rfl (.tmp rfl (by rfl) .nil) (by rfl) rfl ⟨rfl, rfl⟩
 replace h := elim_r h
 refine aq_block_ret ?_
 refine aq_then_ret ?_
 obtain rfl := Option.some.inj h
 exact aq_finp hb0 rfl (.tmp rfl (by rfl) .nil) (by rfl) rfl ⟨rfl, rfl⟩

/- 105: beadroll/acct.each -/
def F105_acct_each (n : Nat) (a0 : GTree) : Option (GTree) :=
  some a0
theorem F105_acct_each_ok {n : Nat} {a0 : GTree} {r : GTree} (h : F105_acct_each n a0 = some r) :
    ACall Tryd.prog GS 105 [.d (eGTree a0)] [] (fun r' hp' => r' = .fn (.func 134) [] [.ptr 1 0 []] ∧ hp' = [(1, .av (.d (eGTree r)))]) := by
 refine acall_of_body mixed Tryd.func105 rfl (by rfl) ?_
 intro C hro hgl hb0
 unfold F105_acct_each at h
 refine aw_rs ?_
 refine .n (f_box 1 (by rfl) (by rfl)) rfl (.c rfl .nil) rfl ?_
 refine .a rfl ?_
 refine .z ?_
 refine .v (f_makeFunc (xs := []) (ys := [.ptr 1 0 []]) (by rfl) rfl rfl (by rfl) (by rfl)) rfl (.c rfl .nil) .nil ?_
 refine .a rfl ?_
 refine .nil (aq_then ?_)
 refine aw_ret ?_
 obtain rfl := Option.some.inj h
 refine aq_weak (s' := ⟨[(2, .fn (.func 134) [] [.ptr 1 0 []])], [(1, .av (.d (eGTree a0)))], []⟩) id hb0 (.keep rfl .nil) (.keep rfl .nil) rfl (by rfl) ?_
 exact aq_fin1 (.tmp rfl (by rfl) .nil) rfl ⟨rfl, rfl⟩

/- 74: beadroll/queue.nonces -/
def F74_queue_nonces (n : Nat) (a0 : GLine) : Option ((List GTx)) :=
  some a0.Txs
theorem F74_queue_nonces_ok {n : Nat} {a0 : GLine} {r : (List GTx)} (h : F74_queue_nonces n a0 = some r) :
    ACall Tryd.prog GS 74 [.d (eGLine a0)] [] (fun r' hp' => r' = .st [.d (eL24 r), .fn (.func 111) [] []] ∧ hp' = [(2, .av (.st [.d (eL24 r), .fn (.func 111) [] []]))]) := by
 refine acall_of_body mixed Tryd.func74 rfl (by rfl) ?_
 intro C hro hgl hb0
 unfold F74_queue_nonces at h
 refine aw_rs ?_
 refine .n (f_box 1 (by rfl) (by rfl)) rfl (.c rfl .nil) rfl ?_
 refine .n (f_alloc 2 (by rfl) zrv114) rfl .nil rfl ?_
 refine .z ?_
 refine .v (f_fieldAddr (n := 32) (by rfl) fl26_1 (by decide)) rfl (.c rfl .nil) .nil ?_
 refine .l 1 (0 + 32) [1] (.d (eGLine a0)) (.d (eL24 a0.Txs)) ty24 ?_
 refine .v (f_build (xs := [(0, .d (eL24 a0.Txs)), (1, .fn (.func 111) [] [])]) (z' := .st [.d (eL24 a0.Txs), .fn (.func 111) [] []]) (by rfl) zrv114 ag114 rfl (by rfl) ⟨_, _, _, rfl, pl114_0, rfl, rfl, ⟨_, _, _, rfl, pl114_1, rfl, rfl, trivial⟩⟩ (by rfl) (by rfl)) rfl (.c rfl (.c rfl .nil)) .nil ?_
 refine .s (f_store (n := 0) (o := 2) (off := 0) (p := []) (c := .st [.d (.val (.slice none 0 0)), .d (.val .nilFunc)]) (old := .st [.d (.val (.slice none 0 0)), .d (.val .nilFunc)]) (z := .st [.d (eL24 a0.Txs), .fn (.func 111) [] []]) (c' := .st [.d (eL24 a0.Txs), .fn (.func 111) [] []]) rfl rfl (by rfl) ty114 (by rfl)) rfl (.c rfl (.c rfl .nil)) (.cons rfl .nil) ?_
 refine .nil (aq_then ?_)
 refine aw_ret ?_
 obtain rfl := Option.some.inj h
 refine aq_weak (s' := ⟨[(2, .ptr 2 0 [])], [(2, .av (.st [.d (eL24 a0.Txs), .fn (.func 111) [] []]))], []⟩) id hb0 (.keep rfl .nil) (.keep rfl .nil) rfl (by rfl) ?_
 exact aq_fin1 (.cell rfl rfl ty114 (by rfl) .nil) rfl ⟨rfl, rfl⟩

/- 69: beadroll/beadrolllaw21.line -/
def F69_beadrolllaw21_line_s1 (a0 : (List GShard)) (a1 : (List Int)) (z0_0 : Int) (z1_0 : Int) : Option ((Int) ⊕ ((Unit) ⊕ ((List GTx)))) :=
  ((rd a0 z0_0).bind fun (x2 : GShard) => (if (decide (z1_0 < ((x2.Lines).length : Int))) = true then ((rd a0 z0_0).bind fun (x6 : GShard) => ((rd x6.Lines z1_0).bind fun (x9 : GLine) => (if (decide (x9.From = a1)) = true then ((rd a0 z0_0).bind fun (x13 : GShard) => ((rd x13.Lines z1_0).bind fun (x16 : GLine) => some (.inr (.inr x16.Txs)))) else some (.inl (IntKind.i64.wrap (z1_0 + (1 : Int))))))) else some (.inr (.inl ()))))
def F69_beadrolllaw21_line_s0 (n : Nat) (a0 : (List GShard)) (a1 : (List Int)) (z0_0 : Int) : Option ((Int) ⊕ ((Unit) ⊕ ((List GTx)))) :=
  (if (decide (z0_0 < ((a0).length : Int))) = true then ((loopF (fun (z : Int) => F69_beadrolllaw21_line_s1 a0 a1 z0_0 z) n (0 : Int)).bind (Sum.elim (fun (j19 : Unit) => some (.inl (IntKind.i64.wrap (z0_0 + (1 : Int))))) (fun (j19 : (List GTx)) => some (.inr (.inr j19))))) else some (.inr (.inl ())))
def F69_beadrolllaw21_line (n : Nat) (a0 : (List GShard)) (a1 : (List Int)) : Option ((List GTx)) :=
  ((loopF (fun (z : Int) => F69_beadrolllaw21_line_s0 n a0 a1 z) n (0 : Int)).bind (Sum.elim (fun (j21 : Unit) => some ([])) (fun (j21 : (List GTx)) => some j21)))
theorem F69_beadrolllaw21_line_ok {n : Nat} {a0 : (List GShard)} {a1 : (List Int)} {r : (List GTx)} (h : F69_beadrolllaw21_line n a0 a1 = some r) :
    ACall Tryd.prog GS 69 [.d (eL41 a0), .d (eA22 a1)] [] (fun r' hp' => r' = .d (eL24 r) ∧ hp' = []) := by
 refine acall_of_body mixed Tryd.func69 rfl (by rfl) ?_
 intro C hro hgl hb0
 unfold F69_beadrolllaw21_line at h
 refine aw_rs ?_
 refine .n (f_box 3 (by rfl) (by rfl)) rfl (.c rfl .nil) rfl ?_
 refine .a rfl ?_
 refine .nil (aq_then ?_)
 refine aw_seq ?_
 refine aw_rs ?_
 refine .a rfl ?_
 refine .nil (aq_then ?_)
 refine aw_block ?_
 refine aw_weak (s' := ⟨[(0, .d (eL41 a0)), (3, .ptr 3 0 []), (5, .d (.val (.int .i64 (0 : Int))))], [(3, .av (.d (eA22 a1)))], []⟩) id hb0 (.keep rfl (.keep rfl (.keep rfl .nil))) (.keep rfl .nil) rfl (by rfl) ?_
 obtain ⟨o21, ho22, h⟩ := bind_some h
 refine aw_loopX (σ := Int) (fun z => ⟨[(0, .d (eL41 a0)), (3, .ptr 3 0 []), (5, .d (.val (.int .i64 z)))], [(3, .av (.d (eA22 a1)))], []⟩) (Sum.elim (fun _ => .exit 0) (fun _ => .ret)) (Sum.elim (fun j21 => ⟨[], [], []⟩) (fun j21 => ⟨[(4, .d (eL24 j21))], [], []⟩)) ho22 (by intro b; rcases b with _ | _ <;> rfl) ?_ ?_
 ·clear h ho22
  intro z0_0 o h
  change F69_beadrolllaw21_line_s0 n a0 a1 z0_0 = some o at h
  unfold F69_beadrolllaw21_line_s0 at h
  show AW _ _ _ ⟨[(0, .d (eL41 a0)), (3, .ptr 3 0 []), (5, .d (.val (.int .i64 z0_0)))], [(3, .av (.d (eA22 a1)))], []⟩
  refine aw_seq ?_
  refine aw_rs ?_
  refine .m rfl ?_
  refine .m rfl ?_
  refine .v (f_lenD (n := (a0).length) (by rfl) sl41 rfl (by simp)) rfl (.c rfl .nil) .nil ?_
  refine .b rfl rfl rfl ?_
  refine .nil (aq_then ?_)
  refine aw_cond rfl (fun hc1 => ?_) (fun hc1 => ?_)
  ·replace h := ite_t hc1 h
   refine aw_skip ?_
   refine aq_then ?_
   refine aw_seq ?_
   refine aw_block ?_
   refine aw_rs ?_
   refine .a rfl ?_
   refine .nil (aq_then ?_)
   refine aw_block ?_
   refine aw_weak (s' := ⟨[(0, .d (eL41 a0)), (3, .ptr 3 0 []), (5, .d (.val (.int .i64 z0_0))), (6, .d (.val (.int .i64 (0 : Int))))], [(3, .av (.d (eA22 a1)))], []⟩) id hb0 (.keep rfl (.keep rfl (.keep rfl (.keep rfl .nil)))) (.keep rfl .nil) rfl (by rfl) ?_
   obtain ⟨o19, ho20, h⟩ := bind_some h
   refine aw_loopX (σ := Int) (fun z => ⟨[(0, .d (eL41 a0)), (3, .ptr 3 0 []), (5, .d (.val (.int .i64 z0_0))), (6, .d (.val (.int .i64 z)))], [(3, .av (.d (eA22 a1)))], []⟩) (Sum.elim (fun _ => .exit 2) (fun _ => .ret)) (Sum.elim (fun j19 => ⟨[(0, .d (eL41 a0)), (3, .ptr 3 0 []), (5, .d (.val (.int .i64 z0_0)))], [(3, .av (.d (eA22 a1)))], []⟩) (fun j19 => ⟨[(4, .d (eL24 j19))], [], []⟩)) ho20 (by intro b; rcases b with _ | _ <;> rfl) ?_ ?_
   ·clear h ho20
    intro z1_0 o h
    change F69_beadrolllaw21_line_s1 a0 a1 z0_0 z1_0 = some o at h
    unfold F69_beadrolllaw21_line_s1 at h
    show AW _ _ _ ⟨[(0, .d (eL41 a0)), (3, .ptr 3 0 []), (5, .d (.val (.int .i64 z0_0))), (6, .d (.val (.int .i64 z1_0)))], [(3, .av (.d (eA22 a1)))], []⟩
    refine aw_seq ?_
    refine aw_rs ?_
    refine .m rfl ?_
    refine .m rfl ?_
    refine .m rfl ?_
    obtain ⟨x2, hx3, h⟩ := bind_some h
    obtain ⟨hx4, hx3⟩ := rd_some hx3
    refine .v (f_indexS (by rfl) sl41 hx4 (rd_map _ hx3)) rfl (.c rfl (.c rfl .nil)) .nil ?_
    refine .v (f_fieldAddrR (by rfl) fl74_0 (by decide) rfl) rfl (.c rfl .nil) .nil ?_
    refine .v (f_loadR (z := (eL72 x2.Lines)) (by rfl) ty72) rfl (.c rfl .nil) .nil ?_
    refine .v (f_lenD (n := (x2.Lines).length) (by rfl) sl72 rfl (by simp)) rfl (.c rfl .nil) .nil ?_
    refine .b rfl rfl rfl ?_
    refine .nil (aq_then ?_)
    refine aw_cond rfl (fun hc5 => ?_) (fun hc5 => ?_)
    ·replace h := ite_t hc5 h
     refine aw_skip ?_
     refine aq_then ?_
     refine aw_seq ?_
     refine aw_block ?_
     refine aw_rds ?_
     refine .v (f_move (by rfl)) rfl (.c rfl .nil) .nil ?_
     refine .v (f_move (by rfl)) rfl (.c rfl .nil) .nil ?_
     obtain ⟨x6, hx7, h⟩ := bind_some h
     obtain ⟨hx8, hx7⟩ := rd_some hx7
     refine .v (f_indexS (by rfl) sl41 hx8 (rd_map _ hx7)) rfl (.c rfl (.c rfl .nil)) .nil ?_
     refine .v (f_fieldAddrR (by rfl) fl74_0 (by decide) rfl) rfl (.c rfl .nil) .nil ?_
     refine .v (f_loadR (z := (eL72 x6.Lines)) (by rfl) ty72) rfl (.c rfl .nil) .nil ?_
     refine .v (f_move (by rfl)) rfl (.c rfl .nil) .nil ?_
     obtain ⟨x9, hx10, h⟩ := bind_some h
     obtain ⟨hx11, hx10⟩ := rd_some hx10
     refine .v (f_indexS (by rfl) sl72 hx11 (rd_map _ hx10)) rfl (.c rfl (.c rfl .nil)) .nil ?_
     refine .v (f_fieldAddrR (by rfl) fl26_0 (by decide) rfl) rfl (.c rfl .nil) .nil ?_
     refine .v (f_loadR (z := (eA22 x9.From)) (by rfl) ty23) rfl (.c rfl .nil) .nil ?_
     refine .v (f_load (n := 0) (o := 3) (off := 0) (p := []) (c := .d (eA22 a1)) (z := .d (eA22 a1)) (by rfl) rfl ty23 (by rfl)) rfl (.c rfl .nil) (.cons rfl .nil) ?_
     refine .v (f_eqlT (by rfl) (fit23 _) (fit23 _) (by rfl) (by rfl) gd23 (eq_eA22 _ _)) rfl (.c rfl (.c rfl .nil)) .nil ?_
     refine .nil (by kernel_rfl) ?_
     refine aw_cond rfl (fun hc12 => ?_) (fun hc12 => ?_)
     ·replace h := ite_t hc12 h
      refine aw_rs ?_
      refine .m rfl ?_
      refine .m rfl ?_
      obtain ⟨x13, hx14, h⟩ := bind_some h
      obtain ⟨hx15, hx14⟩ := rd_some hx14
      refine .v (f_indexS (by rfl) sl41 hx15 (rd_map _ hx14)) rfl (.c rfl (.c rfl .nil)) .nil ?_
      refine .v (f_fieldAddrR (by rfl) fl74_0 (by decide) rfl) rfl (.c rfl .nil) .nil ?_
      refine .v (f_loadR (z := (eL72 x13.Lines)) (by rfl) ty72) rfl (.c rfl .nil) .nil ?_
      refine .m rfl ?_
      obtain ⟨x16, hx17, h⟩ := bind_some h
      obtain ⟨hx18, hx17⟩ := rd_some hx17
      refine .v (f_indexS (by rfl) sl72 hx18 (rd_map _ hx17)) rfl (.c rfl (.c rfl .nil)) .nil ?_
      refine .v (f_fieldAddrR (by rfl) fl26_1 (by decide) rfl) rfl (.c rfl .nil) .nil ?_
      refine .v (f_loadR (z := (eL24 x16.Txs)) (by rfl) ty24) rfl (.c rfl .nil) .nil ?_
      refine .a rfl ?_
      refine .nil (aq_then ?_)
      refine aw_ret ?_
      refine aq_block_ret ?_
      refine aq_then_ret ?_
      obtain rfl := Option.some.inj h
      refine aq_weak (s' := ⟨[(4, .d (eL24 x16.Txs))], [], []⟩) id hb0 (.keep rfl .nil) .nil rfl (by rfl) ?_
      exact jq
     replace h := ite_f hc12 h
     refine aw_skip ?_
     refine aq_block ?_
     refine aq_then ?_
     refine aw_r ?_
     refine .m rfl ?_
     refine .b rfl rfl rfl ?_
     refine .a rfl ?_
     refine .nil ?_
     obtain rfl := Option.some.inj h
     refine aq_weak (s' := ⟨[(0, .d (eL41 a0)), (3, .ptr 3 0 []), (5, .d (.val (.int .i64 z0_0))), (6, .d (.val (.int .i64 (IntKind.i64.wrap (z1_0 + (1 : Int))))))], [(3, .av (.d (eA22 a1)))], []⟩) id hb0 (.keep rfl (.keep rfl (.keep rfl (.keep rfl .nil)))) (.keep rfl .nil) rfl (by rfl) ?_
     exact jq
    replace h := ite_f hc5 h
    refine aw_exit ?_
    refine aq_then_exit ?_
    obtain rfl := Option.some.inj h
    refine aq_weak (s' := ⟨[(0, .d (eL41 a0)), (3, .ptr 3 0 []), (5, .d (.val (.int .i64 z0_0)))], [(3, .av (.d (eA22 a1)))], []⟩) id hb0 (.keep rfl (.keep rfl (.keep rfl .nil))) (.keep rfl .nil) rfl (by rfl) ?_
    exact jq
   rcases o19 with j19 | j19
   ·replace h := elim_l h
    refine aq_block_exit ?_
    refine aq_block ?_
    refine aq_then ?_
    refine aw_r ?_
    refine .m rfl ?_
    refine .b rfl rfl rfl ?_
    refine .a rfl ?_
    refine .nil ?_
    obtain rfl := Option.some.inj h
    refine aq_weak (s' := ⟨[(0, .d (eL41 a0)), (3, .ptr 3 0 []), (5, .d (.val (.int .i64 (IntKind.i64.wrap (z0_0 + (1 : Int))))))], [(3, .av (.d (eA22 a1)))], []⟩) id hb0 (.keep rfl (.keep rfl (.keep rfl .nil))) (.keep rfl .nil) rfl (by rfl) ?_
    exact jq
   replace h := elim_r h
   refine aq_block_ret ?_
   refine aq_block_ret ?_
   refine aq_then_ret ?_
   obtain rfl := Option.some.inj h
   refine aq_weak (s' := ⟨[(4, .d (eL24 j19))], [], []⟩) id hb0 (.keep rfl .nil) .nil rfl (by rfl) ?_
   exact jq
  replace h := ite_f hc1 h
  refine aw_exit ?_
  refine aq_then_exit ?_
  obtain rfl := Option.some.inj h
  refine aq_weak (s' := ⟨[], [], []⟩) id hb0 .nil .nil rfl (by rfl) ?_
  exact jq
 rcases o21 with j21 | j21
 ·replace h := elim_l h
  refine aq_block_exit ?_
  refine aq_then ?_
  refine aw_rs ?_
  refine .a rfl ?_
  refine .nil (aq_then ?_)
  refine aw_ret ?_
  obtain rfl := Option.some.inj h
  refine aq_freeze [] [(4, .d (eL24 ([])))] .nil (.cons rfl .nil .nil) ?_
  exact aq_finp hb0 rfl (.tmp rfl (by rfl) .nil) (by rfl) rfl ⟨rfl, rfl⟩
 replace h := elim_r h
 refine aq_block_ret ?_
 refine aq_then_ret ?_
 obtain rfl := Option.some.inj h
 exact aq_finp hb0 rfl (.tmp rfl (by rfl) .nil) (by rfl) rfl ⟨rfl, rfl⟩

/- 23: beadroll/pool.At -/
def F23_pool_At (n : Nat) (a0 : (List Int)) (a1 : Int) : Option (Int × Int) :=
  (((if (decide (a1 < (1 : Int))) = true then some true else some (decide (a1 > (8 : Int))))).bind fun (o2 : Bool) => (if o2 = true then some ((0 : Int), (2 : Int)) else ((rd a0 (31 : Int)).bind fun (x4 : Int) => (if a1 = 0 then none else some ((Int.tmod (IntKind.i64.wrap x4) a1), (0 : Int))))))
theorem F23_pool_At_ok {n : Nat} {a0 : (List Int)} {a1 : Int} {r : Int × Int} (h : F23_pool_At n a0 a1 = some r) :
    ACall Tryd.prog GS 23 [.d (eA22 a0), .d (.val (.int .i64 a1))] [] (fun r' hp' => r' = .res [.d (.val (.int .i64 r.1)), .d (.val (.int .i64 r.2))] ∧ hp' = []) := by
 refine acall_of_body mixed Tryd.func23 rfl (by rfl) ?_
 intro C hro hgl hb0
 unfold F23_pool_At at h
 refine aw_rs ?_
 refine .n (f_box 2 (by rfl) (by rfl)) rfl (.c rfl .nil) rfl ?_
 refine .a rfl ?_
 refine .a rfl ?_
 refine .nil (aq_then ?_)
 refine aw_seq ?_
 refine aw_seq ?_
 obtain ⟨o2, ho8, h⟩ := bind_some h
 refine aw_join (.normal) ⟨[(1, .d (.val (.int .i64 a1))), (2, .ptr 2 0 []), (11, .d (.val (.bool o2)))], [(2, .av (.d (eA22 a0)))], []⟩ ?_ ?_
 ·replace h := ho8
  refine aw_r ?_
  refine .m rfl ?_
  refine .b rfl rfl rfl ?_
  refine .m rfl ?_
  rcases Bool.eq_false_or_eq_true (decide (a1 < (1 : Int))) with hc1 | hc1
  ·replace h := ite_t hc1 h
   refine .off rfl rfl rfl hc1 rfl (by rfl) ?_
   refine .off rfl rfl rfl hc1 rfl (by rfl) ?_
   refine .v (f_pick_true (by rfl) hc1) rfl (.c rfl (.c rfl .nil)) .nil ?_
   refine .nil ?_
   obtain rfl := Option.some.inj h
   refine aq_weak (s' := ⟨[(1, .d (.val (.int .i64 a1))), (2, .ptr 2 0 []), (11, .d (.val (.bool true)))], [(2, .av (.d (eA22 a0)))], []⟩) id hb0 (.keep rfl (.keep rfl (.keep rfl .nil))) (.keep rfl .nil) rfl (by rfl) ?_
   exact jq
  replace h := ite_f hc1 h
  refine .gv (f_move (by rfl)) rfl rfl rfl hc1 (.c rfl .nil) .nil ?_
  refine .gv (f_binI (by rfl) rfl (by rfl)) rfl rfl rfl hc1 (.c rfl (.c rfl .nil)) .nil ?_
  refine .v (f_pick_false (by rfl) hc1) rfl (.c rfl (.c rfl .nil)) .nil ?_
  refine .nil ?_
  obtain rfl := Option.some.inj h
  refine aq_weak (s' := ⟨[(1, .d (.val (.int .i64 a1))), (2, .ptr 2 0 []), (11, .d (.val (.bool (decide (a1 > (8 : Int))))))], [(2, .av (.d (eA22 a0)))], []⟩) id hb0 (.keep rfl (.keep rfl (.keep rfl .nil))) (.keep rfl .nil) rfl (by rfl) ?_
  exact jq
 refine aq_then ?_
 refine aw_cond rfl (fun hc3 => ?_) (fun hc3 => ?_)
 ·replace h := ite_t hc3 h
  refine aw_rs ?_
  refine .a rfl ?_
  refine .a rfl ?_
  refine .nil (aq_then ?_)
  refine aw_ret ?_
  refine aq_then_ret ?_
  obtain rfl := Option.some.inj h
  exact aq_finp hb0 rfl (.tmp rfl (by rfl) (.tmp rfl (by rfl) .nil)) (by rfl) rfl ⟨rfl, rfl⟩
 replace h := ite_f hc3 h
 refine aw_skip ?_
 refine aq_then ?_
 refine aw_rs ?_
 obtain ⟨x4, hx5, h⟩ := bind_some h
 obtain ⟨hx6, hx5⟩ := rd_some hx5
 refine .v (f_indexO (by rfl) ar23 rfl hx6 (rd_map _ hx5)) rfl (.c rfl (.c rfl .nil)) (.cons rfl .nil) ?_
 refine .v (f_load (n := 0) (o := 2) (off := (0 + ((31 : Int)).toNat * 1)) (p := [((31 : Int)).toNat]) (c := .d (eA22 a0)) (z := .d (.val (.int .u8 x4))) (by rfl) (at_map _ hx5 (by simp)) ty5 (by rfl)) rfl (.c rfl .nil) (.cons rfl .nil) ?_
 refine .v (f_convI (by rfl) un5 un3) rfl (.c rfl .nil) .nil ?_
 refine .m rfl ?_
 obtain ⟨hz7, h⟩ := ifn h
 refine .v (f_binI (by rfl) (rem_ok hz7) (by rfl)) rfl (.c rfl (.c rfl .nil)) .nil ?_
 refine .a rfl ?_
 refine .a rfl ?_
 refine .nil (aq_then ?_)
 refine aw_ret ?_
 obtain rfl := Option.some.inj h
 exact aq_finp hb0 rfl (.tmp rfl (by rfl) (.tmp rfl (by rfl) .nil)) (by rfl) rfl ⟨rfl, rfl⟩

/- 25: beadroll/pool.New -/
def F25_pool_New (n : Nat) (a0 : Int) : Option ((List GShard) × Int) :=
  (((if (decide (a0 < (1 : Int))) = true then some true else some (decide (a0 > (8 : Int))))).bind fun (o2 : Bool) => (if o2 = true then some ([], (2 : Int)) else (if 0 ≤ a0 ∧ a0 ≤ 1073741824 then some ((List.replicate (a0).toNat (⟨[]⟩ : GShard)), (0 : Int)) else none)))
theorem F25_pool_New_ok {n : Nat} {a0 : Int} {r : (List GShard) × Int} (h : F25_pool_New n a0 = some r) :
    ACall Tryd.prog GS 25 [.d (.val (.int .i64 a0))] [] (fun r' hp' => r' = .res [.d (eL41 r.1), .d (.val (.int .i64 r.2))] ∧ hp' = []) := by
 refine acall_of_body mixed Tryd.func25 rfl (by rfl) ?_
 intro C hro hgl hb0
 unfold F25_pool_New at h
 refine aw_rs ?_
 refine .a rfl ?_
 refine .a rfl ?_
 refine .nil (aq_then ?_)
 refine aw_seq ?_
 refine aw_seq ?_
 obtain ⟨o2, ho5, h⟩ := bind_some h
 refine aw_join (.normal) ⟨[(0, .d (.val (.int .i64 a0))), (9, .d (.val (.bool o2)))], [], []⟩ ?_ ?_
 ·replace h := ho5
  refine aw_r ?_
  refine .m rfl ?_
  refine .b rfl rfl rfl ?_
  refine .m rfl ?_
  rcases Bool.eq_false_or_eq_true (decide (a0 < (1 : Int))) with hc1 | hc1
  ·replace h := ite_t hc1 h
   refine .off rfl rfl rfl hc1 rfl (by rfl) ?_
   refine .off rfl rfl rfl hc1 rfl (by rfl) ?_
   refine .v (f_pick_true (by rfl) hc1) rfl (.c rfl (.c rfl .nil)) .nil ?_
   refine .nil ?_
   obtain rfl := Option.some.inj h
   refine aq_weak (s' := ⟨[(0, .d (.val (.int .i64 a0))), (9, .d (.val (.bool true)))], [], []⟩) id hb0 (.keep rfl (.keep rfl .nil)) .nil rfl (by rfl) ?_
   exact jq
  replace h := ite_f hc1 h
  refine .gv (f_move (by rfl)) rfl rfl rfl hc1 (.c rfl .nil) .nil ?_
  refine .gv (f_binI (by rfl) rfl (by rfl)) rfl rfl rfl hc1 (.c rfl (.c rfl .nil)) .nil ?_
  refine .v (f_pick_false (by rfl) hc1) rfl (.c rfl (.c rfl .nil)) .nil ?_
  refine .nil ?_
  obtain rfl := Option.some.inj h
  refine aq_weak (s' := ⟨[(0, .d (.val (.int .i64 a0))), (9, .d (.val (.bool (decide (a0 > (8 : Int))))))], [], []⟩) id hb0 (.keep rfl (.keep rfl .nil)) .nil rfl (by rfl) ?_
  exact jq
 refine aq_then ?_
 refine aw_cond rfl (fun hc3 => ?_) (fun hc3 => ?_)
 ·replace h := ite_t hc3 h
  refine aw_rs ?_
  refine .a rfl ?_
  refine .a rfl ?_
  refine .nil (aq_then ?_)
  refine aw_ret ?_
  refine aq_then_ret ?_
  obtain rfl := Option.some.inj h
  refine aq_freeze [] [(2, .d (eL41 ([]))), (3, .d (.val (.int .i64 (2 : Int))))] .nil (.cons rfl .nil (.keep rfl .nil)) ?_
  exact aq_finp hb0 rfl (.tmp rfl (by rfl) (.tmp rfl (by rfl) .nil)) (by rfl) rfl ⟨rfl, rfl⟩
 replace h := ite_f hc3 h
 refine aw_skip ?_
 refine aq_then ?_
 refine aw_rs ?_
 refine .m rfl ?_
 obtain ⟨hb4, h⟩ := ifp h
 refine .n (f_makeSZ (n := a0) (m := ((List.replicate (a0).toNat (⟨[]⟩ : GShard))).length) (z := (.st [(.val (.slice none 0 0))])) (z' := (eGShard (⟨[]⟩ : GShard))) (zs := ((List.replicate (a0).toNat (⟨[]⟩ : GShard))).map eGShard) 1052 (by rfl) el41 zeln41 (by rfl) hb4.1 (by omega) (by omega) (SubD.st ⟨(SubD.nil 33), trivial⟩) (by simp) (by simp)) rfl (.c rfl .nil) rfl ?_
 refine .a rfl ?_
 refine .a rfl ?_
 refine .nil (aq_then ?_)
 refine aw_ret ?_
 obtain rfl := Option.some.inj h
 refine aq_freeze [(1052, (.arr 1 (((List.replicate (a0).toNat (⟨[]⟩ : GShard))).length) (((List.replicate (a0).toNat (⟨[]⟩ : GShard))).map eGShard)))] [(2, .d (eL41 (List.replicate (a0).toNat (⟨[]⟩ : GShard)))), (3, .d (.val (.int .i64 (0 : Int))))] (.cons rfl .nil) (.cons rfl (.whole (.head _)) (.keep rfl .nil)) ?_
 exact aq_finp hb0 rfl (.tmp rfl (by rfl) (.tmp rfl (by rfl) .nil)) (by rfl) rfl ⟨rfl, rfl⟩

/- 37: beadroll/tx.Sign -/
def F37_tx_Sign (n : Nat) (a0 : GTx) : Option (GTx) :=
  ((F85_tx_sign n a0).bind fun (y1 : (List Int)) => some ({ a0 with Sign := y1 }))
theorem F37_tx_Sign_ok {n : Nat} {a0 : GTx} {r : GTx} (h : F37_tx_Sign n a0 = some r) :
    ACall Tryd.prog GS 37 [.d (eGTx a0)] [] (fun r' hp' => r' = .d (eGTx r) ∧ hp' = []) := by
 refine acall_of_body mixed Tryd.func37 rfl (by rfl) ?_
 intro C hro hgl hb0
 unfold F37_tx_Sign at h
 refine aw_rs ?_
 refine .n (f_box 1 (by rfl) (by rfl)) rfl (.c rfl .nil) rfl ?_
 refine .n (f_alloc 2 (by rfl) zr36) rfl .nil rfl ?_
 refine .z ?_
 refine .l 1 0 [] (.d (eGTx a0)) (.d (eGTx a0)) ty36 ?_
 obtain ⟨y1, hy2, h⟩ := bind_some h
 refine .v (f_callP hgl (by rfl) en85 rfl (by rfl) (by rfl) (by rfl) (F85_tx_sign_ok hy2)) rfl (.c rfl .nil) .nil ?_
 refine .v (f_fieldAddr (n := 67) (by rfl) fl36_5 (by decide)) rfl (.c rfl .nil) .nil ?_
 refine .s (f_store (n := 0) (o := 1) (off := (0 + 67)) (p := [5]) (c := .d (eGTx a0)) (old := .d (eA22 a0.Sign)) (z := .d (eA22 y1)) (c' := .d (eGTx ({ a0 with Sign := y1 }))) rfl rfl (by rfl) ty23 (by rfl)) rfl (.c rfl (.c rfl .nil)) (.cons rfl .nil) ?_
 refine .z ?_
 refine .l 1 0 [] (.d (eGTx ({ a0 with Sign := y1 }))) (.d (eGTx ({ a0 with Sign := y1 }))) ty36 ?_
 refine .s (f_store (n := 0) (o := 2) (off := 0) (p := []) (c := .d (eGTx (⟨(List.replicate 32 (0 : Int)), (List.replicate 32 (0 : Int)), (0 : Int), (0 : Int), (0 : Int), (List.replicate 32 (0 : Int))⟩ : GTx))) (old := .d (eGTx (⟨(List.replicate 32 (0 : Int)), (List.replicate 32 (0 : Int)), (0 : Int), (0 : Int), (0 : Int), (List.replicate 32 (0 : Int))⟩ : GTx))) (z := .d (eGTx ({ a0 with Sign := y1 }))) (c' := .d (eGTx ({ a0 with Sign := y1 }))) rfl rfl (by rfl) ty36 (by rfl)) rfl (.c rfl (.c rfl .nil)) (.cons rfl .nil) ?_
 refine .nil (aq_then ?_)
 refine aw_ret ?_
 obtain rfl := Option.some.inj h
 exact aq_finp hb0 rfl (.cell rfl rfl ty36 (by rfl) .nil) (by rfl) rfl ⟨rfl, rfl⟩

/- 62: beadroll/beadrollref06.Great -/
def F62_beadrollref06_Great_s0 (a0 : GTree) (a1 : Int) (z0_0 : Int) : Option ((Int) ⊕ ((Unit) ⊕ (Unit))) :=
  (((if (decide (z0_0 < ((a0.Nodes).length : Int))) = true then some (decide (z0_0 ≤ a1)) else some false)).bind fun (o2 : Bool) => (if o2 = true then ((rd a0.Nodes z0_0).bind fun (x4 : GNode) => (if (decide (((x4.Value).length : Int) > (100 : Int))) = true then some (.inr (.inr ())) else some (.inl (IntKind.i64.wrap (z0_0 + (1 : Int)))))) else some (.inr (.inl ()))))
def F62_beadrollref06_Great (n : Nat) (a0 : GTree) (a1 : Int) : Option (Bool) :=
  ((loopF (fun (z : Int) => F62_beadrollref06_Great_s0 a0 a1 z) n (0 : Int)).bind (Sum.elim (fun (j9 : Unit) => some (decide (((a0.Nodes).length : Int) > a1))) (fun (j9 : Unit) => some true)))
theorem F62_beadrollref06_Great_ok {n : Nat} {a0 : GTree} {a1 : Int} {r : Bool} (h : F62_beadrollref06_Great n a0 a1 = some r) :
    ACall Tryd.prog GS 62 [.d (eGTree a0), .d (.val (.int .i64 a1))] [] (fun r' hp' => r' = .d (.val (.bool r)) ∧ hp' = []) := by
 refine acall_of_body mixed Tryd.func62 rfl (by rfl) ?_
 intro C hro hgl hb0
 unfold F62_beadrollref06_Great at h
 refine aw_rs ?_
 refine .n (f_box 2 (by rfl) (by rfl)) rfl (.c rfl .nil) rfl ?_
 refine .a rfl ?_
 refine .nil (aq_then ?_)
 refine aw_seq ?_
 refine aw_rs ?_
 refine .a rfl ?_
 refine .nil (aq_then ?_)
 refine aw_block ?_
 refine aw_weak (s' := ⟨[(1, .d (.val (.int .i64 a1))), (2, .ptr 2 0 []), (5, .d (.val (.int .i64 (0 : Int))))], [(2, .av (.d (eGTree a0)))], []⟩) id hb0 (.keep rfl (.keep rfl (.keep rfl .nil))) (.keep rfl .nil) rfl (by rfl) ?_
 obtain ⟨o9, ho10, h⟩ := bind_some h
 refine aw_loopX (σ := Int) (fun z => ⟨[(1, .d (.val (.int .i64 a1))), (2, .ptr 2 0 []), (5, .d (.val (.int .i64 z)))], [(2, .av (.d (eGTree a0)))], []⟩) (Sum.elim (fun _ => .exit 0) (fun _ => .ret)) (Sum.elim (fun j9 => ⟨[(1, .d (.val (.int .i64 a1))), (2, .ptr 2 0 [])], [(2, .av (.d (eGTree a0)))], []⟩) (fun j9 => ⟨[(4, .d (.val (.bool true)))], [], []⟩)) ho10 (by intro b; rcases b with _ | _ <;> rfl) ?_ ?_
 ·clear h ho10
  intro z0_0 o h
  change F62_beadrollref06_Great_s0 a0 a1 z0_0 = some o at h
  unfold F62_beadrollref06_Great_s0 at h
  show AW _ _ _ ⟨[(1, .d (.val (.int .i64 a1))), (2, .ptr 2 0 []), (5, .d (.val (.int .i64 z0_0)))], [(2, .av (.d (eGTree a0)))], []⟩
  refine aw_seq ?_
  refine aw_seq ?_
  obtain ⟨o2, ho8, h⟩ := bind_some h
  refine aw_join (.normal) ⟨[(1, .d (.val (.int .i64 a1))), (2, .ptr 2 0 []), (5, .d (.val (.int .i64 z0_0))), (15, .d (.val (.bool o2)))], [(2, .av (.d (eGTree a0)))], []⟩ ?_ ?_
  ·replace h := ho8
   refine aw_r ?_
   refine .m rfl ?_
   refine .v (f_fieldAddr (n := 0) (by rfl) fl90_0 (by decide)) rfl (.c rfl .nil) .nil ?_
   refine .l 2 (0 + 0) [0] (.d (eGTree a0)) (.d (eL88 a0.Nodes)) ty88 ?_
   refine .v (f_lenD (n := (a0.Nodes).length) (by rfl) sl88 rfl (by simp)) rfl (.c rfl .nil) .nil ?_
   refine .b rfl rfl rfl ?_
   refine .m rfl ?_
   rcases Bool.eq_false_or_eq_true (decide (z0_0 < ((a0.Nodes).length : Int))) with hc1 | hc1
   ·replace h := ite_t hc1 h
    refine .gv (f_move (by rfl)) rfl rfl rfl hc1 (.c rfl .nil) .nil ?_
    refine .gv (f_move (by rfl)) rfl rfl rfl hc1 (.c rfl .nil) .nil ?_
    refine .gv (f_binI (by rfl) rfl (by rfl)) rfl rfl rfl hc1 (.c rfl (.c rfl .nil)) .nil ?_
    refine .v (f_pick_true (by rfl) hc1) rfl (.c rfl (.c rfl .nil)) .nil ?_
    refine .nil ?_
    obtain rfl := Option.some.inj h
    refine aq_weak (s' := ⟨[(1, .d (.val (.int .i64 a1))), (2, .ptr 2 0 []), (5, .d (.val (.int .i64 z0_0))), (15, .d (.val (.bool (decide (z0_0 ≤ a1)))))], [(2, .av (.d (eGTree a0)))], []⟩) id hb0 (.keep rfl (.keep rfl (.keep rfl (.keep rfl .nil)))) (.keep rfl .nil) rfl (by rfl) ?_
    exact jq
   replace h := ite_f hc1 h
   refine .off rfl rfl rfl hc1 rfl (by rfl) ?_
   refine .off rfl rfl rfl hc1 rfl (by rfl) ?_
   refine .off rfl rfl rfl hc1 rfl (by rfl) ?_
   refine .v (f_pick_false (by rfl) hc1) rfl (.c rfl (.c rfl .nil)) .nil ?_
   refine .nil ?_
   obtain rfl := Option.some.inj h
   refine aq_weak (s' := ⟨[(1, .d (.val (.int .i64 a1))), (2, .ptr 2 0 []), (5, .d (.val (.int .i64 z0_0))), (15, .d (.val (.bool false)))], [(2, .av (.d (eGTree a0)))], []⟩) id hb0 (.keep rfl (.keep rfl (.keep rfl (.keep rfl .nil)))) (.keep rfl .nil) rfl (by rfl) ?_
   exact jq
  refine aq_then ?_
  refine aw_cond rfl (fun hc3 => ?_) (fun hc3 => ?_)
  ·replace h := ite_t hc3 h
   refine aw_skip ?_
   refine aq_then ?_
   refine aw_seq ?_
   refine aw_block ?_
   refine aw_rs ?_
   refine .v (f_fieldAddr (n := 0) (by rfl) fl90_0 (by decide)) rfl (.c rfl .nil) .nil ?_
   refine .l 2 (0 + 0) [0] (.d (eGTree a0)) (.d (eL88 a0.Nodes)) ty88 ?_
   refine .m rfl ?_
   obtain ⟨x4, hx5, h⟩ := bind_some h
   obtain ⟨hx6, hx5⟩ := rd_some hx5
   refine .v (f_indexS (by rfl) sl88 hx6 (rd_map _ hx5)) rfl (.c rfl (.c rfl .nil)) .nil ?_
   refine .v (f_fieldAddrR (by rfl) fl141_2 (by decide) rfl) rfl (.c rfl .nil) .nil ?_
   refine .v (f_loadR (z := (eL139 x4.Value)) (by rfl) ty139) rfl (.c rfl .nil) .nil ?_
   refine .v (f_lenD (n := (x4.Value).length) (by rfl) sl139 rfl (by simp)) rfl (.c rfl .nil) .nil ?_
   refine .b rfl rfl rfl ?_
   refine .nil (aq_then ?_)
   refine aw_cond rfl (fun hc7 => ?_) (fun hc7 => ?_)
   ·replace h := ite_t hc7 h
    refine aw_rs ?_
    refine .a rfl ?_
    refine .nil (aq_then ?_)
    refine aw_ret ?_
    refine aq_block_ret ?_
    refine aq_then_ret ?_
    obtain rfl := Option.some.inj h
    refine aq_weak (s' := ⟨[(4, .d (.val (.bool true)))], [], []⟩) id hb0 (.keep rfl .nil) .nil rfl (by rfl) ?_
    exact jq
   replace h := ite_f hc7 h
   refine aw_skip ?_
   refine aq_block ?_
   refine aq_then ?_
   refine aw_r ?_
   refine .m rfl ?_
   refine .b rfl rfl rfl ?_
   refine .a rfl ?_
   refine .nil ?_
   obtain rfl := Option.some.inj h
   refine aq_weak (s' := ⟨[(1, .d (.val (.int .i64 a1))), (2, .ptr 2 0 []), (5, .d (.val (.int .i64 (IntKind.i64.wrap (z0_0 + (1 : Int))))))], [(2, .av (.d (eGTree a0)))], []⟩) id hb0 (.keep rfl (.keep rfl (.keep rfl .nil))) (.keep rfl .nil) rfl (by rfl) ?_
   exact jq
  replace h := ite_f hc3 h
  refine aw_exit ?_
  refine aq_then_exit ?_
  obtain rfl := Option.some.inj h
  refine aq_weak (s' := ⟨[(1, .d (.val (.int .i64 a1))), (2, .ptr 2 0 [])], [(2, .av (.d (eGTree a0)))], []⟩) id hb0 (.keep rfl (.keep rfl .nil)) (.keep rfl .nil) rfl (by rfl) ?_
  exact jq
 rcases o9 with j9 | j9
 ·replace h := elim_l h
  refine aq_block_exit ?_
  refine aq_then ?_
  refine aw_rs ?_
  refine .v (f_fieldAddr (n := 0) (by rfl) fl90_0 (by decide)) rfl (.c rfl .nil) .nil ?_
  refine .l 2 (0 + 0) [0] (.d (eGTree a0)) (.d (eL88 a0.Nodes)) ty88 ?_
  refine .v (f_lenD (n := (a0.Nodes).length) (by rfl) sl88 rfl (by simp)) rfl (.c rfl .nil) .nil ?_
  refine .m rfl ?_
  refine .b rfl rfl rfl ?_
  refine .a rfl ?_
  refine .nil (aq_then ?_)
  refine aw_ret ?_
  obtain rfl := Option.some.inj h
  exact aq_finp hb0 rfl (.tmp rfl (by rfl) .nil) (by rfl) rfl ⟨rfl, rfl⟩
 replace h := elim_r h
 refine aq_block_ret ?_
 refine aq_then_ret ?_
 obtain rfl := Option.some.inj h
 exact aq_finp hb0 rfl (.tmp rfl (by rfl) .nil) (by rfl) rfl ⟨rfl, rfl⟩

/- 53: beadroll/shard.Count -/
def F53_shard_Count_s0 (a0 : GShard) (z0_0 : Int) (z0_1 : Int) : Option ((Int × Int) ⊕ (Int)) :=
  (if (decide (z0_1 < ((a0.Lines).length : Int))) = true then ((rd a0.Lines z0_1).bind fun (x2 : GLine) => some (.inl ((IntKind.i64.wrap (z0_0 + ((x2.Txs).length : Int))), (IntKind.i64.wrap (z0_1 + (1 : Int)))))) else some (.inr z0_0))
def F53_shard_Count (n : Nat) (a0 : GShard) : Option (Int) :=
  ((loopF (fun (z : Int × Int) => F53_shard_Count_s0 a0 z.1 z.2) n ((0 : Int), (0 : Int))).bind fun (o5 : Int) => some o5)
theorem F53_shard_Count_ok {n : Nat} {a0 : GShard} {r : Int} (h : F53_shard_Count n a0 = some r) :
    ACall Tryd.prog GS 53 [.d (eGShard a0)] [] (fun r' hp' => r' = .d (.val (.int .i64 r)) ∧ hp' = []) := by
 refine acall_of_body mixed Tryd.func53 rfl (by rfl) ?_
 intro C hro hgl hb0
 unfold F53_shard_Count at h
 refine aw_rs ?_
 refine .n (f_box 1 (by rfl) (by rfl)) rfl (.c rfl .nil) rfl ?_
 refine .a rfl ?_
 refine .nil (aq_then ?_)
 refine aw_seq ?_
 refine aw_rs ?_
 refine .v (f_fieldAddr (n := 0) (by rfl) fl74_0 (by decide)) rfl (.c rfl .nil) .nil ?_
 refine .l 1 (0 + 0) [0] (.d (eGShard a0)) (.d (eL72 a0.Lines)) ty72 ?_
 refine .v (f_lenD (n := (a0.Lines).length) (by rfl) sl72 rfl (by simp)) rfl (.c rfl .nil) .nil ?_
 refine .m rfl ?_
 refine .nil (aq_then ?_)
 refine aw_block ?_
 refine aw_weak (s' := ⟨[(2, .d (.val (.int .i64 (0 : Int)))), (6, .d (eL72 a0.Lines)), (7, .d (.val (.int .i64 ((a0.Lines).length : Int)))), (8, .d (.val (.int .i64 (0 : Int))))], [], []⟩) id hb0 (.keep rfl (.keep rfl (.keep rfl (.keep rfl .nil)))) .nil rfl (by rfl) ?_
 obtain ⟨o5, ho6, h⟩ := bind_some h
 refine aw_loopX (σ := Int × Int) (fun z => ⟨[(2, .d (.val (.int .i64 z.1))), (6, .d (eL72 a0.Lines)), (7, .d (.val (.int .i64 ((a0.Lines).length : Int)))), (8, .d (.val (.int .i64 z.2)))], [], []⟩) (fun _ => (.exit 0)) (fun (o5 : Int) => ⟨[(2, .d (.val (.int .i64 o5)))], [], []⟩) ho6 (fun _ => rfl) ?_ ?_
 ·clear h ho6
  rintro ⟨z0_0, z0_1⟩ o h
  change F53_shard_Count_s0 a0 z0_0 z0_1 = some o at h
  unfold F53_shard_Count_s0 at h
  show AW _ _ _ ⟨[(2, .d (.val (.int .i64 z0_0))), (6, .d (eL72 a0.Lines)), (7, .d (.val (.int .i64 ((a0.Lines).length : Int)))), (8, .d (.val (.int .i64 z0_1)))], [], []⟩
  refine aw_rs ?_
  refine .b rfl rfl rfl ?_
  refine .nil (aq_then ?_)
  refine aw_seq ?_
  refine aw_cond rfl (fun hc1 => ?_) (fun hc1 => ?_)
  ·replace h := ite_t hc1 h
   refine aw_skip ?_
   refine aq_then ?_
   refine aw_seq ?_
   refine aw_block ?_
   refine aw_rs ?_
   obtain ⟨x2, hx3, h⟩ := bind_some h
   obtain ⟨hx4, hx3⟩ := rd_some hx3
   refine .v (f_indexS (by rfl) sl72 hx4 (rd_map _ hx3)) rfl (.c rfl (.c rfl .nil)) .nil ?_
   refine .v (f_loadR (z := (eGLine x2)) (by rfl) ty26) rfl (.c rfl .nil) .nil ?_
   refine .n (f_alloc 4 (by rfl) zrv26) rfl .nil rfl ?_
   refine .s (f_store (n := 0) (o := 4) (off := 0) (p := []) (c := .st [.d (eA22 (List.replicate 32 (0 : Int))), .d (.val (.slice none 0 0))]) (old := .st [.d (eA22 (List.replicate 32 (0 : Int))), .d (.val (.slice none 0 0))]) (z := .d (eGLine x2)) (c' := .d (eGLine x2)) rfl rfl (by rfl) ty26 (by rfl)) rfl (.c rfl (.c rfl .nil)) (.cons rfl .nil) ?_
   refine .nil (aq_then ?_)
   refine aw_r ?_
   refine .m rfl ?_
   refine .v (f_fieldAddr (n := 32) (by rfl) fl26_1 (by decide)) rfl (.c rfl .nil) .nil ?_
   refine .l 4 (0 + 32) [1] (.d (eGLine x2)) (.d (eL24 x2.Txs)) ty24 ?_
   refine .v (f_lenD (n := (x2.Txs).length) (by rfl) sl24 rfl (by simp)) rfl (.c rfl .nil) .nil ?_
   refine .b rfl rfl rfl ?_
   refine .a rfl ?_
   refine .nil ?_
   refine aq_block ?_
   refine aq_then ?_
   refine aw_r ?_
   refine .b rfl rfl rfl ?_
   refine .m rfl ?_
   refine .nil ?_
   obtain rfl := Option.some.inj h
   refine aq_weak (s' := ⟨[(2, .d (.val (.int .i64 (IntKind.i64.wrap (z0_0 + ((x2.Txs).length : Int)))))), (6, .d (eL72 a0.Lines)), (7, .d (.val (.int .i64 ((a0.Lines).length : Int)))), (8, .d (.val (.int .i64 (IntKind.i64.wrap (z0_1 + (1 : Int))))))], [], []⟩) id hb0 (.keep rfl (.keep rfl (.keep rfl (.keep rfl .nil)))) .nil rfl (by rfl) ?_
   exact jq
  replace h := ite_f hc1 h
  refine aw_exit ?_
  refine aq_then_exit ?_
  obtain rfl := Option.some.inj h
  refine aq_weak (s' := ⟨[(2, .d (.val (.int .i64 z0_0)))], [], []⟩) id hb0 (.keep rfl .nil) .nil rfl (by rfl) ?_
  exact jq
 refine aq_block_exit ?_
 refine aq_then ?_
 refine aw_rs ?_
 refine .m rfl ?_
 refine .a rfl ?_
 refine .nil (aq_then ?_)
 refine aw_ret ?_
 obtain rfl := Option.some.inj h
 exact aq_finp hb0 rfl (.tmp rfl (by rfl) .nil) (by rfl) rfl ⟨rfl, rfl⟩

/- 75: (beadroll/queue.inOrder[beadroll/api.Tx]).ahead -/
def F75_api_Tx_ahead_844_s0 (n : Nat) (a0 : (List GTx)) (a1 : Int) (z0_0 : Int) (z0_1 : Int) : Option ((Int × Int) ⊕ (Int)) :=
  (if (decide (z0_0 < z0_1)) = true then ((rd a0 (IntKind.i64.wrap (Int.tdiv (IntKind.i64.wrap (z0_0 + z0_1)) (2 : Int)))).bind fun (x2 : GTx) => ((F111_queue_nonces_1 n x2).bind fun (y5 : Int) => (if (decide (y5 < a1)) = true then some (.inl ((IntKind.i64.wrap ((IntKind.i64.wrap (Int.tdiv (IntKind.i64.wrap (z0_0 + z0_1)) (2 : Int))) + (1 : Int))), z0_1)) else some (.inl (z0_0, (IntKind.i64.wrap (Int.tdiv (IntKind.i64.wrap (z0_0 + z0_1)) (2 : Int)))))))) else some (.inr z0_0))
def F75_api_Tx_ahead_844 (n : Nat) (a0 : (List GTx)) (a1 : Int) : Option (Int) :=
  ((loopF (fun (z : Int × Int) => F75_api_Tx_ahead_844_s0 n a0 a1 z.1 z.2) n ((0 : Int), ((a0).length : Int))).bind fun (o8 : Int) => some o8)
theorem F75_api_Tx_ahead_844_ok {n : Nat} {a0 : (List GTx)} {a1 : Int} {r : Int} (h : F75_api_Tx_ahead_844 n a0 a1 = some r) :
    ACall Tryd.prog GS 75 [.st [.d (eL24 a0), .fn (.func 111) [] []], .d (.val (.int .u64 a1))] [] (fun r' hp' => r' = .d (.val (.int .i64 r)) ∧ hp' = []) := by
 refine acall_of_body mixed Tryd.func75 rfl (by rfl) ?_
 intro C hro hgl hb0
 unfold F75_api_Tx_ahead_844 at h
 refine aw_rs ?_
 refine .n (f_box 2 (by rfl) (by rfl)) rfl (.c rfl .nil) rfl ?_
 refine .a rfl ?_
 refine .nil (aq_then ?_)
 refine aw_rds ?_
 refine .v (f_fieldAddr (n := 0) (by rfl) fl114_0 (by decide)) rfl (.c rfl .nil) .nil ?_
 refine .v (f_load (n := 0) (o := 2) (off := (0 + 0)) (p := [0]) (c := .st [.d (eL24 a0), .fn (.func 111) [] []]) (z := .d (eL24 a0)) (by rfl) rfl ty24 (by rfl)) rfl (.c rfl .nil) (.cons rfl .nil) ?_
 refine .v (f_lenD (n := (a0).length) (by rfl) sl24 rfl (by simp)) rfl (.c rfl .nil) .nil ?_
 refine .v (f_assign (by rfl)) rfl (.c rfl .nil) .nil ?_
 refine .v (f_assign (by rfl)) rfl (.c rfl .nil) .nil ?_
 refine .nil (by kernel_rfl) ?_
 refine aw_seq ?_
 refine aw_block ?_
 refine aw_weak (s' := ⟨[(1, .d (.val (.int .u64 a1))), (2, .ptr 2 0 []), (5, .d (.val (.int .i64 (0 : Int)))), (6, .d (.val (.int .i64 ((a0).length : Int))))], [(2, .av (.st [.d (eL24 a0), .fn (.func 111) [] []]))], []⟩) id hb0 (.keep rfl (.keep rfl (.keep rfl (.keep rfl .nil)))) (.keep rfl .nil) rfl (by rfl) ?_
 obtain ⟨o8, ho9, h⟩ := bind_some h
 refine aw_loopX (σ := Int × Int) (fun z => ⟨[(1, .d (.val (.int .u64 a1))), (2, .ptr 2 0 []), (5, .d (.val (.int .i64 z.1))), (6, .d (.val (.int .i64 z.2)))], [(2, .av (.st [.d (eL24 a0), .fn (.func 111) [] []]))], []⟩) (fun _ => (.exit 0)) (fun (o8 : Int) => ⟨[(5, .d (.val (.int .i64 o8)))], [], []⟩) ho9 (fun _ => rfl) ?_ ?_
 ·clear h ho9
  rintro ⟨z0_0, z0_1⟩ o h
  change F75_api_Tx_ahead_844_s0 n a0 a1 z0_0 z0_1 = some o at h
  unfold F75_api_Tx_ahead_844_s0 at h
  show AW _ _ _ ⟨[(1, .d (.val (.int .u64 a1))), (2, .ptr 2 0 []), (5, .d (.val (.int .i64 z0_0))), (6, .d (.val (.int .i64 z0_1)))], [(2, .av (.st [.d (eL24 a0), .fn (.func 111) [] []]))], []⟩
  refine aw_seq ?_
  refine aw_rs ?_
  refine .m rfl ?_
  refine .m rfl ?_
  refine .b rfl rfl rfl ?_
  refine .nil (aq_then ?_)
  refine aw_cond rfl (fun hc1 => ?_) (fun hc1 => ?_)
  ·replace h := ite_t hc1 h
   refine aw_skip ?_
   refine aq_then ?_
   refine aw_block ?_
   refine aw_rs ?_
   refine .m rfl ?_
   refine .m rfl ?_
   refine .b rfl rfl rfl ?_
   refine .v (f_binI (by rfl) (quo_ok (by decide)) (by rfl)) rfl (.c rfl (.c rfl .nil)) .nil ?_
   refine .a rfl ?_
   refine .nil (aq_then ?_)
   refine aw_rds ?_
   refine .v (f_fieldAddr (n := 1) (by rfl) fl114_1 (by decide)) rfl (.c rfl .nil) .nil ?_
   refine .v (f_load (n := 0) (o := 2) (off := (0 + 1)) (p := [1]) (c := .st [.d (eL24 a0), .fn (.func 111) [] []]) (z := .fn (.func 111) [] []) (by rfl) rfl ty112 (by rfl)) rfl (.c rfl .nil) (.cons rfl .nil) ?_
   refine .v (f_fieldAddr (n := 0) (by rfl) fl114_0 (by decide)) rfl (.c rfl .nil) .nil ?_
   refine .v (f_load (n := 0) (o := 2) (off := (0 + 0)) (p := [0]) (c := .st [.d (eL24 a0), .fn (.func 111) [] []]) (z := .d (eL24 a0)) (by rfl) rfl ty24 (by rfl)) rfl (.c rfl .nil) (.cons rfl .nil) ?_
   refine .v (f_move (by rfl)) rfl (.c rfl .nil) .nil ?_
   obtain ⟨x2, hx3, h⟩ := bind_some h
   obtain ⟨hx4, hx3⟩ := rd_some hx3
   refine .v (f_indexS (by rfl) sl24 hx4 (rd_map _ hx3)) rfl (.c rfl (.c rfl .nil)) .nil ?_
   refine .v (f_loadR (z := (eGTx x2)) (by rfl) ty36) rfl (.c rfl .nil) .nil ?_
   obtain ⟨y5, hy6, h⟩ := bind_some h
   refine .w (f_callG0 (xs := [.d (eGTx x2)]) (r := .d (.val (.int .u64 y5))) (fun i => i) [] hgl (by rfl) (cal_v (first := []) (caps := []) en111) rfl (by rfl) (by rfl) (by rfl) (by rfl) (.cons (.same _) .nil) rfl rfl (F111_queue_nonces_1_ok hy6)) rfl (.c rfl (.c rfl .nil)) .nil .nil ?_
   refine .v (f_move (by rfl)) rfl (.c rfl .nil) .nil ?_
   refine .v (f_binI (by rfl) rfl (by rfl)) rfl (.c rfl (.c rfl .nil)) .nil ?_
   refine .nil (by kernel_rfl) ?_
   refine aw_cond rfl (fun hc7 => ?_) (fun hc7 => ?_)
   ·replace h := ite_t hc7 h
    refine aw_r ?_
    refine .m rfl ?_
    refine .b rfl rfl rfl ?_
    refine .a rfl ?_
    refine .nil ?_
    refine aq_block ?_
    obtain rfl := Option.some.inj h
    refine aq_weak (s' := ⟨[(1, .d (.val (.int .u64 a1))), (2, .ptr 2 0 []), (5, .d (.val (.int .i64 (IntKind.i64.wrap ((IntKind.i64.wrap (Int.tdiv (IntKind.i64.wrap (z0_0 + z0_1)) (2 : Int))) + (1 : Int)))))), (6, .d (.val (.int .i64 z0_1)))], [(2, .av (.st [.d (eL24 a0), .fn (.func 111) [] []]))], []⟩) id hb0 (.keep rfl (.keep rfl (.keep rfl (.keep rfl .nil)))) (.keep rfl .nil) rfl (by rfl) ?_
    exact jq
   replace h := ite_f hc7 h
   refine aw_r ?_
   refine .m rfl ?_
   refine .a rfl ?_
   refine .nil ?_
   refine aq_block ?_
   obtain rfl := Option.some.inj h
   refine aq_weak (s' := ⟨[(1, .d (.val (.int .u64 a1))), (2, .ptr 2 0 []), (5, .d (.val (.int .i64 z0_0))), (6, .d (.val (.int .i64 (IntKind.i64.wrap (Int.tdiv (IntKind.i64.wrap (z0_0 + z0_1)) (2 : Int))))))], [(2, .av (.st [.d (eL24 a0), .fn (.func 111) [] []]))], []⟩) id hb0 (.keep rfl (.keep rfl (.keep rfl (.keep rfl .nil)))) (.keep rfl .nil) rfl (by rfl) ?_
   exact jq
  replace h := ite_f hc1 h
  refine aw_exit ?_
  refine aq_then_exit ?_
  obtain rfl := Option.some.inj h
  refine aq_weak (s' := ⟨[(5, .d (.val (.int .i64 z0_0)))], [], []⟩) id hb0 (.keep rfl .nil) .nil rfl (by rfl) ?_
  exact jq
 refine aq_block_exit ?_
 refine aq_then ?_
 refine aw_rs ?_
 refine .m rfl ?_
 refine .a rfl ?_
 refine .nil (aq_then ?_)
 refine aw_ret ?_
 obtain rfl := Option.some.inj h
 refine aq_weak (s' := ⟨[(4, .d (.val (.int .i64 o8)))], [], []⟩) id hb0 (.keep rfl .nil) .nil rfl (by rfl) ?_
 exact aq_fin1 (.tmp rfl (by rfl) .nil) rfl ⟨rfl, rfl⟩

/- 30: beadroll/pool.Count -/
def F30_pool_Count_s0 (n : Nat) (a0 : (List GShard)) (z0_0 : Int) (z0_1 : Int) : Option ((Int × Int) ⊕ (Int)) :=
  (if (decide (z0_1 < ((a0).length : Int))) = true then ((rd a0 z0_1).bind fun (x2 : GShard) => ((F53_shard_Count n x2).bind fun (y5 : Int) => some (.inl ((IntKind.i64.wrap (z0_0 + y5)), (IntKind.i64.wrap (z0_1 + (1 : Int))))))) else some (.inr z0_0))
def F30_pool_Count (n : Nat) (a0 : (List GShard)) : Option (Int) :=
  ((loopF (fun (z : Int × Int) => F30_pool_Count_s0 n a0 z.1 z.2) n ((0 : Int), (0 : Int))).bind fun (o7 : Int) => some o7)
theorem F30_pool_Count_ok {n : Nat} {a0 : (List GShard)} {r : Int} (h : F30_pool_Count n a0 = some r) :
    ACall Tryd.prog GS 30 [.d (eL41 a0)] [] (fun r' hp' => r' = .d (.val (.int .i64 r)) ∧ hp' = []) := by
 refine acall_of_body mixed Tryd.func30 rfl (by rfl) ?_
 intro C hro hgl hb0
 unfold F30_pool_Count at h
 refine aw_rs ?_
 refine .a rfl ?_
 refine .nil (aq_then ?_)
 refine aw_seq ?_
 refine aw_rs ?_
 refine .m rfl ?_
 refine .v (f_lenD (n := (a0).length) (by rfl) sl41 rfl (by simp)) rfl (.c rfl .nil) .nil ?_
 refine .m rfl ?_
 refine .nil (aq_then ?_)
 refine aw_block ?_
 refine aw_weak (s' := ⟨[(2, .d (.val (.int .i64 (0 : Int)))), (5, .d (eL41 a0)), (6, .d (.val (.int .i64 ((a0).length : Int)))), (7, .d (.val (.int .i64 (0 : Int))))], [], []⟩) id hb0 (.keep rfl (.keep rfl (.keep rfl (.keep rfl .nil)))) .nil rfl (by rfl) ?_
 obtain ⟨o7, ho8, h⟩ := bind_some h
 refine aw_loopX (σ := Int × Int) (fun z => ⟨[(2, .d (.val (.int .i64 z.1))), (5, .d (eL41 a0)), (6, .d (.val (.int .i64 ((a0).length : Int)))), (7, .d (.val (.int .i64 z.2)))], [], []⟩) (fun _ => (.exit 0)) (fun (o7 : Int) => ⟨[(2, .d (.val (.int .i64 o7)))], [], []⟩) ho8 (fun _ => rfl) ?_ ?_
 ·clear h ho8
  rintro ⟨z0_0, z0_1⟩ o h
  change F30_pool_Count_s0 n a0 z0_0 z0_1 = some o at h
  unfold F30_pool_Count_s0 at h
  show AW _ _ _ ⟨[(2, .d (.val (.int .i64 z0_0))), (5, .d (eL41 a0)), (6, .d (.val (.int .i64 ((a0).length : Int)))), (7, .d (.val (.int .i64 z0_1)))], [], []⟩
  refine aw_rs ?_
  refine .b rfl rfl rfl ?_
  refine .nil (aq_then ?_)
  refine aw_seq ?_
  refine aw_cond rfl (fun hc1 => ?_) (fun hc1 => ?_)
  ·replace h := ite_t hc1 h
   refine aw_skip ?_
   refine aq_then ?_
   refine aw_seq ?_
   refine aw_block ?_
   refine aw_rs ?_
   obtain ⟨x2, hx3, h⟩ := bind_some h
   obtain ⟨hx4, hx3⟩ := rd_some hx3
   refine .v (f_indexS (by rfl) sl41 hx4 (rd_map _ hx3)) rfl (.c rfl (.c rfl .nil)) .nil ?_
   refine .v (f_loadR (z := (eGShard x2)) (by rfl) ty74) rfl (.c rfl .nil) .nil ?_
   refine .n (f_alloc 4 (by rfl) zrv74) rfl .nil rfl ?_
   refine .s (f_store (n := 0) (o := 4) (off := 0) (p := []) (c := .st [.d (.val (.slice none 0 0))]) (old := .st [.d (.val (.slice none 0 0))]) (z := .d (eGShard x2)) (c' := .d (eGShard x2)) rfl rfl (by rfl) ty74 (by rfl)) rfl (.c rfl (.c rfl .nil)) (.cons rfl .nil) ?_
   refine .nil (aq_then ?_)
   refine aw_r ?_
   refine .m rfl ?_
   refine .l 4 0 [] (.d (eGShard x2)) (.d (eGShard x2)) ty74 ?_
   obtain ⟨y5, hy6, h⟩ := bind_some h
   refine .v (f_callP hgl (by rfl) en53 rfl (by rfl) (by rfl) (by rfl) (F53_shard_Count_ok hy6)) rfl (.c rfl .nil) .nil ?_
   refine .b rfl rfl rfl ?_
   refine .a rfl ?_
   refine .nil ?_
   refine aq_block ?_
   refine aq_then ?_
   refine aw_r ?_
   refine .b rfl rfl rfl ?_
   refine .m rfl ?_
   refine .nil ?_
   obtain rfl := Option.some.inj h
   refine aq_weak (s' := ⟨[(2, .d (.val (.int .i64 (IntKind.i64.wrap (z0_0 + y5))))), (5, .d (eL41 a0)), (6, .d (.val (.int .i64 ((a0).length : Int)))), (7, .d (.val (.int .i64 (IntKind.i64.wrap (z0_1 + (1 : Int))))))], [], []⟩) id hb0 (.keep rfl (.keep rfl (.keep rfl (.keep rfl .nil)))) .nil rfl (by rfl) ?_
   exact jq
  replace h := ite_f hc1 h
  refine aw_exit ?_
  refine aq_then_exit ?_
  obtain rfl := Option.some.inj h
  refine aq_weak (s' := ⟨[(2, .d (.val (.int .i64 z0_0)))], [], []⟩) id hb0 (.keep rfl .nil) .nil rfl (by rfl) ?_
  exact jq
 refine aq_block_exit ?_
 refine aq_then ?_
 refine aw_rs ?_
 refine .m rfl ?_
 refine .a rfl ?_
 refine .nil (aq_then ?_)
 refine aw_ret ?_
 obtain rfl := Option.some.inj h
 exact aq_finp hb0 rfl (.tmp rfl (by rfl) .nil) (by rfl) rfl ⟨rfl, rfl⟩

/- 20: beadroll/beadrollref19.SameTxs -/
def F20_beadrollref19_SameTxs_s0 (a0 : (List GTx)) (a1 : (List GTx)) (z0_0 : Int) : Option ((Int) ⊕ ((Unit) ⊕ (Unit))) :=
  (if (decide (z0_0 < ((a0).length : Int))) = true then ((rd a0 z0_0).bind fun (x3 : GTx) => ((rd a1 z0_0).bind fun (x6 : GTx) => (if (!(decide (x3 = x6))) = true then some (.inr (.inr ())) else some (.inl (IntKind.i64.wrap (z0_0 + (1 : Int))))))) else some (.inr (.inl ())))
def F20_beadrollref19_SameTxs (n : Nat) (a0 : (List GTx)) (a1 : (List GTx)) : Option (Bool) :=
  (if (((a0).length : Int) != ((a1).length : Int)) = true then some false else ((loopF (fun (z : Int) => F20_beadrollref19_SameTxs_s0 a0 a1 z) n (0 : Int)).bind (Sum.elim (fun (j10 : Unit) => some true) (fun (j10 : Unit) => some false))))
theorem F20_beadrollref19_SameTxs_ok {n : Nat} {a0 : (List GTx)} {a1 : (List GTx)} {r : Bool} (h : F20_beadrollref19_SameTxs n a0 a1 = some r) :
    ACall Tryd.prog GS 20 [.d (eL24 a0), .d (eL24 a1)] [] (fun r' hp' => r' = .d (.val (.bool r)) ∧ hp' = []) := by
 refine acall_of_body mixed Tryd.func20 rfl (by rfl) ?_
 intro C hro hgl hb0
 unfold F20_beadrollref19_SameTxs at h
 refine aw_rs ?_
 refine .a rfl ?_
 refine .nil (aq_then ?_)
 refine aw_seq ?_
 refine aw_rs ?_
 refine .m rfl ?_
 refine .v (f_lenD (n := (a0).length) (by rfl) sl24 rfl (by simp)) rfl (.c rfl .nil) .nil ?_
 refine .m rfl ?_
 refine .v (f_lenD (n := (a1).length) (by rfl) sl24 rfl (by simp)) rfl (.c rfl .nil) .nil ?_
 refine .b rfl rfl rfl ?_
 refine .nil (aq_then ?_)
 refine aw_cond rfl (fun hc1 => ?_) (fun hc1 => ?_)
 ·replace h := ite_t hc1 h
  refine aw_rs ?_
  refine .a rfl ?_
  refine .nil (aq_then ?_)
  refine aw_ret ?_
  refine aq_then_ret ?_
  obtain rfl := Option.some.inj h
  exact aq_finp hb0 rfl (.tmp rfl (by rfl) .nil) (by rfl) rfl ⟨rfl, rfl⟩
 replace h := ite_f hc1 h
 refine aw_skip ?_
 refine aq_then ?_
 refine aw_seq ?_
 refine aw_rs ?_
 refine .a rfl ?_
 refine .nil (aq_then ?_)
 refine aw_block ?_
 refine aw_weak (s' := ⟨[(0, .d (eL24 a0)), (1, .d (eL24 a1)), (5, .d (.val (.int .i64 (0 : Int))))], [], []⟩) id hb0 (.keep rfl (.keep rfl (.keep rfl .nil))) .nil rfl (by rfl) ?_
 obtain ⟨o10, ho11, h⟩ := bind_some h
 refine aw_loopX (σ := Int) (fun z => ⟨[(0, .d (eL24 a0)), (1, .d (eL24 a1)), (5, .d (.val (.int .i64 z)))], [], []⟩) (Sum.elim (fun _ => .exit 0) (fun _ => .ret)) (Sum.elim (fun j10 => ⟨[], [], []⟩) (fun j10 => ⟨[(4, .d (.val (.bool false)))], [], []⟩)) ho11 (by intro b; rcases b with _ | _ <;> rfl) ?_ ?_
 ·clear h ho11
  intro z0_0 o h
  change F20_beadrollref19_SameTxs_s0 a0 a1 z0_0 = some o at h
  unfold F20_beadrollref19_SameTxs_s0 at h
  show AW _ _ _ ⟨[(0, .d (eL24 a0)), (1, .d (eL24 a1)), (5, .d (.val (.int .i64 z0_0)))], [], []⟩
  refine aw_seq ?_
  refine aw_rs ?_
  refine .m rfl ?_
  refine .m rfl ?_
  refine .v (f_lenD (n := (a0).length) (by rfl) sl24 rfl (by simp)) rfl (.c rfl .nil) .nil ?_
  refine .b rfl rfl rfl ?_
  refine .nil (aq_then ?_)
  refine aw_cond rfl (fun hc2 => ?_) (fun hc2 => ?_)
  ·replace h := ite_t hc2 h
   refine aw_skip ?_
   refine aq_then ?_
   refine aw_seq ?_
   refine aw_block ?_
   refine aw_rds ?_
   refine .v (f_move (by rfl)) rfl (.c rfl .nil) .nil ?_
   refine .v (f_move (by rfl)) rfl (.c rfl .nil) .nil ?_
   obtain ⟨x3, hx4, h⟩ := bind_some h
   obtain ⟨hx5, hx4⟩ := rd_some hx4
   refine .v (f_indexS (by rfl) sl24 hx5 (rd_map _ hx4)) rfl (.c rfl (.c rfl .nil)) .nil ?_
   refine .v (f_loadR (z := (eGTx x3)) (by rfl) ty36) rfl (.c rfl .nil) .nil ?_
   refine .v (f_move (by rfl)) rfl (.c rfl .nil) .nil ?_
   refine .v (f_move (by rfl)) rfl (.c rfl .nil) .nil ?_
   obtain ⟨x6, hx7, h⟩ := bind_some h
   obtain ⟨hx8, hx7⟩ := rd_some hx7
   refine .v (f_indexS (by rfl) sl24 hx8 (rd_map _ hx7)) rfl (.c rfl (.c rfl .nil)) .nil ?_
   refine .v (f_loadR (z := (eGTx x6)) (by rfl) ty36) rfl (.c rfl .nil) .nil ?_
   refine .v (f_neqT (by rfl) (fit36 _) (fit36 _) (by rfl) (by rfl) gd36 (eq_eGTx _ _)) rfl (.c rfl (.c rfl .nil)) .nil ?_
   refine .nil (by kernel_rfl) ?_
   refine aw_cond rfl (fun hc9 => ?_) (fun hc9 => ?_)
   ·replace h := ite_t hc9 h
    refine aw_rs ?_
    refine .a rfl ?_
    refine .nil (aq_then ?_)
    refine aw_ret ?_
    refine aq_block_ret ?_
    refine aq_then_ret ?_
    obtain rfl := Option.some.inj h
    refine aq_weak (s' := ⟨[(4, .d (.val (.bool false)))], [], []⟩) id hb0 (.keep rfl .nil) .nil rfl (by rfl) ?_
    exact jq
   replace h := ite_f hc9 h
   refine aw_skip ?_
   refine aq_block ?_
   refine aq_then ?_
   refine aw_r ?_
   refine .m rfl ?_
   refine .b rfl rfl rfl ?_
   refine .a rfl ?_
   refine .nil ?_
   obtain rfl := Option.some.inj h
   refine aq_weak (s' := ⟨[(0, .d (eL24 a0)), (1, .d (eL24 a1)), (5, .d (.val (.int .i64 (IntKind.i64.wrap (z0_0 + (1 : Int))))))], [], []⟩) id hb0 (.keep rfl (.keep rfl (.keep rfl .nil))) .nil rfl (by rfl) ?_
   exact jq
  replace h := ite_f hc2 h
  refine aw_exit ?_
  refine aq_then_exit ?_
  obtain rfl := Option.some.inj h
  refine aq_weak (s' := ⟨[], [], []⟩) id hb0 .nil .nil rfl (by rfl) ?_
  exact jq
 rcases o10 with j10 | j10
 ·replace h := elim_l h
  refine aq_block_exit ?_
  refine aq_then ?_
  refine aw_rs ?_
  refine .a rfl ?_
  refine .nil (aq_then ?_)
  refine aw_ret ?_
  obtain rfl := Option.some.inj h
  exact aq_finp hb0 rfl (.tmp rfl (by rfl) .nil) (by rfl) rfl ⟨rfl, rfl⟩
 replace h := elim_r h
 refine aq_block_ret ?_
 refine aq_then_ret ?_
 obtain rfl := Option.some.inj h
 exact aq_finp hb0 rfl (.tmp rfl (by rfl) .nil) (by rfl) rfl ⟨rfl, rfl⟩
end Go.Proofs.YtonfljoibcnlgaaDoor
