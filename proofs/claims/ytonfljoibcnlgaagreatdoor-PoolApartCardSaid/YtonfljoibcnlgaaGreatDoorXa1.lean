import Derived.Test.YtonfljoibcnlgaaGreatDoorCk
import Derived.Test.YtonfljoibcnlgaaGreatDoorRows
import Derived.KernelRfl
namespace Go.Proofs.YtonfljoibcnlgaaGreatDoor
open Bd
set_option maxRecDepth 10000
theorem mixed : Tryz.prog.follows .mixedOrders = true := by kernel_rfl
@[reducible] def eB (x : Bool) : D := .val (.bool x)
@[reducible] def eS (x : ByteArray) : D := .val (.string x)
@[reducible] def eI_u8 (x : Int) : D := .val (.int .u8 x)
@[reducible] def eI_u32 (x : Int) : D := .val (.int .u32 x)
@[reducible] def eI_u64 (x : Int) : D := .val (.int .u64 x)
@[reducible] def eI_i64 (x : Int) : D := .val (.int .i64 x)
@[reducible] def eA235 (x : List Int) : D := .arr 1 64 (x.map eI_u32)
@[reducible] def shaK : List Int := [1116352408, 1899447441, 3049323471, 3921009573, 961987163, 1508970993, 2453635748, 2870763221, 3624381080, 310598401, 607225278, 1426881987, 1925078388, 2162078206, 2614888103, 3248222580, 3835390401, 4022224774, 264347078, 604807628, 770255983, 1249150122, 1555081692, 1996064986, 2554220882, 2821834349, 2952996808, 3210313671, 3336571891, 3584528711, 113926993, 338241895, 666307205, 773529912, 1294757372, 1396182291, 1695183700, 1986661051, 2177026350, 2456956037, 2730485921, 2820302411, 3259730800, 3345764771, 3516065817, 3600352804, 4094571909, 275423344, 430227734, 506948616, 659060556, 883997877, 958139571, 1322822218, 1537002063, 1747873779, 1955562222, 2024104815, 2227730452, 2361852424, 2428436474, 2756734187, 3204031479, 3329325298]
@[reducible] def GS : List (Nat × D) := [(0, eA235 shaK)]
@[reducible] def str0 : ByteArray := ⟨#[0, 1, 2, 2, 3, 3, 3, 3, 4, 4, 4, 4, 4, 4, 4, 4, 5, 5, 5, 5, 5, 5, 5, 5, 5, 5, 5, 5, 5, 5, 5, 5, 6, 6, 6, 6, 6, 6, 6, 6, 6, 6, 6, 6, 6, 6, 6, 6, 6, 6, 6, 6, 6, 6, 6, 6, 6, 6, 6, 6, 6, 6, 6, 6, 7, 7, 7, 7, 7, 7, 7, 7, 7, 7, 7, 7, 7, 7, 7, 7, 7, 7, 7, 7, 7, 7, 7, 7, 7, 7, 7, 7, 7, 7, 7, 7, 7, 7, 7, 7, 7, 7, 7, 7, 7, 7, 7, 7, 7, 7, 7, 7, 7, 7, 7, 7, 7, 7, 7, 7, 7, 7, 7, 7, 7, 7, 7, 7, 8, 8, 8, 8, 8, 8, 8, 8, 8, 8, 8, 8, 8, 8, 8, 8, 8, 8, 8, 8, 8, 8, 8, 8, 8, 8, 8, 8, 8, 8, 8, 8, 8, 8, 8, 8, 8, 8, 8, 8, 8, 8, 8, 8, 8, 8, 8, 8, 8, 8, 8, 8, 8, 8, 8, 8, 8, 8, 8, 8, 8, 8, 8, 8, 8, 8, 8, 8, 8, 8, 8, 8, 8, 8, 8, 8, 8, 8, 8, 8, 8, 8, 8, 8, 8, 8, 8, 8, 8, 8, 8, 8, 8, 8, 8, 8, 8, 8, 8, 8, 8, 8, 8, 8, 8, 8, 8, 8, 8, 8, 8, 8, 8, 8, 8, 8, 8, 8, 8, 8, 8, 8, 8, 8, 8, 8, 8, 8]⟩
@[reducible] def eL70 (x : (List Int)) : D := .sl 1 (x.map eI_u8)
@[reducible] def eA46 (x : (List Int)) : D := .arr 1 32 (x.map eI_u8)
structure GTx where
  Pub : (List Int)
  To : (List Int)
  Nonce : Int
  Amount : Int
  Fee : Int
  Sign : (List Int)
  deriving DecidableEq, Inhabited
@[reducible] def eGTx (x : GTx) : D := .st [eA46 x.Pub, eA46 x.To, eI_u64 x.Nonce, eI_u64 x.Amount, eI_u64 x.Fee, eA46 x.Sign]
@[reducible] def eL28 (x : (List GTx)) : D := .sl 99 (x.map eGTx)
structure GLine where
  From : (List Int)
  Txs : (List GTx)
  deriving DecidableEq, Inhabited
@[reducible] def eGLine (x : GLine) : D := .st [eA46 x.From, eL28 x.Txs]
structure GPair where
  Key : (List Int)
  Value : (List Int)
  deriving DecidableEq, Inhabited
@[reducible] def eGPair (x : GPair) : D := .st [eA46 x.Key, eL70 x.Value]
structure GNode where
  Leaf : Bool
  Key : (List Int)
  Value : (List Int)
  Left : Int
  Right : Int
  deriving DecidableEq, Inhabited
@[reducible] def eGNode (x : GNode) : D := .st [eB x.Leaf, eA46 x.Key, eL70 x.Value, eI_i64 x.Left, eI_i64 x.Right]
@[reducible] def eA201 (x : (List Int)) : D := .arr 1 2 (x.map eI_i64)
@[reducible] def eL25 (x : (List GNode)) : D := .sl 36 (x.map eGNode)
structure GTree where
  Nodes : (List GNode)
  Root : Int
  deriving DecidableEq, Inhabited
@[reducible] def eGTree (x : GTree) : D := .st [eL25 x.Nodes, eI_i64 x.Root]
@[reducible] def eL191 (x : (List (List Int))) : D := .sl 1 (x.map eL70)
@[reducible] def eA219 (x : (List Int)) : D := .arr 1 8 (x.map eI_u32)
@[reducible] def eL209 (x : (List (List Int))) : D := .sl 32 (x.map eA46)
@[reducible] def eL212 (x : (List Int)) : D := .sl 1 (x.map eI_u64)
@[reducible] def eL22 (x : (List GLine)) : D := .sl 33 (x.map eGLine)
structure GShard where
  Lines : (List GLine)
  deriving DecidableEq, Inhabited
@[reducible] def eGShard (x : GShard) : D := .st [eL22 x.Lines]
structure GAccount where
  Nonce : Int
  Balance : Int
  deriving DecidableEq, Inhabited
@[reducible] def eGAccount (x : GAccount) : D := .st [eI_u64 x.Nonce, eI_u64 x.Balance]
@[reducible] def eL45 (x : (List GShard)) : D := .sl 1 (x.map eGShard)
theorem un5 : Tryz.prog.underlying 5 = some (.int .u8) := by kernel_rfl
theorem un3 : Tryz.prog.underlying 3 = some (.int .i64) := by kernel_rfl
theorem un9 : Tryz.prog.underlying 9 = some (.string) := by kernel_rfl
theorem un203 : Tryz.prog.underlying 203 = some (.int .u64) := by kernel_rfl
theorem en178 : enterB Tryz.prog 178 = true := by kernel_rfl
theorem sl70 : slB Tryz.prog 70 = some 1 := by kernel_rfl
theorem en177 : enterB Tryz.prog 177 = true := by kernel_rfl
theorem sl28 : slB Tryz.prog 28 = some 99 := by kernel_rfl
theorem sl22 : slB Tryz.prog 22 = some 33 := by kernel_rfl
theorem ar47 : arrB Tryz.prog 47 = some (32, 1) := by kernel_rfl
theorem ty5 : tyB Tryz.prog 5 = some (false, 1) := by kernel_rfl
theorem ty47 : tyB Tryz.prog 47 = some (true, 32) := by kernel_rfl
theorem zr47 : ∃ zv, zeroB Tryz.prog 47 = some zv ∧ ∀ F μ w, RA F μ w (.d (eA46 (List.replicate 32 (0 : Int)))) zv.cells.toList := zero_mk' (by kernel_rfl) (by kernel_rfl)
theorem ag47 : aggB Tryz.prog 47 = true := by kernel_rfl
theorem sl91 : slB Tryz.prog 91 = some 33 := by kernel_rfl
theorem un48 : Tryz.prog.underlying 48 = some (.int .u64) := by kernel_rfl
theorem el70 : elB Tryz.prog 70 = some (1, 1) := by kernel_rfl
theorem zel70 : zelB Tryz.prog 70 = some (D.cells (.val (.int .u8 (0 : Int)))) := by kernel_rfl
theorem en155 : enterB Tryz.prog 155 = true := by kernel_rfl
theorem en165 : enterB Tryz.prog 165 = true := by kernel_rfl
theorem ty201 : tyB Tryz.prog 201 = some (true, 2) := by kernel_rfl
theorem pl201_1 : placeB Tryz.prog 201 1 = some (1, 1) := by kernel_rfl
theorem pl201_0 : placeB Tryz.prog 201 0 = some (0, 1) := by kernel_rfl
theorem zr201 : ∃ zv, zeroB Tryz.prog 201 = some zv ∧ ∀ F μ w, RA F μ w (.d (eA201 (List.replicate 2 (0 : Int)))) zv.cells.toList := zero_mk' (by kernel_rfl) (by kernel_rfl)
theorem ag201 : aggB Tryz.prog 201 = true := by kernel_rfl
theorem ty3 : tyB Tryz.prog 3 = some (false, 1) := by kernel_rfl
theorem fl72_4 : fieldB Tryz.prog 72 4 = some (35, false, 1) := by kernel_rfl
theorem fl72_3 : fieldB Tryz.prog 72 3 = some (34, false, 1) := by kernel_rfl
theorem sl25 : slB Tryz.prog 25 = some 36 := by kernel_rfl
theorem sl191 : slB Tryz.prog 191 = some 1 := by kernel_rfl
theorem un218 : Tryz.prog.underlying 218 = some (.int .u32) := by kernel_rfl
theorem ty70 : tyB Tryz.prog 70 = some (false, 1) := by kernel_rfl
theorem pl70_0 : placeB Tryz.prog 70 0 = some (0, 1) := by kernel_rfl
theorem ar235 : arrB Tryz.prog 235 = some (64, 1) := by kernel_rfl
theorem ty218 : tyB Tryz.prog 218 = some (false, 1) := by kernel_rfl
theorem en170 : enterB Tryz.prog 170 = true := by kernel_rfl
theorem ar220 : arrB Tryz.prog 220 = some (8, 1) := by kernel_rfl
theorem ty220 : tyB Tryz.prog 220 = some (true, 8) := by kernel_rfl
theorem pl220_7 : placeB Tryz.prog 220 7 = some (7, 1) := by kernel_rfl
theorem pl220_6 : placeB Tryz.prog 220 6 = some (6, 1) := by kernel_rfl
theorem pl220_5 : placeB Tryz.prog 220 5 = some (5, 1) := by kernel_rfl
theorem pl220_4 : placeB Tryz.prog 220 4 = some (4, 1) := by kernel_rfl
theorem pl220_3 : placeB Tryz.prog 220 3 = some (3, 1) := by kernel_rfl
theorem pl220_2 : placeB Tryz.prog 220 2 = some (2, 1) := by kernel_rfl
theorem pl220_1 : placeB Tryz.prog 220 1 = some (1, 1) := by kernel_rfl
theorem pl220_0 : placeB Tryz.prog 220 0 = some (0, 1) := by kernel_rfl
theorem zr220 : ∃ zv, zeroB Tryz.prog 220 = some zv ∧ ∀ F μ w, RA F μ w (.d (eA219 (List.replicate 8 (0 : Int)))) zv.cells.toList := zero_mk' (by kernel_rfl) (by kernel_rfl)
theorem ag220 : aggB Tryz.prog 220 = true := by kernel_rfl
theorem zr235 : ∃ zv, zeroB Tryz.prog 235 = some zv ∧ ∀ F μ w, RA F μ w (.d (eA235 (List.replicate 64 (0 : Int)))) zv.cells.toList := zero_mk' (by kernel_rfl) (by kernel_rfl)
theorem en159 : enterB Tryz.prog 159 = true := by kernel_rfl
theorem fl_eA219 : ∀ x : (List Int), FlatD (eA219 x) := fun _ => flat_arr fun _ => flat_val
theorem sl209 : slB Tryz.prog 209 = some 32 := by kernel_rfl
theorem en152 : enterB Tryz.prog 152 = true := by kernel_rfl
theorem sl212 : slB Tryz.prog 212 = some 1 := by kernel_rfl
theorem en154 : enterB Tryz.prog 154 = true := by kernel_rfl
theorem ty48 : tyB Tryz.prog 48 = some (false, 1) := by kernel_rfl
theorem en153 : enterB Tryz.prog 153 = true := by kernel_rfl
theorem pl212_2 : placeB Tryz.prog 212 2 = some (2, 1) := by kernel_rfl
theorem pl212_1 : placeB Tryz.prog 212 1 = some (1, 1) := by kernel_rfl
theorem pl212_0 : placeB Tryz.prog 212 0 = some (0, 1) := by kernel_rfl
theorem el212 : elB Tryz.prog 212 = some (1, 8) := by kernel_rfl
theorem zel212 : zelB Tryz.prog 212 = some (D.cells (.val (.int .u64 (0 : Int)))) := by kernel_rfl
theorem fl50_4 : fieldB Tryz.prog 50 4 = some (66, false, 1) := by kernel_rfl
theorem fl50_3 : fieldB Tryz.prog 50 3 = some (65, false, 1) := by kernel_rfl
theorem fl50_2 : fieldB Tryz.prog 50 2 = some (64, false, 1) := by kernel_rfl
theorem en151 : enterB Tryz.prog 151 = true := by kernel_rfl
theorem pl209_1 : placeB Tryz.prog 209 1 = some (32, 32) := by kernel_rfl
theorem pl209_0 : placeB Tryz.prog 209 0 = some (0, 32) := by kernel_rfl
theorem el209 : elB Tryz.prog 209 = some (32, 32) := by kernel_rfl
theorem zel209 : zelB Tryz.prog 209 = some (D.cells (eA46 (List.replicate 32 (0 : Int)))) := by kernel_rfl
theorem fl50_1 : fieldB Tryz.prog 50 1 = some (32, true, 32) := by kernel_rfl
theorem fl50_0 : fieldB Tryz.prog 50 0 = some (0, true, 32) := by kernel_rfl
theorem eq_eI_u8 (a b : Int) : D.eqB (eI_u8 a) (eI_u8 b) = decide (a = b) := by simp only [D.eqB]; rfl
theorem fit5 {d : Nat} (a : Int) : Fits Tryz.prog (d + 1) 5 (eI_u8 a) := .int un5
theorem eq_eA46 (a b : (List Int)) : D.eqB (eA46 a) (eA46 b) = decide (a = b) := by simp only [D.eqB]; exact eqBs_map eq_eI_u8 a b
theorem uda47 : Tryz.prog.underlying 47 = some (.array 32 5) := by kernel_rfl
theorem fit47 {d : Nat} (a : (List Int)) : Fits Tryz.prog (d + 2) 47 (eA46 a) := .arr uda47 ty5 (by intro x hx; obtain ⟨y, _, rfl⟩ := List.mem_map.1 hx; rfl) (by intro x hx; obtain ⟨y, _, rfl⟩ := List.mem_map.1 hx; exact fit5 y)
theorem gd47 : Tryz.prog.eqGuardType Tryz.prog.depth 47 = false := by kernel_rfl
theorem fl72_1 : fieldB Tryz.prog 72 1 = some (1, true, 32) := by kernel_rfl
theorem uda201 : Tryz.prog.underlying 201 = some (.array 2 3) := by kernel_rfl
theorem en146 : enterB Tryz.prog 146 = true := by kernel_rfl
theorem en145 : enterB Tryz.prog 145 = true := by kernel_rfl
theorem ty72 : tyB Tryz.prog 72 = some (true, 36) := by kernel_rfl
theorem ty4 : tyB Tryz.prog 4 = some (false, 1) := by kernel_rfl
theorem fl72_0 : fieldB Tryz.prog 72 0 = some (0, false, 1) := by kernel_rfl
theorem zrv72 : ∃ zv, zeroB Tryz.prog 72 = some zv ∧ ∀ F μ w, RA F μ w (.st [.B false, .d (eA46 (List.replicate 32 (0 : Int))), .N, .I (0 : Int), .I (0 : Int)]) zv.cells.toList := zero_st (ds := [(.val (.bool false)), (eA46 (List.replicate 32 (0 : Int))), (.val (.slice none 0 0)), (.val (.int .i64 (0 : Int))), (.val (.int .i64 (0 : Int)))]) (zero_mk' (by kernel_rfl) (by kernel_rfl))
theorem ty25 : tyB Tryz.prog 25 = some (false, 1) := by kernel_rfl
theorem fl27_0 : fieldB Tryz.prog 27 0 = some (0, false, 1) := by kernel_rfl
theorem fl27_1 : fieldB Tryz.prog 27 1 = some (1, false, 1) := by kernel_rfl
theorem en138 : enterB Tryz.prog 138 = true := by kernel_rfl
theorem fl_eA46 : ∀ x : (List Int), FlatD (eA46 x) := fun _ => flat_arr fun _ => flat_val
theorem pl191_0 : placeB Tryz.prog 191 0 = some (0, 1) := by kernel_rfl
theorem el191 : elB Tryz.prog 191 = some (1, 24) := by kernel_rfl
theorem zel191 : zelB Tryz.prog 191 = some (D.cells (.val (.slice none 0 0))) := by kernel_rfl
theorem en139 : enterB Tryz.prog 139 = true := by kernel_rfl
theorem ty28 : tyB Tryz.prog 28 = some (false, 1) := by kernel_rfl
theorem fl69_1 : fieldB Tryz.prog 69 1 = some (32, false, 1) := by kernel_rfl
theorem ty69 : tyB Tryz.prog 69 = some (true, 33) := by kernel_rfl
theorem zrv69 : ∃ zv, zeroB Tryz.prog 69 = some zv ∧ ∀ F μ w, RA F μ w (.st [.d (eA46 (List.replicate 32 (0 : Int))), .N]) zv.cells.toList := zero_st (ds := [(eA46 (List.replicate 32 (0 : Int))), (.val (.slice none 0 0))]) (zero_mk' (by kernel_rfl) (by kernel_rfl))
theorem ty22 : tyB Tryz.prog 22 = some (false, 1) := by kernel_rfl
theorem fl24_0 : fieldB Tryz.prog 24 0 = some (0, false, 1) := by kernel_rfl
theorem sl45 : slB Tryz.prog 45 = some 1 := by kernel_rfl
theorem en104 : enterB Tryz.prog 104 = true := by kernel_rfl
theorem en129 : enterB Tryz.prog 129 = true := by kernel_rfl
theorem ty50 : tyB Tryz.prog 50 = some (true, 99) := by kernel_rfl
theorem en89 : enterB Tryz.prog 89 = true := by kernel_rfl
theorem fl50_5 : fieldB Tryz.prog 50 5 = some (67, true, 32) := by kernel_rfl
theorem en63 : enterB Tryz.prog 63 = true := by kernel_rfl
theorem en27 : enterB Tryz.prog 27 = true := by kernel_rfl
theorem en43 : enterB Tryz.prog 43 = true := by kernel_rfl
theorem ty130 : tyB Tryz.prog 130 = some (true, 2) := by kernel_rfl
theorem pl130_1 : placeB Tryz.prog 130 1 = some (1, 1) := by kernel_rfl
theorem pl130_0 : placeB Tryz.prog 130 0 = some (0, 1) := by kernel_rfl
theorem zrv130 : ∃ zv, zeroB Tryz.prog 130 = some zv ∧ ∀ F μ w, RA F μ w (.st [.N, .d (.val .nilFunc)]) zv.cells.toList := zero_st (ds := [(.val (.slice none 0 0)), (.val .nilFunc)]) (zero_mk' (by kernel_rfl) (by kernel_rfl))
theorem ag130 : aggB Tryz.prog 130 = true := by kernel_rfl
theorem en90 : enterB Tryz.prog 90 = true := by kernel_rfl
theorem fl69_0 : fieldB Tryz.prog 69 0 = some (0, true, 32) := by kernel_rfl
theorem zr50 : ∃ zv, zeroB Tryz.prog 50 = some zv ∧ ∀ F μ w, RA F μ w (.d (eGTx (⟨(List.replicate 32 (0 : Int)), (List.replicate 32 (0 : Int)), (0 : Int), (0 : Int), (0 : Int), (List.replicate 32 (0 : Int))⟩ : GTx))) zv.cells.toList := zero_mk' (by kernel_rfl) (by kernel_rfl)
theorem ty45 : tyB Tryz.prog 45 = some (false, 1) := by kernel_rfl
theorem en98 : enterB Tryz.prog 98 = true := by kernel_rfl
theorem ty24 : tyB Tryz.prog 24 = some (true, 1) := by kernel_rfl
theorem zrv24 : ∃ zv, zeroB Tryz.prog 24 = some zv ∧ ∀ F μ w, RA F μ w (.st [.N]) zv.cells.toList := zero_st (ds := [(.val (.slice none 0 0))]) (zero_mk' (by kernel_rfl) (by kernel_rfl))
theorem el45 : elB Tryz.prog 45 = some (1, 24) := by kernel_rfl
theorem zeln45 : zelB Tryz.prog 45 = some (D.cells (.st [(.val (.slice none 0 0))])) := by kernel_rfl
theorem en26 : enterB Tryz.prog 26 = true := by kernel_rfl
theorem ty111 : tyB Tryz.prog 111 = some (true, 99) := by kernel_rfl
theorem eq_eI_u64 (a b : Int) : D.eqB (eI_u64 a) (eI_u64 b) = decide (a = b) := by simp only [D.eqB]; rfl
theorem fit48 {d : Nat} (a : Int) : Fits Tryz.prog (d + 1) 48 (eI_u64 a) := .int un48
theorem eq_eGTx (a b : GTx) : D.eqB (eGTx a) (eGTx b) = decide (a = b) := by
  show (D.eqB (eA46 a.Pub) (eA46 b.Pub) && (D.eqB (eA46 a.To) (eA46 b.To) && (D.eqB (eI_u64 a.Nonce) (eI_u64 b.Nonce) && (D.eqB (eI_u64 a.Amount) (eI_u64 b.Amount) && (D.eqB (eI_u64 a.Fee) (eI_u64 b.Fee) && (D.eqB (eA46 a.Sign) (eA46 b.Sign) && true)))))) = _
  rw [eq_eA46, eq_eA46, eq_eI_u64, eq_eI_u64, eq_eI_u64, eq_eA46]
  cases a; cases b; simp only [Bool.and_true, GTx.mk.injEq, Bool.decide_and]
theorem udst50 : Tryz.prog.underlying 50 = some (.struct (Tryz.prog.fieldsOf 50)) := by kernel_rfl
theorem sih50 : Tryz.prog.stoodInHeld 50 = false := by kernel_rfl
theorem fq50 : fieldsQ Tryz.prog 50 = [(47, 0, false), (47, 32, false), (48, 64, false), (48, 65, false), (48, 66, false), (47, 67, false)] := by kernel_rfl
theorem fit50 {d : Nat} (a : GTx) : Fits Tryz.prog (d + 3) 50 (eGTx a) := fits_st udst50 sih50 fq50 ⟨rfl, rfl, ty47, fit47 _, ⟨rfl, rfl, ty47, fit47 _, ⟨rfl, rfl, ty48, fit48 _, ⟨rfl, rfl, ty48, fit48 _, ⟨rfl, rfl, ty48, fit48 _, ⟨rfl, rfl, ty47, fit47 _, trivial⟩⟩⟩⟩⟩⟩
theorem gd50 : Tryz.prog.eqGuardType Tryz.prog.depth 50 = false := by kernel_rfl
theorem en14 : enterB Tryz.prog 14 = true := by kernel_rfl
theorem en115 : enterB Tryz.prog 115 = true := by kernel_rfl
theorem fl130_0 : fieldB Tryz.prog 130 0 = some (0, false, 1) := by kernel_rfl
theorem ty128 : tyB Tryz.prog 128 = some (false, 1) := by kernel_rfl
theorem fl130_1 : fieldB Tryz.prog 130 1 = some (1, false, 1) := by kernel_rfl
theorem el28 : elB Tryz.prog 28 = some (99, 120) := by kernel_rfl
theorem pl28_0 : placeB Tryz.prog 28 0 = some (0, 99) := by kernel_rfl
theorem zel28 : zelB Tryz.prog 28 = some (D.cells (.st [(eA46 (List.replicate 32 (0 : Int))), (eA46 (List.replicate 32 (0 : Int))), (.val (.int .u64 (0 : Int))), (.val (.int .u64 (0 : Int))), (.val (.int .u64 (0 : Int))), (eA46 (List.replicate 32 (0 : Int)))])) := by kernel_rfl
theorem en73 : enterB Tryz.prog 73 = true := by kernel_rfl
theorem en72 : enterB Tryz.prog 72 = true := by kernel_rfl
theorem en116 : enterB Tryz.prog 116 = true := by kernel_rfl
theorem en75 : enterB Tryz.prog 75 = true := by kernel_rfl
theorem en65 : enterB Tryz.prog 65 = true := by kernel_rfl
theorem zrv28 : ∃ zv, zeroB Tryz.prog 28 = some zv ∧ ∀ F μ w, RA F μ w (.N) zv.cells.toList := zero_mk' (by kernel_rfl) (by kernel_rfl)
theorem en6 : enterB Tryz.prog 6 = true := by kernel_rfl
theorem en48 : enterB Tryz.prog 48 = true := by kernel_rfl
theorem fl72_2 : fieldB Tryz.prog 72 2 = some (33, false, 1) := by kernel_rfl
def F178_bits_Len8 (n : Nat) (a0 : Int) : Option (Int) :=
  ((sRd str0 a0).bind fun (x1 : UInt8) => some (IntKind.i64.wrap (x1.toNat : Int)))
theorem F178_bits_Len8_ok {n : Nat} {a0 : Int} {r : Int} (h : F178_bits_Len8 n a0 = some r) :
    ACall Tryz.prog GS 178 [.d (.val (.int .u8 a0))] [] (fun r' hp' => r' = .I r ∧ hp' = []) := by
 refine acall_of_body mixed Tryz.func178 rfl (by rfl) ?_
 intro C hro hgl hb0
 unfold F178_bits_Len8 at h
 refine aw_rs ?_
 refine .a rfl ?_
 refine .z ?_
 refine .m rfl ?_
 obtain ⟨x1, hx2, h⟩ := bind_some h
 obtain ⟨hx3, hx2⟩ := sRd_some hx2
 refine .v2 (f_indexStr (by rfl) un9 hx3 hx2) rfl rfl rfl ?_
 refine .v1 (f_convI (by rfl) un5 un3) rfl rfl ?_
 refine .a rfl ?_
 refine .nil (aq_then ?_)
 refine aw_ret ?_
 obtain rfl := Option.some.inj h
 exact aq_finp hb0 rfl (.tmp rfl (by rfl) .nil) (by rfl) rfl ⟨rfl, rfl⟩
def F177_bits_RotateLeft32 (n : Nat) (a0 : Int) (a1 : Int) : Option (Int) :=
  (if 0 ≤ (bAnd .u64 (IntKind.u64.wrap a1) (31 : Int)) then (if 0 ≤ (IntKind.u64.wrap ((32 : Int) - (bAnd .u64 (IntKind.u64.wrap a1) (31 : Int)))) then some (bOr .u32 (shl .u32 a0 (bAnd .u64 (IntKind.u64.wrap a1) (31 : Int))) (shr .u32 a0 (IntKind.u64.wrap ((32 : Int) - (bAnd .u64 (IntKind.u64.wrap a1) (31 : Int)))))) else none) else none)
theorem F177_bits_RotateLeft32_ok {n : Nat} {a0 : Int} {a1 : Int} {r : Int} (h : F177_bits_RotateLeft32 n a0 a1 = some r) :
    ACall Tryz.prog GS 177 [.d (.val (.int .u32 a0)), .I a1] [] (fun r' hp' => r' = .d (.val (.int .u32 r)) ∧ hp' = []) := by
 refine acall_of_body mixed Tryz.func177 rfl (by rfl) ?_
 intro C hro hgl hb0
 unfold F177_bits_RotateLeft32 at h
 refine aw_rs ?_
 refine .a rfl ?_
 refine .z ?_
 refine .m rfl ?_
 refine .v1 (f_convI (by rfl) un3 un203) rfl rfl ?_
 refine .v2 (f_binI (r := .int .u64 (bAnd .u64 (IntKind.u64.wrap a1) (31 : Int))) (by rfl) rfl (by rfl)) rfl rfl rfl ?_
 refine .a rfl ?_
 refine .z ?_
 refine .m rfl ?_
 refine .m rfl ?_
 obtain ⟨hz1, h⟩ := ifp h
 refine .v2 (f_shift (by rfl) (shl_ok hz1) (by rfl)) rfl rfl rfl ?_
 refine .m rfl ?_
 refine .m rfl ?_
 refine .b rfl rfl rfl ?_
 obtain ⟨hz2, h⟩ := ifp h
 refine .v2 (f_shift (by rfl) (shr_ok hz2) (by rfl)) rfl rfl rfl ?_
 refine .v2 (f_binI (r := .int .u32 (bOr .u32 (shl .u32 a0 (bAnd .u64 (IntKind.u64.wrap a1) (31 : Int))) (shr .u32 a0 (IntKind.u64.wrap ((32 : Int) - (bAnd .u64 (IntKind.u64.wrap a1) (31 : Int))))))) (by rfl) rfl (by rfl)) rfl rfl rfl ?_
 refine .a rfl ?_
 refine .nil (aq_then ?_)
 refine aw_ret ?_
 obtain rfl := Option.some.inj h
 exact aq_finp hb0 rfl (.tmp rfl (by rfl) .nil) (by rfl) rfl ⟨rfl, rfl⟩
def F172_bits_LeadingZeros8 (n : Nat) (a0 : Int) : Option (Int) :=
  ((F178_bits_Len8 n a0).bind fun (y1 : Int) => some (IntKind.i64.wrap ((8 : Int) - y1)))
theorem F172_bits_LeadingZeros8_ok {n : Nat} {a0 : Int} {r : Int} (h : F172_bits_LeadingZeros8 n a0 = some r) :
    ACall Tryz.prog GS 172 [.d (.val (.int .u8 a0))] [] (fun r' hp' => r' = .I r ∧ hp' = []) := by
 refine acall_of_body mixed Tryz.func172 rfl (by rfl) ?_
 intro C hro hgl hb0
 unfold F172_bits_LeadingZeros8 at h
 refine aw_rs ?_
 refine .a rfl ?_
 refine .z ?_
 refine .m rfl ?_
 obtain ⟨y1, hy2, h⟩ := bind_some h
 refine .v1 (f_callP hgl (by rfl) en178 rfl (by rfl) (by rfl) (by rfl) (F178_bits_Len8_ok hy2)) rfl rfl ?_
 refine .b rfl rfl rfl ?_
 refine .a rfl ?_
 refine .nil (aq_then ?_)
 refine aw_ret ?_
 obtain rfl := Option.some.inj h
 exact aq_finp hb0 rfl (.tmp rfl (by rfl) .nil) (by rfl) rfl ⟨rfl, rfl⟩
def F171_pairs_value (n : Nat) (a0 : (List Int)) : Option (Bool) :=
  (((if (decide (((a0).length : Int) > (0 : Int))) = true then some (decide (((a0).length : Int) ≤ (64 : Int))) else some false)).bind fun (o2 : Bool) => some o2)
theorem F171_pairs_value_ok {n : Nat} {a0 : (List Int)} {r : Bool} (h : F171_pairs_value n a0 = some r) :
    ACall Tryz.prog GS 171 [.d (eL70 a0)] [] (fun r' hp' => r' = .B r ∧ hp' = []) := by
 refine acall_of_body mixed Tryz.func171 rfl (by rfl) ?_
 intro C hro hgl hb0
 unfold F171_pairs_value at h
 refine aw_rs ?_
 refine .a rfl ?_
 refine .nil (aq_then ?_)
 refine aw_seq ?_
 obtain ⟨o2, ho3, h⟩ := bind_some h
 refine aw_join (.normal) ⟨[(2, .B o2)], [], []⟩ ?_ ?_
 ·replace h := ho3
  refine aw_r ?_
  refine .m rfl ?_
  refine .v1 (f_lenD (n := (a0).length) (by rfl) sl70 rfl (by simp)) rfl rfl ?_
  refine .b rfl rfl rfl ?_
  refine .m rfl ?_
  rcases Bool.eq_false_or_eq_true (decide (((a0).length : Int) > (0 : Int))) with hc1 | hc1
  ·replace h := ite_t hc1 h
   refine .g1 (f_move (by rfl)) rfl rfl rfl hc1 rfl ?_
   refine .g1 (f_lenD (n := (a0).length) (by rfl) sl70 rfl (by simp)) rfl rfl rfl hc1 rfl ?_
   refine .g2 (f_binI (by rfl) rfl (by rfl)) rfl rfl rfl hc1 rfl rfl ?_
   refine .v2 (f_pick_true (by rfl) hc1) rfl rfl rfl ?_
   refine .a rfl ?_
   refine .nil ?_
   obtain rfl := Option.some.inj h
   refine aq_k hb0 (.k 2 rfl .nil) .nil ?_
   exact jq
  replace h := ite_f hc1 h
  refine .q rfl rfl rfl hc1 rfl ?_
  refine .q rfl rfl rfl hc1 rfl ?_
  refine .q rfl rfl rfl hc1 rfl ?_
  refine .v2 (f_pick_false (by rfl) hc1) rfl rfl rfl ?_
  refine .a rfl ?_
  refine .nil ?_
  obtain rfl := Option.some.inj h
  refine aq_k hb0 (.k 2 rfl .nil) .nil ?_
  exact jq
 refine aq_then ?_
 refine aw_ret ?_
 obtain rfl := Option.some.inj h
 exact aq_finp hb0 rfl (.tmp rfl (by rfl) .nil) (by rfl) rfl ⟨rfl, rfl⟩
def F170_sha_turned (n : Nat) (a0 : Int) (a1 : Int) : Option (Int) :=
  ((F177_bits_RotateLeft32 n a0 (IntKind.i64.wrap (0 - a1))).bind fun (y1 : Int) => some y1)
theorem F170_sha_turned_ok {n : Nat} {a0 : Int} {a1 : Int} {r : Int} (h : F170_sha_turned n a0 a1 = some r) :
    ACall Tryz.prog GS 170 [.d (.val (.int .u32 a0)), .I a1] [] (fun r' hp' => r' = .d (.val (.int .u32 r)) ∧ hp' = []) := by
 refine acall_of_body mixed Tryz.func170 rfl (by rfl) ?_
 intro C hro hgl hb0
 unfold F170_sha_turned at h
 refine aw_rs ?_
 refine .a rfl ?_
 refine .z ?_
 refine .m rfl ?_
 refine .m rfl ?_
 refine .v1 (f_neg (by rfl)) rfl rfl ?_
 obtain ⟨y1, hy2, h⟩ := bind_some h
 refine .v2 (f_callP hgl (by rfl) en177 rfl (by rfl) (by rfl) (by rfl) (F177_bits_RotateLeft32_ok hy2)) rfl rfl rfl ?_
 refine .a rfl ?_
 refine .nil (aq_then ?_)
 refine aw_ret ?_
 obtain rfl := Option.some.inj h
 exact aq_finp hb0 rfl (.tmp rfl (by rfl) .nil) (by rfl) rfl ⟨rfl, rfl⟩
def F165_path_Bit (n : Nat) (a0 : (List Int)) (a1 : Int) : Option (Int × Int) :=
  (((if (decide (a1 < (0 : Int))) = true then some true else some (decide (a1 ≥ (256 : Int))))).bind fun (o2 : Bool) => (if o2 = true then some ((0 : Int), (2 : Int)) else ((rd a0 (IntKind.i64.wrap (Int.tdiv a1 (8 : Int)))).bind fun (x4 : Int) => (if 0 ≤ (IntKind.i64.wrap ((7 : Int) - (Int.tmod a1 (8 : Int)))) then some ((bAnd .u8 (shr .u8 x4 (IntKind.i64.wrap ((7 : Int) - (Int.tmod a1 (8 : Int))))) (1 : Int)), (0 : Int)) else none))))
theorem F165_path_Bit_ok {n : Nat} {a0 : (List Int)} {a1 : Int} {r : Int × Int} (h : F165_path_Bit n a0 a1 = some r) :
    ACall Tryz.prog GS 165 [.d (eA46 a0), .I a1] [] (fun r' hp' => r' = .res [.d (.val (.int .u8 r.1)), .I r.2] ∧ hp' = []) := by
 refine acall_of_body mixed Tryz.func165 rfl (by rfl) ?_
 intro C hro hgl hb0
 unfold F165_path_Bit at h
 refine aw_rs ?_
 refine .n (f_box 2 (by rfl) (by rfl)) rfl (.c rfl .nil) rfl ?_
 refine .a rfl ?_
 refine .a rfl ?_
 refine .nil (aq_then ?_)
 refine aw_seq ?_
 refine aw_seq ?_
 obtain ⟨o2, ho8, h⟩ := bind_some h
 refine aw_join (.normal) ⟨[(1, .I a1), (2, .ptr 2 0 []), (11, .B o2)], [(2, .av (.d (eA46 a0)))], []⟩ ?_ ?_
 ·replace h := ho8
  refine aw_r ?_
  refine .m rfl ?_
  refine .b rfl rfl rfl ?_
  refine .m rfl ?_
  rcases Bool.eq_false_or_eq_true (decide (a1 < (0 : Int))) with hc1 | hc1
  ·replace h := ite_t hc1 h
   refine .q rfl rfl rfl hc1 rfl ?_
   refine .q rfl rfl rfl hc1 rfl ?_
   refine .v2 (f_pick_true (by rfl) hc1) rfl rfl rfl ?_
   refine .nil ?_
   obtain rfl := Option.some.inj h
   refine aq_k hb0 (.k 1 rfl (.k 2 rfl (.k 11 rfl .nil))) (.k 2 rfl .nil) ?_
   exact jq
  replace h := ite_f hc1 h
  refine .g1 (f_move (by rfl)) rfl rfl rfl hc1 rfl ?_
  refine .g2 (f_binI (by rfl) rfl (by rfl)) rfl rfl rfl hc1 rfl rfl ?_
  refine .v2 (f_pick_false (by rfl) hc1) rfl rfl rfl ?_
  refine .nil ?_
  obtain rfl := Option.some.inj h
  refine aq_k hb0 (.k 1 rfl (.k 2 rfl (.k 11 rfl .nil))) (.k 2 rfl .nil) ?_
  exact jq
 refine aq_then ?_
 refine aw_cond rfl (fun hc3 => ?_) (fun hc3 => ?_)
 ·replace h := ite_t hc3 h
  refine aw_rs ?_
  refine .a rfl ?_
  refine .a rfl ?_
  refine .nil (aq_then ?_)
  refine aw_ret ?_
  refine aq_then_ret ?_
  obtain rfl := Option.some.inj h
  exact aq_finp hb0 rfl (.tmp rfl (by rfl) (.tmp rfl (by rfl) .nil)) (by rfl) rfl ⟨rfl, rfl⟩
 replace h := ite_f hc3 h
 refine aw_skip ?_
 refine aq_then ?_
 refine aw_rs ?_
 refine .m rfl ?_
 refine .v2 (f_binI (by rfl) (quo_ok (by decide)) (by rfl)) rfl rfl rfl ?_
 obtain ⟨x4, hx5, h⟩ := bind_some h
 obtain ⟨hx6, hx5⟩ := rd_some hx5
 refine .v (f_indexO (by rfl) ar47 rfl hx6 (rd_map _ hx5)) rfl (.c rfl (.c rfl .nil)) (.cons rfl .nil) ?_
 refine .v (f_load (n := 0) (o := 2) (off := (0 + ((IntKind.i64.wrap (Int.tdiv a1 (8 : Int)))).toNat * 1)) (p := [((IntKind.i64.wrap (Int.tdiv a1 (8 : Int)))).toNat]) (c := .d (eA46 a0)) (z := .d (.val (.int .u8 x4))) (by rfl) (at_map _ hx5 (by simp)) ty5 (by rfl)) rfl (.c rfl .nil) (.cons rfl .nil) ?_
 refine .m rfl ?_
 refine .v2 (f_binI (by rfl) (rem_ok (by decide)) (by rfl)) rfl rfl rfl ?_
 refine .b rfl rfl rfl ?_
 obtain ⟨hz7, h⟩ := ifp h
 refine .v2 (f_shift (by rfl) (shr_ok hz7) (by rfl)) rfl rfl rfl ?_
 refine .v2 (f_binI (r := .int .u8 (bAnd .u8 (shr .u8 x4 (IntKind.i64.wrap ((7 : Int) - (Int.tmod a1 (8 : Int))))) (1 : Int))) (by rfl) rfl (by rfl)) rfl rfl rfl ?_
 refine .a rfl ?_
 refine .a rfl ?_
 refine .nil (aq_then ?_)
 refine aw_ret ?_
 obtain rfl := Option.some.inj h
 exact aq_finp hb0 rfl (.tmp rfl (by rfl) (.tmp rfl (by rfl) .nil)) (by rfl) rfl ⟨rfl, rfl⟩
def F164_path_Turn (n : Nat) (a0 : (List Int)) (a1 : Int) : Option ((List Int) × Int) :=
  (((if (decide (a1 < (0 : Int))) = true then some true else some (decide (a1 ≥ (256 : Int))))).bind fun (o2 : Bool) => (if o2 = true then some ((List.replicate 32 (0 : Int)), (2 : Int)) else ((rd a0 (IntKind.i64.wrap (Int.tdiv a1 (8 : Int)))).bind fun (x4 : Int) => (if 0 ≤ (Int.tmod a1 (8 : Int)) then ((rd a0 (IntKind.i64.wrap (Int.tdiv a1 (8 : Int)))).bind fun (x8 : Int) => some ((a0.set ((IntKind.i64.wrap (Int.tdiv a1 (8 : Int)))).toNat (bXor .u8 x4 (shr .u8 (128 : Int) (Int.tmod a1 (8 : Int))))), (0 : Int))) else none))))
theorem F164_path_Turn_ok {n : Nat} {a0 : (List Int)} {a1 : Int} {r : (List Int) × Int} (h : F164_path_Turn n a0 a1 = some r) :
    ACall Tryz.prog GS 164 [.d (eA46 a0), .I a1] [] (fun r' hp' => r' = .res [.d (eA46 r.1), .I r.2] ∧ hp' = []) := by
 refine acall_of_body mixed Tryz.func164 rfl (by rfl) ?_
 intro C hro hgl hb0
 unfold F164_path_Turn at h
 refine aw_rs ?_
 refine .n (f_box 2 (by rfl) (by rfl)) rfl (.c rfl .nil) rfl ?_
 refine .n (f_alloc 4 (by rfl) zr47) rfl .nil rfl ?_
 refine .a rfl ?_
 refine .nil (aq_then ?_)
 refine aw_seq ?_
 refine aw_seq ?_
 obtain ⟨o2, ho11, h⟩ := bind_some h
 refine aw_join (.normal) ⟨[(1, .I a1), (2, .ptr 2 0 []), (4, .ptr 4 0 []), (11, .B o2)], [(2, .av (.d (eA46 a0))), (4, .av (.d (eA46 (List.replicate 32 (0 : Int)))))], []⟩ ?_ ?_
 ·replace h := ho11
  refine aw_r ?_
  refine .m rfl ?_
  refine .b rfl rfl rfl ?_
  refine .m rfl ?_
  rcases Bool.eq_false_or_eq_true (decide (a1 < (0 : Int))) with hc1 | hc1
  ·replace h := ite_t hc1 h
   refine .q rfl rfl rfl hc1 rfl ?_
   refine .q rfl rfl rfl hc1 rfl ?_
   refine .v2 (f_pick_true (by rfl) hc1) rfl rfl rfl ?_
   refine .nil ?_
   obtain rfl := Option.some.inj h
   refine aq_k hb0 (.k 1 rfl (.k 2 rfl (.k 4 rfl (.k 11 rfl .nil)))) (.k 2 rfl (.k 4 rfl .nil)) ?_
   exact jq
  replace h := ite_f hc1 h
  refine .g1 (f_move (by rfl)) rfl rfl rfl hc1 rfl ?_
  refine .g2 (f_binI (by rfl) rfl (by rfl)) rfl rfl rfl hc1 rfl rfl ?_
  refine .v2 (f_pick_false (by rfl) hc1) rfl rfl rfl ?_
  refine .nil ?_
  obtain rfl := Option.some.inj h
  refine aq_k hb0 (.k 1 rfl (.k 2 rfl (.k 4 rfl (.k 11 rfl .nil)))) (.k 2 rfl (.k 4 rfl .nil)) ?_
  exact jq
 refine aq_then ?_
 refine aw_cond rfl (fun hc3 => ?_) (fun hc3 => ?_)
 ·replace h := ite_t hc3 h
  refine aw_rs ?_
  refine .v (f_build (xs := []) (z' := .d (eA46 (List.replicate 32 (0 : Int)))) (by rfl) zr47 ag47 rfl (by rfl) trivial (by rfl) (by rfl)) rfl .nil .nil ?_
  refine .s (f_store (n := 0) (o := 4) (off := 0) (p := []) (c := .d (eA46 (List.replicate 32 (0 : Int)))) (old := .d (eA46 (List.replicate 32 (0 : Int)))) (z := .d (eA46 (List.replicate 32 (0 : Int)))) (c' := .d (eA46 (List.replicate 32 (0 : Int)))) rfl rfl (by rfl) ty47 (by rfl)) rfl (.c rfl (.c rfl .nil)) (.cons rfl .nil) ?_
  refine .a rfl ?_
  refine .nil (aq_then ?_)
  refine aw_ret ?_
  refine aq_then_ret ?_
  obtain rfl := Option.some.inj h
  exact aq_finp hb0 rfl (.cell rfl rfl ty47 (by rfl) (.tmp rfl (by rfl) .nil)) (by rfl) rfl ⟨rfl, rfl⟩
 replace h := ite_f hc3 h
 refine aw_skip ?_
 refine aq_then ?_
 refine aw_rds ?_
 refine .v1 (f_move (by rfl)) rfl rfl ?_
 refine .v2 (f_binI (by rfl) (quo_ok (by decide)) (by rfl)) rfl rfl rfl ?_
 obtain ⟨x4, hx5, h⟩ := bind_some h
 obtain ⟨hx6, hx5⟩ := rd_some hx5
 refine .v (f_indexO (by rfl) ar47 rfl hx6 (rd_map _ hx5)) rfl (.c rfl (.c rfl .nil)) (.cons rfl .nil) ?_
 refine .v (f_load (n := 0) (o := 2) (off := (0 + ((IntKind.i64.wrap (Int.tdiv a1 (8 : Int)))).toNat * 1)) (p := [((IntKind.i64.wrap (Int.tdiv a1 (8 : Int)))).toNat]) (c := .d (eA46 a0)) (z := .d (.val (.int .u8 x4))) (by rfl) (at_map _ hx5 (by simp)) ty5 (by rfl)) rfl (.c rfl .nil) (.cons rfl .nil) ?_
 refine .v1 (f_move (by rfl)) rfl rfl ?_
 refine .v2 (f_binI (by rfl) (rem_ok (by decide)) (by rfl)) rfl rfl rfl ?_
 obtain ⟨hz7, h⟩ := ifp h
 refine .v2 (f_shift (by rfl) (shr_ok hz7) (by rfl)) rfl rfl rfl ?_
 refine .v2 (f_binI (r := .int .u8 (bXor .u8 x4 (shr .u8 (128 : Int) (Int.tmod a1 (8 : Int))))) (by rfl) rfl (by rfl)) rfl rfl rfl ?_
 obtain ⟨x8, hx9, h⟩ := bind_some h
 obtain ⟨hx10, hx9⟩ := rd_some hx9
 refine .v (f_indexO (by rfl) ar47 rfl hx10 (rd_map _ hx9)) rfl (.c rfl (.c rfl .nil)) (.cons rfl .nil) ?_
 refine .s (f_store (n := 0) (o := 2) (off := (0 + ((IntKind.i64.wrap (Int.tdiv a1 (8 : Int)))).toNat * 1)) (p := [((IntKind.i64.wrap (Int.tdiv a1 (8 : Int)))).toNat]) (c := .d (eA46 a0)) (old := .d (.val (.int .u8 x8))) (z := .d (.val (.int .u8 (bXor .u8 x4 (shr .u8 (128 : Int) (Int.tmod a1 (8 : Int))))))) (c' := .d (eA46 (a0.set ((IntKind.i64.wrap (Int.tdiv a1 (8 : Int)))).toNat (bXor .u8 x4 (shr .u8 (128 : Int) (Int.tmod a1 (8 : Int))))))) (at_map _ hx9 (by simp)) (put_map _ hx9) (by rfl) ty5 (by rfl)) rfl (.c rfl (.c rfl .nil)) (.cons rfl .nil) ?_
 refine .nil (by kernel_rfl) ?_
 refine aw_rs ?_
 refine .l 2 0 [] (.d (eA46 (a0.set ((IntKind.i64.wrap (Int.tdiv a1 (8 : Int)))).toNat (bXor .u8 x4 (shr .u8 (128 : Int) (Int.tmod a1 (8 : Int))))))) (.d (eA46 (a0.set ((IntKind.i64.wrap (Int.tdiv a1 (8 : Int)))).toNat (bXor .u8 x4 (shr .u8 (128 : Int) (Int.tmod a1 (8 : Int))))))) ty47 ?_
 refine .s (f_store (n := 0) (o := 4) (off := 0) (p := []) (c := .d (eA46 (List.replicate 32 (0 : Int)))) (old := .d (eA46 (List.replicate 32 (0 : Int)))) (z := .d (eA46 (a0.set ((IntKind.i64.wrap (Int.tdiv a1 (8 : Int)))).toNat (bXor .u8 x4 (shr .u8 (128 : Int) (Int.tmod a1 (8 : Int))))))) (c' := .d (eA46 (a0.set ((IntKind.i64.wrap (Int.tdiv a1 (8 : Int)))).toNat (bXor .u8 x4 (shr .u8 (128 : Int) (Int.tmod a1 (8 : Int))))))) rfl rfl (by rfl) ty47 (by rfl)) rfl (.c rfl (.c rfl .nil)) (.cons rfl .nil) ?_
 refine .a rfl ?_
 refine .nil (aq_then ?_)
 refine aw_ret ?_
 obtain rfl := Option.some.inj h
 exact aq_finp hb0 rfl (.cell rfl rfl ty47 (by rfl) (.tmp rfl (by rfl) .nil)) (by rfl) rfl ⟨rfl, rfl⟩
def F155_num_Put_s0 (a0 : Int) (a1 : Int) (z0_0 : Int) (z0_1 : List Int) : Option ((Int × List Int) ⊕ (List Int)) :=
  (if (decide (z0_0 < a1)) = true then (if 0 ≤ (IntKind.i64.wrap ((8 : Int) * z0_0)) then ((rd z0_1 (IntKind.i64.wrap ((IntKind.i64.wrap (a1 - (1 : Int))) - z0_0))).bind fun (x11 : Int) => some (.inl ((IntKind.i64.wrap (z0_0 + (1 : Int))), (z0_1.set (0 + ((IntKind.i64.wrap ((IntKind.i64.wrap (a1 - (1 : Int))) - z0_0))).toNat) (IntKind.u8.wrap (shr .u64 a0 (IntKind.i64.wrap ((8 : Int) * z0_0)))))))) else none) else some (.inr z0_1))
def F155_num_Put (n : Nat) (a0 : Int) (a1 : Int) : Option ((List Int) × Int) :=
  (((if (decide (a1 < (1 : Int))) = true then some true else some (decide (a1 > (8 : Int))))).bind fun (o2 : Bool) => (if o2 = true then some ([], (2 : Int)) else (((if (decide (a1 < (8 : Int))) = true then (if 0 ≤ (IntKind.i64.wrap ((8 : Int) * a1)) then some (decide ((shr .u64 a0 (IntKind.i64.wrap ((8 : Int) * a1))) > (0 : Int))) else none) else some false)).bind fun (o6 : Bool) => (if o6 = true then some ([], (4 : Int)) else (if 0 ≤ a1 ∧ a1 ≤ 1073741824 then ((loopF (fun (z : Int × List Int) => F155_num_Put_s0 a0 a1 z.1 z.2) n ((0 : Int), (List.replicate (a1).toNat (0 : Int)))).bind fun (o14 : List Int) => some (o14, (0 : Int))) else none)))))
theorem F155_num_Put_ok {n : Nat} {a0 : Int} {a1 : Int} {r : (List Int) × Int} (h : F155_num_Put n a0 a1 = some r) :
    ACall Tryz.prog GS 155 [.U a0, .I a1] [] (fun r' hp' => r' = .res [.d (eL70 r.1), .I r.2] ∧ hp' = []) := by
 refine acall_of_body mixed Tryz.func155 rfl (by rfl) ?_
 intro C hro hgl hb0
 unfold F155_num_Put at h
 refine aw_rs ?_
 refine .a rfl ?_
 refine .a rfl ?_
 refine .nil (aq_then ?_)
 refine aw_seq ?_
 refine aw_block ?_
 refine aw_seq ?_
 obtain ⟨o2, ho17, h⟩ := bind_some h
 refine aw_join (.normal) ⟨[(0, .U a0), (1, .I a1), (8, .B o2)], [], []⟩ ?_ ?_
 ·replace h := ho17
  refine aw_r ?_
  refine .m rfl ?_
  refine .b rfl rfl rfl ?_
  refine .m rfl ?_
  rcases Bool.eq_false_or_eq_true (decide (a1 < (1 : Int))) with hc1 | hc1
  ·replace h := ite_t hc1 h
   refine .q rfl rfl rfl hc1 rfl ?_
   refine .q rfl rfl rfl hc1 rfl ?_
   refine .v2 (f_pick_true (by rfl) hc1) rfl rfl rfl ?_
   refine .a rfl ?_
   refine .nil ?_
   obtain rfl := Option.some.inj h
   refine aq_k hb0 (.k 0 rfl (.k 1 rfl (.k 8 rfl .nil))) .nil ?_
   exact jq
  replace h := ite_f hc1 h
  refine .g1 (f_move (by rfl)) rfl rfl rfl hc1 rfl ?_
  refine .g2 (f_binI (by rfl) rfl (by rfl)) rfl rfl rfl hc1 rfl rfl ?_
  refine .v2 (f_pick_false (by rfl) hc1) rfl rfl rfl ?_
  refine .a rfl ?_
  refine .nil ?_
  obtain rfl := Option.some.inj h
  refine aq_k hb0 (.k 0 rfl (.k 1 rfl (.k 8 rfl .nil))) .nil ?_
  exact jq
 refine aq_then ?_
 refine aw_cond rfl (fun hc3 => ?_) (fun hc3 => ?_)
 ·replace h := ite_t hc3 h
  refine aw_rs ?_
  refine .a rfl ?_
  refine .a rfl ?_
  refine .nil (aq_then ?_)
  refine aw_ret ?_
  refine aq_block_ret ?_
  refine aq_then_ret ?_
  obtain rfl := Option.some.inj h
  refine aq_freeze [] [(4, .d (eL70 ([]))), (5, .I (2 : Int))] .nil (.cons rfl .nil (.keep rfl .nil)) ?_
  exact aq_finp hb0 rfl (.tmp rfl (by rfl) (.tmp rfl (by rfl) .nil)) (by rfl) rfl ⟨rfl, rfl⟩
 replace h := ite_f hc3 h
 refine aw_seq ?_
 obtain ⟨o6, ho16, h⟩ := bind_some h
 refine aw_join (.normal) ⟨[(0, .U a0), (1, .I a1), (15, .B o6)], [], []⟩ ?_ ?_
 ·replace h := ho16
  refine aw_r ?_
  refine .m rfl ?_
  refine .b rfl rfl rfl ?_
  refine .m rfl ?_
  rcases Bool.eq_false_or_eq_true (decide (a1 < (8 : Int))) with hc4 | hc4
  ·replace h := ite_t hc4 h
   refine .g1 (f_move (by rfl)) rfl rfl rfl hc4 rfl ?_
   refine .g1 (f_move (by rfl)) rfl rfl rfl hc4 rfl ?_
   refine .g2 (f_binI (by rfl) rfl (by rfl)) rfl rfl rfl hc4 rfl rfl ?_
   obtain ⟨hz5, h⟩ := ifp h
   refine .g2 (f_shift (by rfl) (shr_ok hz5) (by rfl)) rfl rfl rfl hc4 rfl rfl ?_
   refine .g2 (f_binI (by rfl) rfl (by rfl)) rfl rfl rfl hc4 rfl rfl ?_
   refine .v2 (f_pick_true (by rfl) hc4) rfl rfl rfl ?_
   refine .a rfl ?_
   refine .nil ?_
   obtain rfl := Option.some.inj h
   refine aq_k hb0 (.k 0 rfl (.k 1 rfl (.k 15 rfl .nil))) .nil ?_
   exact jq
  replace h := ite_f hc4 h
  refine .q rfl rfl rfl hc4 rfl ?_
  refine .q rfl rfl rfl hc4 rfl ?_
  refine .q rfl rfl rfl hc4 rfl ?_
  refine .q rfl rfl rfl hc4 rfl ?_
  refine .q rfl rfl rfl hc4 rfl ?_
  refine .v2 (f_pick_false (by rfl) hc4) rfl rfl rfl ?_
  refine .a rfl ?_
  refine .nil ?_
  obtain rfl := Option.some.inj h
  refine aq_k hb0 (.k 0 rfl (.k 1 rfl (.k 15 rfl .nil))) .nil ?_
  exact jq
 refine aq_then ?_
 refine aw_cond rfl (fun hc7 => ?_) (fun hc7 => ?_)
 ·replace h := ite_t hc7 h
  refine aw_rs ?_
  refine .a rfl ?_
  refine .a rfl ?_
  refine .nil (aq_then ?_)
  refine aw_ret ?_
  refine aq_block_ret ?_
  refine aq_then_ret ?_
  obtain rfl := Option.some.inj h
  refine aq_freeze [] [(4, .d (eL70 ([]))), (5, .I (4 : Int))] .nil (.cons rfl .nil (.keep rfl .nil)) ?_
  exact aq_finp hb0 rfl (.tmp rfl (by rfl) (.tmp rfl (by rfl) .nil)) (by rfl) rfl ⟨rfl, rfl⟩
 replace h := ite_f hc7 h
 refine aw_skip ?_
 refine aq_block ?_
 refine aq_then ?_
 refine aw_rs ?_
 refine .m rfl ?_
 obtain ⟨hb8, h⟩ := ifp h
 refine .n (f_makeSE (n := a1) (m := ((List.replicate (a1).toNat (0 : Int))).length) (z := (.val (.int .u8 (0 : Int)))) (zs := ((List.replicate (a1).toNat (0 : Int))).map eI_u8) 1001 (by rfl) el70 zel70 (by rfl) hb8.1 (by omega) (by omega) (by simp) (by simp)) rfl (.c rfl .nil) rfl ?_
 refine .a rfl ?_
 refine .nil (aq_then ?_)
 refine aw_seq ?_
 refine aw_rs ?_
 refine .m rfl ?_
 refine .m rfl ?_
 refine .nil (aq_then ?_)
 refine aw_block ?_
 refine aw_k hb0 (.k 0 rfl (.k 1 rfl (.k 6 rfl (.k 27 rfl (.k 28 rfl .nil))))) (.k 1001 rfl .nil) ?_
 obtain ⟨o14, ho15, h⟩ := bind_some h
 refine aw_loopX (σ := Int × List Int) (fun z => ⟨[(0, .U a0), (1, .I a1), (6, .slc 1001 0 ((z.2).length) 1), (27, .I a1), (28, .I z.1)], [(1001, .av (.d (.arr 1 ((z.2).length) ((z.2).map eI_u8))))], []⟩) (fun _ => (.exit 1)) (fun (o14 : List Int) => ⟨[(6, .slc 1001 0 ((o14).length) 1)], [(1001, .av (.d (.arr 1 ((o14).length) ((o14).map eI_u8))))], []⟩) ho15 (fun _ => rfl) ?_ ?_
 ·clear h ho15
  rintro ⟨z0_0, z0_1⟩ o h
  change F155_num_Put_s0 a0 a1 z0_0 z0_1 = some o at h
  unfold F155_num_Put_s0 at h
  show AW _ _ _ ⟨[(0, .U a0), (1, .I a1), (6, .slc 1001 0 ((z0_1).length) 1), (27, .I a1), (28, .I z0_0)], [(1001, .av (.d (.arr 1 ((z0_1).length) ((z0_1).map eI_u8))))], []⟩
  refine aw_rs ?_
  refine .b rfl rfl rfl ?_
  refine .nil (aq_then ?_)
  refine aw_seq ?_
  refine aw_cond rfl (fun hc9 => ?_) (fun hc9 => ?_)
  ·replace h := ite_t hc9 h
   refine aw_skip ?_
   refine aq_then ?_
   refine aw_seq ?_
   refine aw_block ?_
   refine aw_rs ?_
   refine .m rfl ?_
   refine .a rfl ?_
   refine .nil (aq_then ?_)
   refine aw_r ?_
   refine .m rfl ?_
   refine .m rfl ?_
   refine .b rfl rfl rfl ?_
   refine .m rfl ?_
   refine .b rfl rfl rfl ?_
   refine .m rfl ?_
   refine .m rfl ?_
   refine .b rfl rfl rfl ?_
   obtain ⟨hz10, h⟩ := ifp h
   refine .v2 (f_shift (by rfl) (shr_ok hz10) (by rfl)) rfl rfl rfl ?_
   refine .v1 (f_convI (by rfl) un48 un5) rfl rfl ?_
   obtain ⟨x11, hx12, h⟩ := bind_some h
   obtain ⟨hx13, hx12⟩ := rd_some hx12
   refine .v (f_indexSW (by rfl) sl70 hx13 (rd_map _ hx12)) rfl (.c rfl (.c rfl .nil)) (.cons rfl .nil) ?_
   refine .s (f_store (n := 0) (o := 1001) (off := ((0 + ((IntKind.i64.wrap ((IntKind.i64.wrap (a1 - (1 : Int))) - z0_0))).toNat) * 1)) (p := [0 + ((IntKind.i64.wrap ((IntKind.i64.wrap (a1 - (1 : Int))) - z0_0))).toNat]) (c := .d (.arr 1 ((z0_1).length) ((z0_1).map eI_u8))) (old := .d (.val (.int .u8 x11))) (z := .d (.val (.int .u8 (IntKind.u8.wrap (shr .u64 a0 (IntKind.i64.wrap ((8 : Int) * z0_0))))))) (c' := .d (.arr 1 ((z0_1).length) (((z0_1.set (0 + ((IntKind.i64.wrap ((IntKind.i64.wrap (a1 - (1 : Int))) - z0_0))).toNat) (IntKind.u8.wrap (shr .u64 a0 (IntKind.i64.wrap ((8 : Int) * z0_0)))))).map eI_u8))) (at_map _ (by simpa using hx12) rfl) (put_map _ (by simpa using hx12)) (by rfl) ty5 (by rfl)) rfl (.c rfl (.c rfl .nil)) (.cons rfl .nil) ?_
   refine .nil ?_
   refine aq_block ?_
   refine aq_then ?_
   refine aw_r ?_
   refine .b rfl rfl rfl ?_
   refine .m rfl ?_
   refine .nil ?_
   obtain rfl := Option.some.inj h
   refine aq_weak (s' := ⟨[(0, .U a0), (1, .I a1), (6, .slc 1001 0 (((z0_1.set (0 + ((IntKind.i64.wrap ((IntKind.i64.wrap (a1 - (1 : Int))) - z0_0))).toNat) (IntKind.u8.wrap (shr .u64 a0 (IntKind.i64.wrap ((8 : Int) * z0_0)))))).length) 1), (27, .I a1), (28, .I (IntKind.i64.wrap (z0_0 + (1 : Int))))], [(1001, .av (.d (.arr 1 (((z0_1.set (0 + ((IntKind.i64.wrap ((IntKind.i64.wrap (a1 - (1 : Int))) - z0_0))).toNat) (IntKind.u8.wrap (shr .u64 a0 (IntKind.i64.wrap ((8 : Int) * z0_0)))))).length) (((z0_1.set (0 + ((IntKind.i64.wrap ((IntKind.i64.wrap (a1 - (1 : Int))) - z0_0))).toNat) (IntKind.u8.wrap (shr .u64 a0 (IntKind.i64.wrap ((8 : Int) * z0_0)))))).map eI_u8))))], []⟩) id hb0 (.keep rfl (.keep rfl (.keep (by simp only [List.length_set]; rfl) (.keep rfl (.keep rfl .nil))))) (.keep (by simp only [List.length_set]; rfl) .nil) rfl (by rfl) ?_
   exact jq
  replace h := ite_f hc9 h
  refine aw_exit ?_
  refine aq_then_exit ?_
  obtain rfl := Option.some.inj h
  refine aq_k hb0 (.k 6 rfl .nil) (.k 1001 rfl .nil) ?_
  exact jq
 refine aq_block_exit ?_
 refine aq_then ?_
 refine aw_rs ?_
 refine .m rfl ?_
 refine .a rfl ?_
 refine .a rfl ?_
 refine .nil (aq_then ?_)
 refine aw_ret ?_
 obtain rfl := Option.some.inj h
 refine aq_freeze [(1001, (.arr 1 ((o14).length) ((o14).map eI_u8)))] [(4, .d (eL70 o14)), (5, .I (0 : Int))] (.cons rfl .nil) (.cons rfl (.whole (.head _)) (.keep rfl .nil)) ?_
 exact aq_finp hb0 rfl (.tmp rfl (by rfl) (.tmp rfl (by rfl) .nil)) (by rfl) rfl ⟨rfl, rfl⟩
def F154_tx_Body_2 (n : Nat) (a0 : Int) : Option ((List Int)) :=
  ((F155_num_Put n a0 (8 : Int)).bind fun (y1 : (List Int) × Int) => some y1.1)
theorem F154_tx_Body_2_ok {n : Nat} {a0 : Int} {r : (List Int)} (h : F154_tx_Body_2 n a0 = some r) :
    ACall Tryz.prog GS 154 [.U a0] [] (fun r' hp' => r' = .d (eL70 r) ∧ hp' = []) := by
 refine acall_of_body mixed Tryz.func154 rfl (by rfl) ?_
 intro C hro hgl hb0
 unfold F154_tx_Body_2 at h
 refine aw_rs ?_
 refine .a rfl ?_
 refine .z ?_
 refine .m rfl ?_
 obtain ⟨y1, hy2, h⟩ := bind_some h
 refine .v2 (f_callP hgl (by rfl) en155 rfl (by rfl) (by rfl) (by rfl) (F155_num_Put_ok hy2)) rfl rfl rfl ?_
 refine .m rfl ?_
 refine .v1 (f_extract (by rfl) rfl) rfl rfl ?_
 refine .v1 (f_extract (by rfl) rfl) rfl rfl ?_
 refine .a rfl ?_
 refine .a rfl ?_
 refine .z ?_
 refine .m rfl ?_
 refine .a rfl ?_
 refine .nil (aq_then ?_)
 refine aw_ret ?_
 obtain rfl := Option.some.inj h
 exact aq_finp hb0 rfl (.tmp rfl (by rfl) .nil) (by rfl) rfl ⟨rfl, rfl⟩
def F152_tx_Body_1 (n : Nat) (a0 : (List Int)) : Option ((List Int)) :=
  some a0
theorem F152_tx_Body_1_ok {n : Nat} {a0 : (List Int)} {r : (List Int)} (h : F152_tx_Body_1 n a0 = some r) :
    ACall Tryz.prog GS 152 [.d (eA46 a0)] [] (fun r' hp' => r' = .d (eL70 r) ∧ hp' = []) := by
 refine acall_of_body mixed Tryz.func152 rfl (by rfl) ?_
 intro C hro hgl hb0
 unfold F152_tx_Body_1 at h
 refine aw_rs ?_
 refine .n (f_box 1 (by rfl) (by rfl)) rfl (.c rfl .nil) rfl ?_
 refine .a rfl ?_
 refine .z ?_
 refine .v (f_sliceA (by rfl) ar47) rfl (.c rfl .nil) (.cons rfl .nil) ?_
 refine .a rfl ?_
 refine .nil (aq_then ?_)
 refine aw_ret ?_
 obtain rfl := Option.some.inj h
 refine aq_freeze [(1, (eA46 a0))] [(2, .d (eL70 a0))] (.cons rfl .nil) (.cons rfl (.whole (.head _)) .nil) ?_
 exact aq_finp hb0 rfl (.tmp rfl (by rfl) .nil) (by rfl) rfl ⟨rfl, rfl⟩
def F146_tree_bit (n : Nat) (a0 : (List Int)) (a1 : Int) : Option (Int) :=
  ((F165_path_Bit n a0 a1).bind fun (y1 : Int × Int) => some y1.1)
theorem F146_tree_bit_ok {n : Nat} {a0 : (List Int)} {a1 : Int} {r : Int} (h : F146_tree_bit n a0 a1 = some r) :
    ACall Tryz.prog GS 146 [.d (eA46 a0), .I a1] [] (fun r' hp' => r' = .d (.val (.int .u8 r)) ∧ hp' = []) := by
 refine acall_of_body mixed Tryz.func146 rfl (by rfl) ?_
 intro C hro hgl hb0
 unfold F146_tree_bit at h
 refine aw_rs ?_
 refine .n (f_box 2 (by rfl) (by rfl)) rfl (.c rfl .nil) rfl ?_
 refine .a rfl ?_
 refine .z ?_
 refine .l 2 0 [] (.d (eA46 a0)) (.d (eA46 a0)) ty47 ?_
 refine .m rfl ?_
 obtain ⟨y1, hy2, h⟩ := bind_some h
 refine .v2 (f_callP hgl (by rfl) en165 rfl (by rfl) (by rfl) (by rfl) (F165_path_Bit_ok hy2)) rfl rfl rfl ?_
 refine .m rfl ?_
 refine .v1 (f_extract (by rfl) rfl) rfl rfl ?_
 refine .v1 (f_extract (by rfl) rfl) rfl rfl ?_
 refine .a rfl ?_
 refine .a rfl ?_
 refine .z ?_
 refine .m rfl ?_
 refine .a rfl ?_
 refine .nil (aq_then ?_)
 refine aw_ret ?_
 obtain rfl := Option.some.inj h
 exact aq_finp hb0 rfl (.tmp rfl (by rfl) .nil) (by rfl) rfl ⟨rfl, rfl⟩
def F145_tree_roads (n : Nat) (a0 : GNode) : Option ((List Int)) :=
  some ([a0.Left, a0.Right] : List Int)
theorem F145_tree_roads_ok {n : Nat} {a0 : GNode} {r : (List Int)} (h : F145_tree_roads n a0 = some r) :
    ACall Tryz.prog GS 145 [.d (eGNode a0)] [] (fun r' hp' => r' = .d (eA201 r) ∧ hp' = []) := by
 refine acall_of_body mixed Tryz.func145 rfl (by rfl) ?_
 intro C hro hgl hb0
 unfold F145_tree_roads at h
 refine aw_rs ?_
 refine .n (f_box 1 (by rfl) (by rfl)) rfl (.c rfl .nil) rfl ?_
 refine .n (f_alloc 2 (by rfl) zr201) rfl .nil rfl ?_
 refine .z ?_
 refine .v1 (f_fieldAddr (n := 34) (by rfl) fl72_3 (by decide)) rfl rfl ?_
 refine .l 1 (0 + 34) [3] (.d (eGNode a0)) (.I a0.Left) ty3 ?_
 refine .v1 (f_fieldAddr (n := 35) (by rfl) fl72_4 (by decide)) rfl rfl ?_
 refine .l 1 (0 + 35) [4] (.d (eGNode a0)) (.I a0.Right) ty3 ?_
 refine .v2 (f_build (xs := [(0, .I a0.Left), (1, .I a0.Right)]) (z' := .d (eA201 ([a0.Left, a0.Right] : List Int))) (by rfl) zr201 ag201 rfl (by rfl) ⟨_, _, _, rfl, pl201_0, rfl, rfl, ⟨_, _, _, rfl, pl201_1, rfl, rfl, trivial⟩⟩ (by rfl) (by rfl)) rfl rfl rfl ?_
 refine .s (f_store (n := 0) (o := 2) (off := 0) (p := []) (c := .d (eA201 (List.replicate 2 (0 : Int)))) (old := .d (eA201 (List.replicate 2 (0 : Int)))) (z := .d (eA201 ([a0.Left, a0.Right] : List Int))) (c' := .d (eA201 ([a0.Left, a0.Right] : List Int))) rfl rfl (by rfl) ty201 (by rfl)) rfl (.c rfl (.c rfl .nil)) (.cons rfl .nil) ?_
 refine .nil (aq_then ?_)
 refine aw_ret ?_
 obtain rfl := Option.some.inj h
 exact aq_finp hb0 rfl (.cell rfl rfl ty201 (by rfl) .nil) (by rfl) rfl ⟨rfl, rfl⟩
def F142_tree_each (n : Nat) (a0 : GTree) (a1 : Int) : Option (Int × GTree) :=
  some (a1, a0)
theorem F142_tree_each_ok {n : Nat} {a0 : GTree} {a1 : Int} {r : Int × GTree} (h : F142_tree_each n a0 a1 = some r) :
    ACall Tryz.prog GS 142 [.d (eGTree a0), .I a1] [] (fun r' hp' => r' = .fn (.func 161) [] [.ptr 3 0 [], .ptr 2 0 []] ∧ hp' = [(3, .av (.I r.1)), (2, .av (.d (eGTree r.2)))]) := by
 refine acall_of_body mixed Tryz.func142 rfl (by rfl) ?_
 intro C hro hgl hb0
 unfold F142_tree_each at h
 refine aw_rs ?_
 refine .n (f_box 2 (by rfl) (by rfl)) rfl (.c rfl .nil) rfl ?_
 refine .n (f_box 3 (by rfl) (by rfl)) rfl (.c rfl .nil) rfl ?_
 refine .a rfl ?_
 refine .z ?_
 refine .v2 (f_makeFunc (xs := []) (ys := [.ptr 3 0 [], .ptr 2 0 []]) (by rfl) rfl rfl (by rfl) (by rfl)) rfl rfl rfl ?_
 refine .a rfl ?_
 refine .nil (aq_then ?_)
 refine aw_ret ?_
 obtain rfl := Option.some.inj h
 refine aq_k hb0 (.k 4 rfl .nil) (.k 3 rfl (.k 2 rfl .nil)) ?_
 exact aq_fin1 (.tmp rfl (by rfl) .nil) rfl ⟨rfl, rfl⟩
def F139_tag_Bytes_s0 (n : Nat) (a1 : (List (List Int))) (z0_0 : Int) (z0_1 : List Int) : Option ((Int × List Int) ⊕ (List Int)) :=
  (if (decide (z0_0 < ((a1).length : Int))) = true then ((rd a1 z0_0).bind fun (x2 : (List Int)) => ((F155_num_Put n (IntKind.u64.wrap (IntKind.u32.wrap ((x2).length : Int))) (4 : Int)).bind fun (y5 : (List Int) × Int) => (if ((z0_1 ++ y5.1)).length ≤ 1073741824 then (if (((z0_1 ++ y5.1) ++ x2)).length ≤ 1073741824 then some (.inl ((IntKind.i64.wrap (z0_0 + (1 : Int))), ((z0_1 ++ y5.1) ++ x2))) else none) else none))) else some (.inr z0_1))
def F139_tag_Bytes (n : Nat) (a0 : Int) (a1 : (List (List Int))) : Option ((List Int)) :=
  ((loopF (fun (z : Int × List Int) => F139_tag_Bytes_s0 n a1 z.1 z.2) n ((0 : Int), ([a0] : List Int))).bind fun (o9 : List Int) => some o9)
theorem F139_tag_Bytes_ok {n : Nat} {a0 : Int} {a1 : (List (List Int))} {r : (List Int)} (h : F139_tag_Bytes n a0 a1 = some r) :
    ACall Tryz.prog GS 139 [.d (.val (.int .u8 a0)), .d (eL191 a1)] [] (fun r' hp' => r' = .d (eL70 r) ∧ hp' = []) := by
 refine acall_of_body mixed Tryz.func139 rfl (by rfl) ?_
 intro C hro hgl hb0
 unfold F139_tag_Bytes at h
 refine aw_rs ?_
 refine .a rfl ?_
 refine .z ?_
 refine .m rfl ?_
 refine .n (f_buildS (xs := [(0, .d (.val (.int .u8 a0)))]) (z := (.val (.int .u8 (0 : Int)))) (zs := (([a0] : List Int)).map eI_u8) 1003 (by rfl) el70 zel70 (by rfl) (by decide) (by decide) rfl (by rfl) ⟨_, _, _, rfl, pl70_0, rfl, rfl, trivial⟩ (by rfl)) rfl (.c rfl .nil) rfl ?_
 refine .a rfl ?_
 refine .nil (aq_then ?_)
 refine aw_seq ?_
 refine aw_rs ?_
 refine .m rfl ?_
 refine .v1 (f_lenD (n := (a1).length) (by rfl) sl191 rfl (by simp)) rfl rfl ?_
 refine .m rfl ?_
 refine .nil (aq_then ?_)
 refine aw_block ?_
 refine aw_k hb0 (.k 5 rfl (.k 12 rfl (.k 13 rfl (.k 14 rfl .nil)))) (.k 1003 rfl .nil) ?_
 obtain ⟨o9, ho10, h⟩ := bind_some h
 refine aw_loopX (σ := Int × List Int) (fun z => ⟨[(5, .slc 1003 0 ((z.2).length) 1), (12, .d (eL191 a1)), (13, .I ((a1).length : Int)), (14, .I z.1)], [(1003, .av (.d (.arr 1 ((z.2).length) ((z.2).map eI_u8))))], []⟩) (fun _ => (.exit 0)) (fun (o9 : List Int) => ⟨[(5, .slc 1003 0 ((o9).length) 1)], [(1003, .av (.d (.arr 1 ((o9).length) ((o9).map eI_u8))))], []⟩) ho10 (fun _ => rfl) ?_ ?_
 ·clear h ho10
  rintro ⟨z0_0, z0_1⟩ o h
  change F139_tag_Bytes_s0 n a1 z0_0 z0_1 = some o at h
  unfold F139_tag_Bytes_s0 at h
  show AW _ _ _ ⟨[(5, .slc 1003 0 ((z0_1).length) 1), (12, .d (eL191 a1)), (13, .I ((a1).length : Int)), (14, .I z0_0)], [(1003, .av (.d (.arr 1 ((z0_1).length) ((z0_1).map eI_u8))))], []⟩
  refine aw_rs ?_
  refine .b rfl rfl rfl ?_
  refine .nil (aq_then ?_)
  refine aw_seq ?_
  refine aw_cond rfl (fun hc1 => ?_) (fun hc1 => ?_)
  ·replace h := ite_t hc1 h
   refine aw_skip ?_
   refine aq_then ?_
   refine aw_seq ?_
   refine aw_block ?_
   refine aw_rs ?_
   obtain ⟨x2, hx3, h⟩ := bind_some h
   obtain ⟨hx4, hx3⟩ := rd_some hx3
   refine .v2 (f_indexS (by rfl) sl191 hx4 (rd_map _ hx3)) rfl rfl rfl ?_
   refine .v1 (f_loadR (z := (eL70 x2)) (by rfl) ty70) rfl rfl ?_
   refine .a rfl ?_
   refine .z ?_
   refine .m rfl ?_
   refine .v1 (f_lenD (n := (x2).length) (by rfl) sl70 rfl (by simp)) rfl rfl ?_
   refine .v1 (f_convI (by rfl) un3 un218) rfl rfl ?_
   refine .v1 (f_convI (by rfl) un218 un48) rfl rfl ?_
   obtain ⟨y5, hy6, h⟩ := bind_some h
   refine .v2 (f_callP hgl (by rfl) en155 rfl (by rfl) (by rfl) (by rfl) (F155_num_Put_ok hy6)) rfl rfl rfl ?_
   refine .m rfl ?_
   refine .v1 (f_extract (by rfl) rfl) rfl rfl ?_
   refine .v1 (f_extract (by rfl) rfl) rfl rfl ?_
   refine .a rfl ?_
   refine .a rfl ?_
   refine .nil (aq_then ?_)
   refine aw_r ?_
   refine .m rfl ?_
   refine .m rfl ?_
   obtain ⟨hb7, h⟩ := ifp h
   refine .w (f_appendC (m := ((z0_1 ++ y5.1)).length) (ys := (y5.1 : List Int).map eI_u8) (xs := (z0_1).map eI_u8) (zs := ((z0_1 ++ y5.1)).map eI_u8) 1006 (by rfl) el70 (by simp) (by simp) (by simp [List.map_drop]) (by simp) (Nat.le_trans (Nat.mul_le_mul_right _ hb7) (by decide)) (Nat.le_trans hb7 (by decide)) srcD) rfl (.c rfl (.c rfl .nil)) (.cons rfl .nil) (.cons rfl .nil) ?_
   refine .m rfl ?_
   obtain ⟨hb8, h⟩ := ifp h
   refine .w (f_appendC (m := (((z0_1 ++ y5.1) ++ x2)).length) (ys := (x2 : List Int).map eI_u8) (xs := ((z0_1 ++ y5.1)).map eI_u8) (zs := (((z0_1 ++ y5.1) ++ x2)).map eI_u8) 1007 (by rfl) el70 (by simp) (by simp) (by simp [List.map_drop]) (by simp) (Nat.le_trans (Nat.mul_le_mul_right _ hb8) (by decide)) (Nat.le_trans hb8 (by decide)) srcD) rfl (.c rfl (.c rfl .nil)) (.cons rfl .nil) (.cons rfl .nil) ?_
   refine .a rfl ?_
   refine .nil ?_
   refine aq_block ?_
   refine aq_then ?_
   refine aw_r ?_
   refine .b rfl rfl rfl ?_
   refine .m rfl ?_
   refine .nil ?_
   obtain rfl := Option.some.inj h
   refine aq_weak (s' := ⟨[(5, .slc 1003 0 ((((z0_1 ++ y5.1) ++ x2)).length) 1), (12, .d (eL191 a1)), (13, .I ((a1).length : Int)), (14, .I (IntKind.i64.wrap (z0_0 + (1 : Int))))], [(1003, .av (.d (.arr 1 ((((z0_1 ++ y5.1) ++ x2)).length) ((((z0_1 ++ y5.1) ++ x2)).map eI_u8))))], []⟩) (fun i => (bif Nat.beq i 1003 then 1007 else i)) hb0 (.cons rfl (.cons rfl (.cons rfl (.cons rfl .nil)))) (.cons rfl .nil) rfl (by rfl) ?_
   exact jq
  replace h := ite_f hc1 h
  refine aw_exit ?_
  refine aq_then_exit ?_
  obtain rfl := Option.some.inj h
  refine aq_k hb0 (.k 5 rfl .nil) (.k 1003 rfl .nil) ?_
  exact jq
 refine aq_block_exit ?_
 refine aq_then ?_
 refine aw_rs ?_
 refine .m rfl ?_
 refine .a rfl ?_
 refine .nil (aq_then ?_)
 refine aw_ret ?_
 obtain rfl := Option.some.inj h
 refine aq_freeze [(1003, (.arr 1 ((o9).length) ((o9).map eI_u8)))] [(4, .d (eL70 o9))] (.cons rfl .nil) (.cons rfl (.whole (.head _)) .nil) ?_
 exact aq_finp hb0 rfl (.tmp rfl (by rfl) .nil) (by rfl) rfl ⟨rfl, rfl⟩
def F159_sha_state_block_89b_s0 (n : Nat) (a0 : (List Int)) (z0_0 : Int) (z0_1 : (List Int)) : Option ((Int × (List Int)) ⊕ ((List Int))) :=
  (if (decide (z0_0 < (64 : Int))) = true then (((if (decide (z0_0 < (16 : Int))) = true then ((rd a0 (IntKind.i64.wrap ((4 : Int) * z0_0))).bind fun (x3 : Int) => ((rd a0 (IntKind.i64.wrap ((IntKind.i64.wrap ((4 : Int) * z0_0)) + (1 : Int)))).bind fun (x6 : Int) => ((rd a0 (IntKind.i64.wrap ((IntKind.i64.wrap ((4 : Int) * z0_0)) + (2 : Int)))).bind fun (x9 : Int) => ((rd a0 (IntKind.i64.wrap ((IntKind.i64.wrap ((4 : Int) * z0_0)) + (3 : Int)))).bind fun (x12 : Int) => ((rd z0_1 z0_0).bind fun (x15 : Int) => some (z0_1.set (z0_0).toNat (bOr .u32 (bOr .u32 (bOr .u32 (shl .u32 (IntKind.u32.wrap x3) (24 : Int)) (shl .u32 (IntKind.u32.wrap x6) (16 : Int))) (shl .u32 (IntKind.u32.wrap x9) (8 : Int))) (IntKind.u32.wrap x12)))))))) else ((rd z0_1 (IntKind.i64.wrap (z0_0 - (15 : Int)))).bind fun (x18 : Int) => ((rd z0_1 (IntKind.i64.wrap (z0_0 - (2 : Int)))).bind fun (x21 : Int) => ((rd z0_1 (IntKind.i64.wrap (z0_0 - (16 : Int)))).bind fun (x24 : Int) => ((F170_sha_turned n x18 (7 : Int)).bind fun (y27 : Int) => ((F170_sha_turned n x18 (18 : Int)).bind fun (y29 : Int) => ((rd z0_1 (IntKind.i64.wrap (z0_0 - (7 : Int)))).bind fun (x31 : Int) => ((F170_sha_turned n x21 (17 : Int)).bind fun (y34 : Int) => ((F170_sha_turned n x21 (19 : Int)).bind fun (y36 : Int) => ((rd z0_1 z0_0).bind fun (x38 : Int) => some (z0_1.set (z0_0).toNat (IntKind.u32.wrap ((IntKind.u32.wrap ((IntKind.u32.wrap (x24 + (bXor .u32 (bXor .u32 y27 y29) (shr .u32 x18 (3 : Int))))) + x31)) + (bXor .u32 (bXor .u32 y34 y36) (shr .u32 x21 (10 : Int))))))))))))))))).bind fun (o41 : (List Int)) => some (.inl ((IntKind.i64.wrap (z0_0 + (1 : Int))), o41))) else some (.inr z0_1))
def F159_sha_state_block_89b_s1 (n : Nat) (o43 : (List Int)) (z1_0 : Int) (z1_1 : (List Int)) : Option ((Int × (List Int)) ⊕ ((List Int))) :=
  (if (decide (z1_0 < (64 : Int))) = true then ((rd z1_1 (0 : Int)).bind fun (x46 : Int) => ((rd z1_1 (1 : Int)).bind fun (x49 : Int) => ((rd z1_1 (2 : Int)).bind fun (x52 : Int) => ((rd z1_1 (4 : Int)).bind fun (x55 : Int) => ((rd z1_1 (5 : Int)).bind fun (x58 : Int) => ((rd z1_1 (6 : Int)).bind fun (x61 : Int) => ((rd z1_1 (7 : Int)).bind fun (x64 : Int) => ((F170_sha_turned n x55 (6 : Int)).bind fun (y67 : Int) => ((F170_sha_turned n x55 (11 : Int)).bind fun (y69 : Int) => ((F170_sha_turned n x55 (25 : Int)).bind fun (y71 : Int) => ((rd shaK z1_0).bind fun (x73 : Int) => ((rd o43 z1_0).bind fun (x76 : Int) => ((F170_sha_turned n x46 (2 : Int)).bind fun (y79 : Int) => ((F170_sha_turned n x46 (13 : Int)).bind fun (y81 : Int) => ((F170_sha_turned n x46 (22 : Int)).bind fun (y83 : Int) => ((rd z1_1 (3 : Int)).bind fun (x85 : Int) => some (.inl ((IntKind.i64.wrap (z1_0 + (1 : Int))), ([(IntKind.u32.wrap ((IntKind.u32.wrap ((IntKind.u32.wrap ((IntKind.u32.wrap ((IntKind.u32.wrap (x64 + (bXor .u32 (bXor .u32 y67 y69) y71))) + (bXor .u32 (bAnd .u32 x55 x58) (bAnd .u32 (bCom .u32 x55) x61)))) + x73)) + x76)) + (IntKind.u32.wrap ((bXor .u32 (bXor .u32 y79 y81) y83) + (bXor .u32 (bXor .u32 (bAnd .u32 x46 x49) (bAnd .u32 x46 x52)) (bAnd .u32 x49 x52)))))), x46, x49, x52, (IntKind.u32.wrap (x85 + (IntKind.u32.wrap ((IntKind.u32.wrap ((IntKind.u32.wrap ((IntKind.u32.wrap (x64 + (bXor .u32 (bXor .u32 y67 y69) y71))) + (bXor .u32 (bAnd .u32 x55 x58) (bAnd .u32 (bCom .u32 x55) x61)))) + x73)) + x76)))), x55, x58, x61] : List Int))))))))))))))))))) else some (.inr z1_1))
def F159_sha_state_block_89b_s2 (o88 : (List Int)) (z2_0 : Int) (z2_1 : (List Int)) : Option ((Int × (List Int)) ⊕ ((List Int))) :=
  (if (decide (z2_0 < (8 : Int))) = true then ((rd z2_1 z2_0).bind fun (x91 : Int) => ((rd o88 z2_0).bind fun (x94 : Int) => ((rd z2_1 z2_0).bind fun (x97 : Int) => some (.inl ((IntKind.i64.wrap (z2_0 + (1 : Int))), (z2_1.set (z2_0).toNat (IntKind.u32.wrap (x91 + x94)))))))) else some (.inr z2_1))
def F159_sha_state_block_89b (n : Nat) (a0 : (List Int)) (a1 : (List Int)) : Option ((List Int)) :=
  ((loopF (fun (z : Int × (List Int)) => F159_sha_state_block_89b_s0 n a0 z.1 z.2) n ((0 : Int), (List.replicate 64 (0 : Int)))).bind fun (o43 : (List Int)) => ((loopF (fun (z : Int × (List Int)) => F159_sha_state_block_89b_s1 n o43 z.1 z.2) n ((0 : Int), a1)).bind fun (o88 : (List Int)) => ((loopF (fun (z : Int × (List Int)) => F159_sha_state_block_89b_s2 o88 z.1 z.2) n ((0 : Int), a1)).bind fun (o100 : (List Int)) => some o100)))
theorem F159_sha_state_block_89b_ok {n : Nat} {a0 : (List Int)} {a1 : (List Int)} {r : (List Int)} (h : F159_sha_state_block_89b n a0 a1 = some r) :
    ACall Tryz.prog GS 159 [.ptr 0 0 [], .d (eL70 a0)] [(0, .av (.d (eA219 a1)))] (fun r' hp' => r' = .res [] ∧ hp' = [(0, .av (.d (eA219 r)))]) := by
 refine acall_of_body mixed Tryz.func159 rfl (by rfl) ?_
 intro C hro hgl hb0
 unfold F159_sha_state_block_89b at h
 refine aw_rs ?_
 refine .n (f_alloc 4 (by rfl) zr235) rfl .nil rfl ?_
 refine .nil (aq_then ?_)
 refine aw_seq ?_
 refine aw_rs ?_
 refine .m rfl ?_
 refine .nil (aq_then ?_)
 refine aw_block ?_
 refine aw_k hb0 (.k 0 rfl (.k 1 rfl (.k 4 rfl (.k 19 rfl .nil)))) (.k 0 rfl (.k 4 rfl .nil)) ?_
 obtain ⟨o43, ho44, h⟩ := bind_some h
 refine aw_loopX (σ := Int × (List Int)) (fun z => ⟨[(0, .ptr 0 0 []), (1, .d (eL70 a0)), (4, .ptr 4 0 []), (19, .I z.1)], [(0, .av (.d (eA219 a1))), (4, .av (.d (eA235 z.2)))], []⟩) (fun _ => (.exit 0)) (fun (o43 : (List Int)) => ⟨[(0, .ptr 0 0 []), (4, .ptr 4 0 [])], [(0, .av (.d (eA219 a1))), (4, .av (.d (eA235 o43)))], []⟩) ho44 (fun _ => rfl) ?_ ?_
 ·clear h ho44
  rintro ⟨z0_0, z0_1⟩ o h
  change F159_sha_state_block_89b_s0 n a0 z0_0 z0_1 = some o at h
  unfold F159_sha_state_block_89b_s0 at h
  show AW _ _ _ ⟨[(0, .ptr 0 0 []), (1, .d (eL70 a0)), (4, .ptr 4 0 []), (19, .I z0_0)], [(0, .av (.d (eA219 a1))), (4, .av (.d (eA235 z0_1)))], []⟩
  refine aw_rs ?_
  refine .b rfl rfl rfl ?_
  refine .nil (aq_then ?_)
  refine aw_seq ?_
  refine aw_cond rfl (fun hc1 => ?_) (fun hc1 => ?_)
  ·replace h := ite_t hc1 h
   refine aw_skip ?_
   refine aq_then ?_
   refine aw_seq ?_
   obtain ⟨o41, ho42, h⟩ := bind_some h
   refine aw_join (.normal) ⟨[(0, .ptr 0 0 []), (1, .d (eL70 a0)), (4, .ptr 4 0 []), (19, .I z0_0)], [(0, .av (.d (eA219 a1))), (4, .av (.d (eA235 o41)))], []⟩ ?_ ?_
   ·replace h := ho42
    refine aw_block ?_
    refine aw_rs ?_
    refine .m rfl ?_
    refine .a rfl ?_
    refine .nil (aq_then ?_)
    refine aw_seq ?_
    refine aw_rs ?_
    refine .m rfl ?_
    refine .b rfl rfl rfl ?_
    refine .nil (aq_then ?_)
    refine aw_cond rfl (fun hc2 => ?_) (fun hc2 => ?_)
    ·replace h := ite_t hc2 h
     refine aw_rds ?_
     refine .v1 (f_move (by rfl)) rfl rfl ?_
     refine .v1 (f_move (by rfl)) rfl rfl ?_
     refine .v1 (f_move (by rfl)) rfl rfl ?_
     refine .v2 (f_binI (by rfl) rfl (by rfl)) rfl rfl rfl ?_
     obtain ⟨x3, hx4, h⟩ := bind_some h
     obtain ⟨hx5, hx4⟩ := rd_some hx4
     refine .v2 (f_indexS (by rfl) sl70 hx5 (rd_map _ hx4)) rfl rfl rfl ?_
     refine .v1 (f_loadR (z := (.val (.int .u8 x3))) (by rfl) ty5) rfl rfl ?_
     refine .v1 (f_convI (by rfl) un5 un218) rfl rfl ?_
     refine .v2 (f_shift (by rfl) (shl_ok (by decide)) (by rfl)) rfl rfl rfl ?_
     refine .v1 (f_move (by rfl)) rfl rfl ?_
     refine .v1 (f_move (by rfl)) rfl rfl ?_
     refine .v2 (f_binI (by rfl) rfl (by rfl)) rfl rfl rfl ?_
     refine .v2 (f_binI (by rfl) rfl (by rfl)) rfl rfl rfl ?_
     obtain ⟨x6, hx7, h⟩ := bind_some h
     obtain ⟨hx8, hx7⟩ := rd_some hx7
     refine .v2 (f_indexS (by rfl) sl70 hx8 (rd_map _ hx7)) rfl rfl rfl ?_
     refine .v1 (f_loadR (z := (.val (.int .u8 x6))) (by rfl) ty5) rfl rfl ?_
     refine .v1 (f_convI (by rfl) un5 un218) rfl rfl ?_
     refine .v2 (f_shift (by rfl) (shl_ok (by decide)) (by rfl)) rfl rfl rfl ?_
     refine .v2 (f_binI (r := .int .u32 (bOr .u32 (shl .u32 (IntKind.u32.wrap x3) (24 : Int)) (shl .u32 (IntKind.u32.wrap x6) (16 : Int)))) (by rfl) rfl (by rfl)) rfl rfl rfl ?_
     refine .v1 (f_move (by rfl)) rfl rfl ?_
     refine .v1 (f_move (by rfl)) rfl rfl ?_
     refine .v2 (f_binI (by rfl) rfl (by rfl)) rfl rfl rfl ?_
     refine .v2 (f_binI (by rfl) rfl (by rfl)) rfl rfl rfl ?_
     obtain ⟨x9, hx10, h⟩ := bind_some h
     obtain ⟨hx11, hx10⟩ := rd_some hx10
     refine .v2 (f_indexS (by rfl) sl70 hx11 (rd_map _ hx10)) rfl rfl rfl ?_
     refine .v1 (f_loadR (z := (.val (.int .u8 x9))) (by rfl) ty5) rfl rfl ?_
     refine .v1 (f_convI (by rfl) un5 un218) rfl rfl ?_
     refine .v2 (f_shift (by rfl) (shl_ok (by decide)) (by rfl)) rfl rfl rfl ?_
     refine .v2 (f_binI (r := .int .u32 (bOr .u32 (bOr .u32 (shl .u32 (IntKind.u32.wrap x3) (24 : Int)) (shl .u32 (IntKind.u32.wrap x6) (16 : Int))) (shl .u32 (IntKind.u32.wrap x9) (8 : Int)))) (by rfl) rfl (by rfl)) rfl rfl rfl ?_
     refine .v1 (f_move (by rfl)) rfl rfl ?_
     refine .v1 (f_move (by rfl)) rfl rfl ?_
     refine .v2 (f_binI (by rfl) rfl (by rfl)) rfl rfl rfl ?_
     refine .v2 (f_binI (by rfl) rfl (by rfl)) rfl rfl rfl ?_
     obtain ⟨x12, hx13, h⟩ := bind_some h
     obtain ⟨hx14, hx13⟩ := rd_some hx13
     refine .v2 (f_indexS (by rfl) sl70 hx14 (rd_map _ hx13)) rfl rfl rfl ?_
     refine .v1 (f_loadR (z := (.val (.int .u8 x12))) (by rfl) ty5) rfl rfl ?_
     refine .v1 (f_convI (by rfl) un5 un218) rfl rfl ?_
     refine .v2 (f_binI (r := .int .u32 (bOr .u32 (bOr .u32 (bOr .u32 (shl .u32 (IntKind.u32.wrap x3) (24 : Int)) (shl .u32 (IntKind.u32.wrap x6) (16 : Int))) (shl .u32 (IntKind.u32.wrap x9) (8 : Int))) (IntKind.u32.wrap x12))) (by rfl) rfl (by rfl)) rfl rfl rfl ?_
     obtain ⟨x15, hx16, h⟩ := bind_some h
     obtain ⟨hx17, hx16⟩ := rd_some hx16
     refine .v (f_indexO (by rfl) ar235 rfl hx17 (rd_map _ hx16)) rfl (.c rfl (.c rfl .nil)) (.cons rfl .nil) ?_
     refine .s (f_store (n := 0) (o := 4) (off := (0 + (z0_0).toNat * 1)) (p := [(z0_0).toNat]) (c := .d (eA235 z0_1)) (old := .d (.val (.int .u32 x15))) (z := .d (.val (.int .u32 (bOr .u32 (bOr .u32 (bOr .u32 (shl .u32 (IntKind.u32.wrap x3) (24 : Int)) (shl .u32 (IntKind.u32.wrap x6) (16 : Int))) (shl .u32 (IntKind.u32.wrap x9) (8 : Int))) (IntKind.u32.wrap x12))))) (c' := .d (eA235 (z0_1.set (z0_0).toNat (bOr .u32 (bOr .u32 (bOr .u32 (shl .u32 (IntKind.u32.wrap x3) (24 : Int)) (shl .u32 (IntKind.u32.wrap x6) (16 : Int))) (shl .u32 (IntKind.u32.wrap x9) (8 : Int))) (IntKind.u32.wrap x12))))) (at_map _ hx16 (by simp)) (put_map _ hx16) (by rfl) ty218 (by rfl)) rfl (.c rfl (.c rfl .nil)) (.cons rfl .nil) ?_
     refine .nil (by kernel_rfl) ?_
     refine aw_exit ?_
     refine aq_then_exit ?_
     refine aq_block_exit ?_
     obtain rfl := Option.some.inj h
     refine aq_k hb0 (.k 0 rfl (.k 1 rfl (.k 4 rfl (.k 19 rfl .nil)))) (.k 0 rfl (.k 4 rfl .nil)) ?_
     exact jq
    replace h := ite_f hc2 h
    refine aw_skip ?_
    refine aq_then ?_
    refine aw_rds ?_
    refine .v1 (f_move (by rfl)) rfl rfl ?_
    refine .v2 (f_binI (by rfl) rfl (by rfl)) rfl rfl rfl ?_
    obtain ⟨x18, hx19, h⟩ := bind_some h
    obtain ⟨hx20, hx19⟩ := rd_some hx19
    refine .v (f_indexO (by rfl) ar235 rfl hx20 (rd_map _ hx19)) rfl (.c rfl (.c rfl .nil)) (.cons rfl .nil) ?_
    refine .v (f_load (n := 0) (o := 4) (off := (0 + ((IntKind.i64.wrap (z0_0 - (15 : Int)))).toNat * 1)) (p := [((IntKind.i64.wrap (z0_0 - (15 : Int)))).toNat]) (c := .d (eA235 z0_1)) (z := .d (.val (.int .u32 x18))) (by rfl) (at_map _ hx19 (by simp)) ty218 (by rfl)) rfl (.c rfl .nil) (.cons rfl .nil) ?_
    refine .v1 (f_move (by rfl)) rfl rfl ?_
    refine .v2 (f_binI (by rfl) rfl (by rfl)) rfl rfl rfl ?_
    obtain ⟨x21, hx22, h⟩ := bind_some h
    obtain ⟨hx23, hx22⟩ := rd_some hx22
    refine .v (f_indexO (by rfl) ar235 rfl hx23 (rd_map _ hx22)) rfl (.c rfl (.c rfl .nil)) (.cons rfl .nil) ?_
    refine .v (f_load (n := 0) (o := 4) (off := (0 + ((IntKind.i64.wrap (z0_0 - (2 : Int)))).toNat * 1)) (p := [((IntKind.i64.wrap (z0_0 - (2 : Int)))).toNat]) (c := .d (eA235 z0_1)) (z := .d (.val (.int .u32 x21))) (by rfl) (at_map _ hx22 (by simp)) ty218 (by rfl)) rfl (.c rfl .nil) (.cons rfl .nil) ?_
    refine .v1 (f_assign (by rfl)) rfl rfl ?_
    refine .v1 (f_assign (by rfl)) rfl rfl ?_
    refine .nil (by kernel_rfl) ?_
    refine aw_rd ?_
    refine .v1 (f_move (by rfl)) rfl rfl ?_
    refine .v1 (f_move (by rfl)) rfl rfl ?_
    refine .v2 (f_binI (by rfl) rfl (by rfl)) rfl rfl rfl ?_
    obtain ⟨x24, hx25, h⟩ := bind_some h
    obtain ⟨hx26, hx25⟩ := rd_some hx25
    refine .v (f_indexO (by rfl) ar235 rfl hx26 (rd_map _ hx25)) rfl (.c rfl (.c rfl .nil)) (.cons rfl .nil) ?_
    refine .v (f_load (n := 0) (o := 4) (off := (0 + ((IntKind.i64.wrap (z0_0 - (16 : Int)))).toNat * 1)) (p := [((IntKind.i64.wrap (z0_0 - (16 : Int)))).toNat]) (c := .d (eA235 z0_1)) (z := .d (.val (.int .u32 x24))) (by rfl) (at_map _ hx25 (by simp)) ty218 (by rfl)) rfl (.c rfl .nil) (.cons rfl .nil) ?_
    refine .v1 (f_move (by rfl)) rfl rfl ?_
    obtain ⟨y27, hy28, h⟩ := bind_some h
    refine .v2 (f_callP hgl (by rfl) en170 rfl (by rfl) (by rfl) (by rfl) (F170_sha_turned_ok hy28)) rfl rfl rfl ?_
    refine .v1 (f_move (by rfl)) rfl rfl ?_
    obtain ⟨y29, hy30, h⟩ := bind_some h
    refine .v2 (f_callP hgl (by rfl) en170 rfl (by rfl) (by rfl) (by rfl) (F170_sha_turned_ok hy30)) rfl rfl rfl ?_
    refine .v2 (f_binI (r := .int .u32 (bXor .u32 y27 y29)) (by rfl) rfl (by rfl)) rfl rfl rfl ?_
    refine .v1 (f_move (by rfl)) rfl rfl ?_
    refine .v2 (f_shift (by rfl) (shr_ok (by decide)) (by rfl)) rfl rfl rfl ?_
    refine .v2 (f_binI (r := .int .u32 (bXor .u32 (bXor .u32 y27 y29) (shr .u32 x18 (3 : Int)))) (by rfl) rfl (by rfl)) rfl rfl rfl ?_
    refine .v2 (f_binI (by rfl) rfl (by rfl)) rfl rfl rfl ?_
    refine .v1 (f_move (by rfl)) rfl rfl ?_
    refine .v2 (f_binI (by rfl) rfl (by rfl)) rfl rfl rfl ?_
    obtain ⟨x31, hx32, h⟩ := bind_some h
    obtain ⟨hx33, hx32⟩ := rd_some hx32
    refine .v (f_indexO (by rfl) ar235 rfl hx33 (rd_map _ hx32)) rfl (.c rfl (.c rfl .nil)) (.cons rfl .nil) ?_
    refine .v (f_load (n := 0) (o := 4) (off := (0 + ((IntKind.i64.wrap (z0_0 - (7 : Int)))).toNat * 1)) (p := [((IntKind.i64.wrap (z0_0 - (7 : Int)))).toNat]) (c := .d (eA235 z0_1)) (z := .d (.val (.int .u32 x31))) (by rfl) (at_map _ hx32 (by simp)) ty218 (by rfl)) rfl (.c rfl .nil) (.cons rfl .nil) ?_
    refine .v2 (f_binI (by rfl) rfl (by rfl)) rfl rfl rfl ?_
    refine .v1 (f_move (by rfl)) rfl rfl ?_
    obtain ⟨y34, hy35, h⟩ := bind_some h
    refine .v2 (f_callP hgl (by rfl) en170 rfl (by rfl) (by rfl) (by rfl) (F170_sha_turned_ok hy35)) rfl rfl rfl ?_
    refine .v1 (f_move (by rfl)) rfl rfl ?_
    obtain ⟨y36, hy37, h⟩ := bind_some h
    refine .v2 (f_callP hgl (by rfl) en170 rfl (by rfl) (by rfl) (by rfl) (F170_sha_turned_ok hy37)) rfl rfl rfl ?_
    refine .v2 (f_binI (r := .int .u32 (bXor .u32 y34 y36)) (by rfl) rfl (by rfl)) rfl rfl rfl ?_
    refine .v1 (f_move (by rfl)) rfl rfl ?_
    refine .v2 (f_shift (by rfl) (shr_ok (by decide)) (by rfl)) rfl rfl rfl ?_
    refine .v2 (f_binI (r := .int .u32 (bXor .u32 (bXor .u32 y34 y36) (shr .u32 x21 (10 : Int)))) (by rfl) rfl (by rfl)) rfl rfl rfl ?_
    refine .v2 (f_binI (by rfl) rfl (by rfl)) rfl rfl rfl ?_
    obtain ⟨x38, hx39, h⟩ := bind_some h
    obtain ⟨hx40, hx39⟩ := rd_some hx39
    refine .v (f_indexO (by rfl) ar235 rfl hx40 (rd_map _ hx39)) rfl (.c rfl (.c rfl .nil)) (.cons rfl .nil) ?_
    refine .s (f_store (n := 0) (o := 4) (off := (0 + (z0_0).toNat * 1)) (p := [(z0_0).toNat]) (c := .d (eA235 z0_1)) (old := .d (.val (.int .u32 x38))) (z := .d (.val (.int .u32 (IntKind.u32.wrap ((IntKind.u32.wrap ((IntKind.u32.wrap (x24 + (bXor .u32 (bXor .u32 y27 y29) (shr .u32 x18 (3 : Int))))) + x31)) + (bXor .u32 (bXor .u32 y34 y36) (shr .u32 x21 (10 : Int)))))))) (c' := .d (eA235 (z0_1.set (z0_0).toNat (IntKind.u32.wrap ((IntKind.u32.wrap ((IntKind.u32.wrap (x24 + (bXor .u32 (bXor .u32 y27 y29) (shr .u32 x18 (3 : Int))))) + x31)) + (bXor .u32 (bXor .u32 y34 y36) (shr .u32 x21 (10 : Int)))))))) (at_map _ hx39 (by simp)) (put_map _ hx39) (by rfl) ty218 (by rfl)) rfl (.c rfl (.c rfl .nil)) (.cons rfl .nil) ?_
    refine .nil (by kernel_rfl) ?_
    refine aq_block ?_
    obtain rfl := Option.some.inj h
    refine aq_k hb0 (.k 0 rfl (.k 1 rfl (.k 4 rfl (.k 19 rfl .nil)))) (.k 0 rfl (.k 4 rfl .nil)) ?_
    exact jq
   refine aq_then ?_
   refine aw_r ?_
   refine .b rfl rfl rfl ?_
   refine .m rfl ?_
   refine .nil ?_
   obtain rfl := Option.some.inj h
   refine aq_k hb0 (.k 0 rfl (.k 1 rfl (.k 4 rfl (.k 19 rfl .nil)))) (.k 0 rfl (.k 4 rfl .nil)) ?_
   exact jq
  replace h := ite_f hc1 h
  refine aw_exit ?_
  refine aq_then_exit ?_
  obtain rfl := Option.some.inj h
  refine aq_k hb0 (.k 0 rfl (.k 4 rfl .nil)) (.k 0 rfl (.k 4 rfl .nil)) ?_
  exact jq
 refine aq_block_exit ?_
 refine aq_then ?_
 refine aw_rs ?_
 refine .m rfl ?_
 refine .v1 (f_nilCheck (by rfl)) rfl rfl ?_
 refine .l 0 0 [] (.d (eA219 a1)) (.d (eA219 a1)) ty220 ?_
 refine .n (f_alloc 8 (by rfl) zr220) rfl .nil rfl ?_
 refine .s (f_store (n := 0) (o := 8) (off := 0) (p := []) (c := .d (eA219 (List.replicate 8 (0 : Int)))) (old := .d (eA219 (List.replicate 8 (0 : Int)))) (z := .d (eA219 a1)) (c' := .d (eA219 a1)) rfl rfl (by rfl) ty220 (by rfl)) rfl (.c rfl (.c rfl .nil)) (.cons rfl .nil) ?_
 refine .nil (aq_then ?_)
 refine aw_seq ?_
 refine aw_rs ?_
 refine .m rfl ?_
 refine .nil (aq_then ?_)
 refine aw_block ?_
 refine aw_k hb0 (.k 0 rfl (.k 4 rfl (.k 8 rfl (.k 100 rfl .nil)))) (.k 0 rfl (.k 4 rfl (.k 8 rfl .nil))) ?_
 obtain ⟨o88, ho89, h⟩ := bind_some h
 refine aw_loopX (σ := Int × (List Int)) (fun z => ⟨[(0, .ptr 0 0 []), (4, .ptr 4 0 []), (8, .ptr 8 0 []), (100, .I z.1)], [(0, .av (.d (eA219 a1))), (4, .av (.d (eA235 o43))), (8, .av (.d (eA219 z.2)))], []⟩) (fun _ => (.exit 2)) (fun (o88 : (List Int)) => ⟨[(0, .ptr 0 0 []), (8, .ptr 8 0 [])], [(0, .av (.d (eA219 a1))), (8, .av (.d (eA219 o88)))], []⟩) ho89 (fun _ => rfl) ?_ ?_
 ·clear h ho89
  rintro ⟨z1_0, z1_1⟩ o h
  change F159_sha_state_block_89b_s1 n o43 z1_0 z1_1 = some o at h
  unfold F159_sha_state_block_89b_s1 at h
  show AW _ _ _ ⟨[(0, .ptr 0 0 []), (4, .ptr 4 0 []), (8, .ptr 8 0 []), (100, .I z1_0)], [(0, .av (.d (eA219 a1))), (4, .av (.d (eA235 o43))), (8, .av (.d (eA219 z1_1)))], []⟩
  refine aw_rs ?_
  refine .b rfl rfl rfl ?_
  refine .nil (aq_then ?_)
  refine aw_seq ?_
  refine aw_cond rfl (fun hc45 => ?_) (fun hc45 => ?_)
  ·replace h := ite_t hc45 h
   refine aw_skip ?_
   refine aq_then ?_
   refine aw_seq ?_
   refine aw_block ?_
   refine aw_rs ?_
   refine .m rfl ?_
   refine .a rfl ?_
   refine .nil (aq_then ?_)
   refine aw_rds ?_
   obtain ⟨x46, hx47, h⟩ := bind_some h
   obtain ⟨hx48, hx47⟩ := rd_some hx47
   refine .v (f_indexO (by rfl) ar220 rfl hx48 (rd_map _ hx47)) rfl (.c rfl (.c rfl .nil)) (.cons rfl .nil) ?_
   refine .v (f_load (n := 0) (o := 8) (off := (0 + ((0 : Int)).toNat * 1)) (p := [((0 : Int)).toNat]) (c := .d (eA219 z1_1)) (z := .d (.val (.int .u32 x46))) (by rfl) (at_map _ hx47 (by simp)) ty218 (by rfl)) rfl (.c rfl .nil) (.cons rfl .nil) ?_
   obtain ⟨x49, hx50, h⟩ := bind_some h
   obtain ⟨hx51, hx50⟩ := rd_some hx50
   refine .v (f_indexO (by rfl) ar220 rfl hx51 (rd_map _ hx50)) rfl (.c rfl (.c rfl .nil)) (.cons rfl .nil) ?_
   refine .v (f_load (n := 0) (o := 8) (off := (0 + ((1 : Int)).toNat * 1)) (p := [((1 : Int)).toNat]) (c := .d (eA219 z1_1)) (z := .d (.val (.int .u32 x49))) (by rfl) (at_map _ hx50 (by simp)) ty218 (by rfl)) rfl (.c rfl .nil) (.cons rfl .nil) ?_
   obtain ⟨x52, hx53, h⟩ := bind_some h
   obtain ⟨hx54, hx53⟩ := rd_some hx53
   refine .v (f_indexO (by rfl) ar220 rfl hx54 (rd_map _ hx53)) rfl (.c rfl (.c rfl .nil)) (.cons rfl .nil) ?_
   refine .v (f_load (n := 0) (o := 8) (off := (0 + ((2 : Int)).toNat * 1)) (p := [((2 : Int)).toNat]) (c := .d (eA219 z1_1)) (z := .d (.val (.int .u32 x52))) (by rfl) (at_map _ hx53 (by simp)) ty218 (by rfl)) rfl (.c rfl .nil) (.cons rfl .nil) ?_
   obtain ⟨x55, hx56, h⟩ := bind_some h
   obtain ⟨hx57, hx56⟩ := rd_some hx56
   refine .v (f_indexO (by rfl) ar220 rfl hx57 (rd_map _ hx56)) rfl (.c rfl (.c rfl .nil)) (.cons rfl .nil) ?_
   refine .v (f_load (n := 0) (o := 8) (off := (0 + ((4 : Int)).toNat * 1)) (p := [((4 : Int)).toNat]) (c := .d (eA219 z1_1)) (z := .d (.val (.int .u32 x55))) (by rfl) (at_map _ hx56 (by simp)) ty218 (by rfl)) rfl (.c rfl .nil) (.cons rfl .nil) ?_
   obtain ⟨x58, hx59, h⟩ := bind_some h
   obtain ⟨hx60, hx59⟩ := rd_some hx59
   refine .v (f_indexO (by rfl) ar220 rfl hx60 (rd_map _ hx59)) rfl (.c rfl (.c rfl .nil)) (.cons rfl .nil) ?_
   refine .v (f_load (n := 0) (o := 8) (off := (0 + ((5 : Int)).toNat * 1)) (p := [((5 : Int)).toNat]) (c := .d (eA219 z1_1)) (z := .d (.val (.int .u32 x58))) (by rfl) (at_map _ hx59 (by simp)) ty218 (by rfl)) rfl (.c rfl .nil) (.cons rfl .nil) ?_
   obtain ⟨x61, hx62, h⟩ := bind_some h
   obtain ⟨hx63, hx62⟩ := rd_some hx62
   refine .v (f_indexO (by rfl) ar220 rfl hx63 (rd_map _ hx62)) rfl (.c rfl (.c rfl .nil)) (.cons rfl .nil) ?_
   refine .v (f_load (n := 0) (o := 8) (off := (0 + ((6 : Int)).toNat * 1)) (p := [((6 : Int)).toNat]) (c := .d (eA219 z1_1)) (z := .d (.val (.int .u32 x61))) (by rfl) (at_map _ hx62 (by simp)) ty218 (by rfl)) rfl (.c rfl .nil) (.cons rfl .nil) ?_
   refine .v1 (f_assign (by rfl)) rfl rfl ?_
   refine .v1 (f_assign (by rfl)) rfl rfl ?_
   refine .v1 (f_assign (by rfl)) rfl rfl ?_
   refine .v1 (f_assign (by rfl)) rfl rfl ?_
   refine .v1 (f_assign (by rfl)) rfl rfl ?_
   refine .v1 (f_assign (by rfl)) rfl rfl ?_
   refine .nil (by kernel_rfl) ?_
   refine aw_rds ?_
   obtain ⟨x64, hx65, h⟩ := bind_some h
   obtain ⟨hx66, hx65⟩ := rd_some hx65
   refine .v (f_indexO (by rfl) ar220 rfl hx66 (rd_map _ hx65)) rfl (.c rfl (.c rfl .nil)) (.cons rfl .nil) ?_
   refine .v (f_load (n := 0) (o := 8) (off := (0 + ((7 : Int)).toNat * 1)) (p := [((7 : Int)).toNat]) (c := .d (eA219 z1_1)) (z := .d (.val (.int .u32 x64))) (by rfl) (at_map _ hx65 (by simp)) ty218 (by rfl)) rfl (.c rfl .nil) (.cons rfl .nil) ?_
   refine .v1 (f_move (by rfl)) rfl rfl ?_
   obtain ⟨y67, hy68, h⟩ := bind_some h
   refine .v2 (f_callP hgl (by rfl) en170 rfl (by rfl) (by rfl) (by rfl) (F170_sha_turned_ok hy68)) rfl rfl rfl ?_
   refine .v1 (f_move (by rfl)) rfl rfl ?_
   obtain ⟨y69, hy70, h⟩ := bind_some h
   refine .v2 (f_callP hgl (by rfl) en170 rfl (by rfl) (by rfl) (by rfl) (F170_sha_turned_ok hy70)) rfl rfl rfl ?_
   refine .v2 (f_binI (r := .int .u32 (bXor .u32 y67 y69)) (by rfl) rfl (by rfl)) rfl rfl rfl ?_
   refine .v1 (f_move (by rfl)) rfl rfl ?_
   obtain ⟨y71, hy72, h⟩ := bind_some h
   refine .v2 (f_callP hgl (by rfl) en170 rfl (by rfl) (by rfl) (by rfl) (F170_sha_turned_ok hy72)) rfl rfl rfl ?_
   refine .v2 (f_binI (r := .int .u32 (bXor .u32 (bXor .u32 y67 y69) y71)) (by rfl) rfl (by rfl)) rfl rfl rfl ?_
   refine .v2 (f_binI (by rfl) rfl (by rfl)) rfl rfl rfl ?_
   refine .v1 (f_move (by rfl)) rfl rfl ?_
   refine .v1 (f_move (by rfl)) rfl rfl ?_
   refine .v2 (f_binI (r := .int .u32 (bAnd .u32 x55 x58)) (by rfl) rfl (by rfl)) rfl rfl rfl ?_
   refine .v1 (f_move (by rfl)) rfl rfl ?_
   refine .v1 (f_compl (by rfl)) rfl rfl ?_
   refine .v1 (f_move (by rfl)) rfl rfl ?_
   refine .v2 (f_binI (r := .int .u32 (bAnd .u32 (bCom .u32 x55) x61)) (by rfl) rfl (by rfl)) rfl rfl rfl ?_
   refine .v2 (f_binI (r := .int .u32 (bXor .u32 (bAnd .u32 x55 x58) (bAnd .u32 (bCom .u32 x55) x61))) (by rfl) rfl (by rfl)) rfl rfl rfl ?_
   refine .v2 (f_binI (by rfl) rfl (by rfl)) rfl rfl rfl ?_
   refine .v1 (f_move (by rfl)) rfl rfl ?_
   obtain ⟨x73, hx74, h⟩ := bind_some h
   obtain ⟨hx75, hx74⟩ := rd_some hx74
   refine .v (f_indexAR (by rfl) ar235 hx75 (rd_map _ hx74)) rfl (.c (glob_ev hgl rfl) (.c rfl .nil)) .nil ?_
   refine .v1 (f_loadR (z := (.val (.int .u32 x73))) (by rfl) ty218) rfl rfl ?_
   refine .v2 (f_binI (by rfl) rfl (by rfl)) rfl rfl rfl ?_
   refine .v1 (f_move (by rfl)) rfl rfl ?_
   obtain ⟨x76, hx77, h⟩ := bind_some h
   obtain ⟨hx78, hx77⟩ := rd_some hx77
   refine .v (f_indexO (by rfl) ar235 rfl hx78 (rd_map _ hx77)) rfl (.c rfl (.c rfl .nil)) (.cons rfl .nil) ?_
   refine .v (f_load (n := 0) (o := 4) (off := (0 + (z1_0).toNat * 1)) (p := [(z1_0).toNat]) (c := .d (eA235 o43)) (z := .d (.val (.int .u32 x76))) (by rfl) (at_map _ hx77 (by simp)) ty218 (by rfl)) rfl (.c rfl .nil) (.cons rfl .nil) ?_
   refine .v2 (f_binI (by rfl) rfl (by rfl)) rfl rfl rfl ?_
   refine .v1 (f_assign (by rfl)) rfl rfl ?_
   refine .nil (by kernel_rfl) ?_
   refine aw_rs ?_
   refine .m rfl ?_
   obtain ⟨y79, hy80, h⟩ := bind_some h
   refine .v2 (f_callP hgl (by rfl) en170 rfl (by rfl) (by rfl) (by rfl) (F170_sha_turned_ok hy80)) rfl rfl rfl ?_
   refine .m rfl ?_
   obtain ⟨y81, hy82, h⟩ := bind_some h
   refine .v2 (f_callP hgl (by rfl) en170 rfl (by rfl) (by rfl) (by rfl) (F170_sha_turned_ok hy82)) rfl rfl rfl ?_
   refine .v2 (f_binI (r := .int .u32 (bXor .u32 y79 y81)) (by rfl) rfl (by rfl)) rfl rfl rfl ?_
   refine .m rfl ?_
   obtain ⟨y83, hy84, h⟩ := bind_some h
   refine .v2 (f_callP hgl (by rfl) en170 rfl (by rfl) (by rfl) (by rfl) (F170_sha_turned_ok hy84)) rfl rfl rfl ?_
   refine .v2 (f_binI (r := .int .u32 (bXor .u32 (bXor .u32 y79 y81) y83)) (by rfl) rfl (by rfl)) rfl rfl rfl ?_
   refine .m rfl ?_
   refine .m rfl ?_
   refine .v2 (f_binI (r := .int .u32 (bAnd .u32 x46 x49)) (by rfl) rfl (by rfl)) rfl rfl rfl ?_
   refine .m rfl ?_
   refine .m rfl ?_
   refine .v2 (f_binI (r := .int .u32 (bAnd .u32 x46 x52)) (by rfl) rfl (by rfl)) rfl rfl rfl ?_
   refine .v2 (f_binI (r := .int .u32 (bXor .u32 (bAnd .u32 x46 x49) (bAnd .u32 x46 x52))) (by rfl) rfl (by rfl)) rfl rfl rfl ?_
   refine .m rfl ?_
   refine .m rfl ?_
   refine .v2 (f_binI (r := .int .u32 (bAnd .u32 x49 x52)) (by rfl) rfl (by rfl)) rfl rfl rfl ?_
   refine .v2 (f_binI (r := .int .u32 (bXor .u32 (bXor .u32 (bAnd .u32 x46 x49) (bAnd .u32 x46 x52)) (bAnd .u32 x49 x52))) (by rfl) rfl (by rfl)) rfl rfl rfl ?_
   refine .b rfl rfl rfl ?_
   refine .a rfl ?_
   refine .nil (aq_then ?_)
   refine aw_r ?_
   refine .m rfl ?_
   refine .m rfl ?_
   refine .b rfl rfl rfl ?_
   refine .m rfl ?_
   refine .m rfl ?_
   refine .m rfl ?_
   obtain ⟨x85, hx86, h⟩ := bind_some h
   obtain ⟨hx87, hx86⟩ := rd_some hx86
   refine .v (f_indexO (by rfl) ar220 rfl hx87 (rd_map _ hx86)) rfl (.c rfl (.c rfl .nil)) (.cons rfl .nil) ?_
   refine .v (f_load (n := 0) (o := 8) (off := (0 + ((3 : Int)).toNat * 1)) (p := [((3 : Int)).toNat]) (c := .d (eA219 z1_1)) (z := .d (.val (.int .u32 x85))) (by rfl) (at_map _ hx86 (by simp)) ty218 (by rfl)) rfl (.c rfl .nil) (.cons rfl .nil) ?_
   refine .m rfl ?_
   refine .b rfl rfl rfl ?_
   refine .m rfl ?_
   refine .m rfl ?_
   refine .m rfl ?_
   refine .v (f_build (xs := [(0, .d (.val (.int .u32 (IntKind.u32.wrap ((IntKind.u32.wrap ((IntKind.u32.wrap ((IntKind.u32.wrap ((IntKind.u32.wrap (x64 + (bXor .u32 (bXor .u32 y67 y69) y71))) + (bXor .u32 (bAnd .u32 x55 x58) (bAnd .u32 (bCom .u32 x55) x61)))) + x73)) + x76)) + (IntKind.u32.wrap ((bXor .u32 (bXor .u32 y79 y81) y83) + (bXor .u32 (bXor .u32 (bAnd .u32 x46 x49) (bAnd .u32 x46 x52)) (bAnd .u32 x49 x52))))))))), (1, .d (.val (.int .u32 x46))), (2, .d (.val (.int .u32 x49))), (3, .d (.val (.int .u32 x52))), (4, .d (.val (.int .u32 (IntKind.u32.wrap (x85 + (IntKind.u32.wrap ((IntKind.u32.wrap ((IntKind.u32.wrap ((IntKind.u32.wrap (x64 + (bXor .u32 (bXor .u32 y67 y69) y71))) + (bXor .u32 (bAnd .u32 x55 x58) (bAnd .u32 (bCom .u32 x55) x61)))) + x73)) + x76))))))), (5, .d (.val (.int .u32 x55))), (6, .d (.val (.int .u32 x58))), (7, .d (.val (.int .u32 x61)))]) (z' := .d (eA219 ([(IntKind.u32.wrap ((IntKind.u32.wrap ((IntKind.u32.wrap ((IntKind.u32.wrap ((IntKind.u32.wrap (x64 + (bXor .u32 (bXor .u32 y67 y69) y71))) + (bXor .u32 (bAnd .u32 x55 x58) (bAnd .u32 (bCom .u32 x55) x61)))) + x73)) + x76)) + (IntKind.u32.wrap ((bXor .u32 (bXor .u32 y79 y81) y83) + (bXor .u32 (bXor .u32 (bAnd .u32 x46 x49) (bAnd .u32 x46 x52)) (bAnd .u32 x49 x52)))))), x46, x49, x52, (IntKind.u32.wrap (x85 + (IntKind.u32.wrap ((IntKind.u32.wrap ((IntKind.u32.wrap ((IntKind.u32.wrap (x64 + (bXor .u32 (bXor .u32 y67 y69) y71))) + (bXor .u32 (bAnd .u32 x55 x58) (bAnd .u32 (bCom .u32 x55) x61)))) + x73)) + x76)))), x55, x58, x61] : List Int))) (by rfl) zr220 ag220 rfl (by rfl) ⟨_, _, _, rfl, pl220_0, rfl, rfl, ⟨_, _, _, rfl, pl220_1, rfl, rfl, ⟨_, _, _, rfl, pl220_2, rfl, rfl, ⟨_, _, _, rfl, pl220_3, rfl, rfl, ⟨_, _, _, rfl, pl220_4, rfl, rfl, ⟨_, _, _, rfl, pl220_5, rfl, rfl, ⟨_, _, _, rfl, pl220_6, rfl, rfl, ⟨_, _, _, rfl, pl220_7, rfl, rfl, trivial⟩⟩⟩⟩⟩⟩⟩⟩ (by rfl) (by rfl)) rfl (.c rfl (.c rfl (.c rfl (.c rfl (.c rfl (.c rfl (.c rfl (.c rfl .nil)))))))) .nil ?_
   refine .s (f_store (n := 0) (o := 8) (off := 0) (p := []) (c := .d (eA219 z1_1)) (old := .d (eA219 z1_1)) (z := .d (eA219 ([(IntKind.u32.wrap ((IntKind.u32.wrap ((IntKind.u32.wrap ((IntKind.u32.wrap ((IntKind.u32.wrap (x64 + (bXor .u32 (bXor .u32 y67 y69) y71))) + (bXor .u32 (bAnd .u32 x55 x58) (bAnd .u32 (bCom .u32 x55) x61)))) + x73)) + x76)) + (IntKind.u32.wrap ((bXor .u32 (bXor .u32 y79 y81) y83) + (bXor .u32 (bXor .u32 (bAnd .u32 x46 x49) (bAnd .u32 x46 x52)) (bAnd .u32 x49 x52)))))), x46, x49, x52, (IntKind.u32.wrap (x85 + (IntKind.u32.wrap ((IntKind.u32.wrap ((IntKind.u32.wrap ((IntKind.u32.wrap (x64 + (bXor .u32 (bXor .u32 y67 y69) y71))) + (bXor .u32 (bAnd .u32 x55 x58) (bAnd .u32 (bCom .u32 x55) x61)))) + x73)) + x76)))), x55, x58, x61] : List Int))) (c' := .d (eA219 ([(IntKind.u32.wrap ((IntKind.u32.wrap ((IntKind.u32.wrap ((IntKind.u32.wrap ((IntKind.u32.wrap (x64 + (bXor .u32 (bXor .u32 y67 y69) y71))) + (bXor .u32 (bAnd .u32 x55 x58) (bAnd .u32 (bCom .u32 x55) x61)))) + x73)) + x76)) + (IntKind.u32.wrap ((bXor .u32 (bXor .u32 y79 y81) y83) + (bXor .u32 (bXor .u32 (bAnd .u32 x46 x49) (bAnd .u32 x46 x52)) (bAnd .u32 x49 x52)))))), x46, x49, x52, (IntKind.u32.wrap (x85 + (IntKind.u32.wrap ((IntKind.u32.wrap ((IntKind.u32.wrap ((IntKind.u32.wrap (x64 + (bXor .u32 (bXor .u32 y67 y69) y71))) + (bXor .u32 (bAnd .u32 x55 x58) (bAnd .u32 (bCom .u32 x55) x61)))) + x73)) + x76)))), x55, x58, x61] : List Int))) rfl rfl (by rfl) ty220 (by rfl)) rfl (.c rfl (.c rfl .nil)) (.cons rfl .nil) ?_
   refine .nil ?_
   refine aq_block ?_
   refine aq_then ?_
   refine aw_r ?_
   refine .b rfl rfl rfl ?_
   refine .m rfl ?_
   refine .nil ?_
   obtain rfl := Option.some.inj h
   refine aq_k hb0 (.k 0 rfl (.k 4 rfl (.k 8 rfl (.k 100 rfl .nil)))) (.k 0 rfl (.k 4 rfl (.k 8 rfl .nil))) ?_
   exact jq
  replace h := ite_f hc45 h
  refine aw_exit ?_
  refine aq_then_exit ?_
  obtain rfl := Option.some.inj h
  refine aq_k hb0 (.k 0 rfl (.k 8 rfl .nil)) (.k 0 rfl (.k 8 rfl .nil)) ?_
  exact jq
 refine aq_block_exit ?_
 refine aq_then ?_
 refine aw_rs ?_
 refine .m rfl ?_
 refine .nil (aq_then ?_)
 refine aw_block ?_
 refine aw_k hb0 (.k 0 rfl (.k 8 rfl (.k 178 rfl .nil))) (.k 0 rfl (.k 8 rfl .nil)) ?_
 obtain ⟨o100, ho101, h⟩ := bind_some h
 refine aw_loopX (σ := Int × (List Int)) (fun z => ⟨[(0, .ptr 0 0 []), (8, .ptr 8 0 []), (178, .I z.1)], [(0, .av (.d (eA219 z.2))), (8, .av (.d (eA219 o88)))], []⟩) (fun _ => (.exit 4)) (fun (o100 : (List Int)) => ⟨[], [(0, .av (.d (eA219 o100)))], []⟩) ho101 (fun _ => rfl) ?_ ?_
 ·clear h ho101
  rintro ⟨z2_0, z2_1⟩ o h
  change F159_sha_state_block_89b_s2 o88 z2_0 z2_1 = some o at h
  unfold F159_sha_state_block_89b_s2 at h
  show AW _ _ _ ⟨[(0, .ptr 0 0 []), (8, .ptr 8 0 []), (178, .I z2_0)], [(0, .av (.d (eA219 z2_1))), (8, .av (.d (eA219 o88)))], []⟩
  refine aw_rs ?_
  refine .b rfl rfl rfl ?_
  refine .nil (aq_then ?_)
  refine aw_seq ?_
  refine aw_cond rfl (fun hc90 => ?_) (fun hc90 => ?_)
  ·replace h := ite_t hc90 h
   refine aw_skip ?_
   refine aq_then ?_
   refine aw_seq ?_
   refine aw_block ?_
   refine aw_rs ?_
   refine .m rfl ?_
   refine .a rfl ?_
   refine .nil (aq_then ?_)
   refine aw_rd ?_
   refine .v1 (f_move (by rfl)) rfl rfl ?_
   refine .v1 (f_move (by rfl)) rfl rfl ?_
   refine .v1 (f_nilCheck (by rfl)) rfl rfl ?_
   obtain ⟨x91, hx92, h⟩ := bind_some h
   obtain ⟨hx93, hx92⟩ := rd_some hx92
   refine .v (f_indexO (by rfl) ar220 rfl hx93 (rd_map _ hx92)) rfl (.c rfl (.c rfl .nil)) (.cons rfl .nil) ?_
   refine .v (f_load (n := 0) (o := 0) (off := (0 + (z2_0).toNat * 1)) (p := [(z2_0).toNat]) (c := .d (eA219 z2_1)) (z := .d (.val (.int .u32 x91))) (by rfl) (at_map _ hx92 (by simp)) ty218 (by rfl)) rfl (.c rfl .nil) (.cons rfl .nil) ?_
   refine .v1 (f_move (by rfl)) rfl rfl ?_
   obtain ⟨x94, hx95, h⟩ := bind_some h
   obtain ⟨hx96, hx95⟩ := rd_some hx95
   refine .v (f_indexO (by rfl) ar220 rfl hx96 (rd_map _ hx95)) rfl (.c rfl (.c rfl .nil)) (.cons rfl .nil) ?_
   refine .v (f_load (n := 0) (o := 8) (off := (0 + (z2_0).toNat * 1)) (p := [(z2_0).toNat]) (c := .d (eA219 o88)) (z := .d (.val (.int .u32 x94))) (by rfl) (at_map _ hx95 (by simp)) ty218 (by rfl)) rfl (.c rfl .nil) (.cons rfl .nil) ?_
   refine .v2 (f_binI (by rfl) rfl (by rfl)) rfl rfl rfl ?_
   refine .v1 (f_nilCheck (by rfl)) rfl rfl ?_
   obtain ⟨x97, hx98, h⟩ := bind_some h
   obtain ⟨hx99, hx98⟩ := rd_some hx98
   refine .v (f_indexO (by rfl) ar220 rfl hx99 (rd_map _ hx98)) rfl (.c rfl (.c rfl .nil)) (.cons rfl .nil) ?_
   refine .s (f_store (n := 0) (o := 0) (off := (0 + (z2_0).toNat * 1)) (p := [(z2_0).toNat]) (c := .d (eA219 z2_1)) (old := .d (.val (.int .u32 x97))) (z := .d (.val (.int .u32 (IntKind.u32.wrap (x91 + x94))))) (c' := .d (eA219 (z2_1.set (z2_0).toNat (IntKind.u32.wrap (x91 + x94))))) (at_map _ hx98 (by simp)) (put_map _ hx98) (by rfl) ty218 (by rfl)) rfl (.c rfl (.c rfl .nil)) (.cons rfl .nil) ?_
   refine .nil (by kernel_rfl) ?_
   refine aq_block ?_
   refine aq_then ?_
   refine aw_r ?_
   refine .b rfl rfl rfl ?_
   refine .m rfl ?_
   refine .nil ?_
   obtain rfl := Option.some.inj h
   refine aq_k hb0 (.k 0 rfl (.k 8 rfl (.k 178 rfl .nil))) (.k 0 rfl (.k 8 rfl .nil)) ?_
   exact jq
  replace h := ite_f hc90 h
  refine aw_exit ?_
  refine aq_then_exit ?_
  obtain rfl := Option.some.inj h
  refine aq_k hb0 .nil (.k 0 rfl .nil) ?_
  exact jq
 refine aq_block_exit ?_
 obtain rfl := Option.some.inj h
 refine aq_k hb0 .nil (.k 0 rfl .nil) ?_
 exact aq_fin0 .nil rfl ⟨rfl, rfl⟩
def F138_sha_Of_s1 (n : Nat) (z1_0 : (List Int)) (z1_1 : List Int) : Option (((List Int) × List Int) ⊕ ((List Int) × List Int)) :=
  (if (decide (((z1_1).length : Int) ≥ (64 : Int))) = true then (if 0 ≤ (0 : Int) ∧ (0 : Int) ≤ (64 : Int) ∧ (64 : Int) ≤ (((z1_1).length : Nat) : Int) then ((F159_sha_state_block_89b n (((z1_1).drop (0)).take ((((64 : Int)).toNat - ((0 : Int)).toNat))) z1_0).bind fun (y8 : (List Int)) => (if 0 ≤ (64 : Int) ∧ (64 : Int) ≤ (((z1_1).length : Nat) : Int) ∧ (((z1_1).length : Nat) : Int) ≤ (((z1_1).length : Nat) : Int) then some (.inl (y8, ((z1_1).drop ((0 + ((64 : Int)).toNat))))) else none)) else none) else some (.inr (z1_0, z1_1)))
def F138_sha_Of_s0 (n : Nat) (a0 : (List (List Int))) (z0_0 : Int) (z0_1 : Int) (z0_2 : (List Int)) (z0_3 : List Int) : Option ((Int × Int × (List Int) × List Int) ⊕ (Int × (List Int) × List Int)) :=
  (if (decide (z0_1 < ((a0).length : Int))) = true then ((rd a0 z0_1).bind fun (x2 : (List Int)) => (if ((z0_3 ++ x2)).length ≤ 1073741824 then ((loopF (fun (z : (List Int) × List Int) => F138_sha_Of_s1 n z.1 z.2) n (z0_2, (z0_3 ++ x2))).bind fun (o11 : (List Int) × List Int) => some (.inl ((IntKind.u64.wrap (z0_0 + (IntKind.u64.wrap ((x2).length : Int)))), (IntKind.i64.wrap (z0_1 + (1 : Int))), o11.1, o11.2))) else none)) else some (.inr (z0_0, z0_2, z0_3)))
def F138_sha_Of_s2 (z2_0 : List Int) : Option ((List Int) ⊕ (List Int)) :=
  (if ((Int.tmod ((z2_0).length : Int) (64 : Int)) != (56 : Int)) = true then (if ((z2_0 ++ ([(0 : Int)] : List Int))).length ≤ 1073741824 then some (.inl (z2_0 ++ ([(0 : Int)] : List Int))) else none) else some (.inr z2_0))
def F138_sha_Of_s3 (o13 : Int × (List Int) × List Int) (z3_0 : Int) (z3_1 : List Int) : Option ((Int × List Int) ⊕ (List Int)) :=
  (if (decide (z3_0 ≥ (0 : Int))) = true then (if 0 ≤ z3_0 then (if ((z3_1 ++ ([(IntKind.u8.wrap (shr .u64 (IntKind.u64.wrap ((8 : Int) * o13.1)) z3_0))] : List Int))).length ≤ 1073741824 then some (.inl ((IntKind.i64.wrap (z3_0 - (8 : Int))), (z3_1 ++ ([(IntKind.u8.wrap (shr .u64 (IntKind.u64.wrap ((8 : Int) * o13.1)) z3_0))] : List Int)))) else none) else none) else some (.inr z3_1))
def F138_sha_Of_s4 (n : Nat) (z4_0 : (List Int)) (z4_1 : List Int) : Option (((List Int) × List Int) ⊕ ((List Int))) :=
  (if (decide (((z4_1).length : Int) > (0 : Int))) = true then (if 0 ≤ (0 : Int) ∧ (0 : Int) ≤ (64 : Int) ∧ (64 : Int) ≤ (((z4_1).length : Nat) : Int) then ((F159_sha_state_block_89b n (((z4_1).drop (0)).take ((((64 : Int)).toNat - ((0 : Int)).toNat))) z4_0).bind fun (y27 : (List Int)) => (if 0 ≤ (64 : Int) ∧ (64 : Int) ≤ (((z4_1).length : Nat) : Int) ∧ (((z4_1).length : Nat) : Int) ≤ (((z4_1).length : Nat) : Int) then some (.inl (y27, ((z4_1).drop ((0 + ((64 : Int)).toNat))))) else none)) else none) else some (.inr z4_0))
def F138_sha_Of_s5 (o30 : (List Int)) (z5_0 : Int) (z5_1 : (List Int)) : Option ((Int × (List Int)) ⊕ ((List Int))) :=
  (if (decide (z5_0 < (32 : Int))) = true then ((rd o30 (IntKind.i64.wrap (Int.tdiv z5_0 (4 : Int)))).bind fun (x33 : Int) => (if 0 ≤ (IntKind.i64.wrap ((24 : Int) - (IntKind.i64.wrap ((8 : Int) * (Int.tmod z5_0 (4 : Int)))))) then ((rd z5_1 z5_0).bind fun (x37 : Int) => some (.inl ((IntKind.i64.wrap (z5_0 + (1 : Int))), (z5_1.set (z5_0).toNat (IntKind.u8.wrap (shr .u32 x33 (IntKind.i64.wrap ((24 : Int) - (IntKind.i64.wrap ((8 : Int) * (Int.tmod z5_0 (4 : Int)))))))))))) else none)) else some (.inr z5_1))
def F138_sha_Of (n : Nat) (a0 : (List (List Int))) : Option ((List Int)) :=
  ((loopF (fun (z : Int × Int × (List Int) × List Int) => F138_sha_Of_s0 n a0 z.1 z.2.1 z.2.2.1 z.2.2.2) n ((0 : Int), (0 : Int), ([(1779033703 : Int), (3144134277 : Int), (1013904242 : Int), (2773480762 : Int), (1359893119 : Int), (2600822924 : Int), (528734635 : Int), (1541459225 : Int)] : List Int), ([] : List Int))).bind fun (o13 : Int × (List Int) × List Int) => (if ((o13.2.2 ++ ([(128 : Int)] : List Int))).length ≤ 1073741824 then ((loopF (fun (z : List Int) => F138_sha_Of_s2  z) n (o13.2.2 ++ ([(128 : Int)] : List Int))).bind fun (o18 : List Int) => ((loopF (fun (z : Int × List Int) => F138_sha_Of_s3 o13 z.1 z.2) n ((56 : Int), o18)).bind fun (o23 : List Int) => ((loopF (fun (z : (List Int) × List Int) => F138_sha_Of_s4 n z.1 z.2) n (o13.2.1, o23)).bind fun (o30 : (List Int)) => ((loopF (fun (z : Int × (List Int)) => F138_sha_Of_s5 o30 z.1 z.2) n ((0 : Int), (List.replicate 32 (0 : Int)))).bind fun (o40 : (List Int)) => some o40)))) else none))
theorem F138_sha_Of_ok {n : Nat} {a0 : (List (List Int))} {r : (List Int)} (h : F138_sha_Of n a0 = some r) :
    ACall Tryz.prog GS 138 [.d (eL191 a0)] [] (fun r' hp' => r' = .d (eA46 r) ∧ hp' = []) := by
 refine acall_of_body mixed Tryz.func138 rfl (by rfl) ?_
 intro C hro hgl hb0
 unfold F138_sha_Of at h
 refine aw_rs ?_
 refine .n (f_alloc 2 (by rfl) zr47) rfl .nil rfl ?_
 refine .z ?_
 refine .v (f_build (xs := [(0, .d (.val (.int .u32 (1779033703 : Int)))), (1, .d (.val (.int .u32 (3144134277 : Int)))), (2, .d (.val (.int .u32 (1013904242 : Int)))), (3, .d (.val (.int .u32 (2773480762 : Int)))), (4, .d (.val (.int .u32 (1359893119 : Int)))), (5, .d (.val (.int .u32 (2600822924 : Int)))), (6, .d (.val (.int .u32 (528734635 : Int)))), (7, .d (.val (.int .u32 (1541459225 : Int))))]) (z' := .d (eA219 ([(1779033703 : Int), (3144134277 : Int), (1013904242 : Int), (2773480762 : Int), (1359893119 : Int), (2600822924 : Int), (528734635 : Int), (1541459225 : Int)] : List Int))) (by rfl) zr220 ag220 rfl (by rfl) ⟨_, _, _, rfl, pl220_0, rfl, rfl, ⟨_, _, _, rfl, pl220_1, rfl, rfl, ⟨_, _, _, rfl, pl220_2, rfl, rfl, ⟨_, _, _, rfl, pl220_3, rfl, rfl, ⟨_, _, _, rfl, pl220_4, rfl, rfl, ⟨_, _, _, rfl, pl220_5, rfl, rfl, ⟨_, _, _, rfl, pl220_6, rfl, rfl, ⟨_, _, _, rfl, pl220_7, rfl, rfl, trivial⟩⟩⟩⟩⟩⟩⟩⟩ (by rfl) (by rfl)) rfl (.c rfl (.c rfl (.c rfl (.c rfl (.c rfl (.c rfl (.c rfl (.c rfl .nil)))))))) .nil ?_
 refine .n (f_alloc 3 (by rfl) zr220) rfl .nil rfl ?_
 refine .s (f_store (n := 0) (o := 3) (off := 0) (p := []) (c := .d (eA219 (List.replicate 8 (0 : Int)))) (old := .d (eA219 (List.replicate 8 (0 : Int)))) (z := .d (eA219 ([(1779033703 : Int), (3144134277 : Int), (1013904242 : Int), (2773480762 : Int), (1359893119 : Int), (2600822924 : Int), (528734635 : Int), (1541459225 : Int)] : List Int))) (c' := .d (eA219 ([(1779033703 : Int), (3144134277 : Int), (1013904242 : Int), (2773480762 : Int), (1359893119 : Int), (2600822924 : Int), (528734635 : Int), (1541459225 : Int)] : List Int))) rfl rfl (by rfl) ty220 (by rfl)) rfl (.c rfl (.c rfl .nil)) (.cons rfl .nil) ?_
 refine .z ?_
 refine .a rfl ?_
 refine .z ?_
 refine .a rfl ?_
 refine .nil (aq_then ?_)
 refine aw_seq ?_
 refine aw_rs ?_
 refine .m rfl ?_
 refine .v1 (f_lenD (n := (a0).length) (by rfl) sl191 rfl (by simp)) rfl rfl ?_
 refine .m rfl ?_
 refine .nil (aq_then ?_)
 refine aw_block ?_
 refine aw_adopt 4 1011 1 rfl rfl ?_
 refine aw_weak (s' := ⟨[(2, .ptr 2 0 []), (3, .ptr 3 0 []), (4, .slc 1011 0 ((([] : List Int)).length) 1), (5, .U (0 : Int)), (11, .d (eL191 a0)), (12, .I ((a0).length : Int)), (13, .I (0 : Int))], [(2, .av (.d (eA46 (List.replicate 32 (0 : Int))))), (3, .av (.d (eA219 ([(1779033703 : Int), (3144134277 : Int), (1013904242 : Int), (2773480762 : Int), (1359893119 : Int), (2600822924 : Int), (528734635 : Int), (1541459225 : Int)] : List Int)))), (1011, .av (.d (.arr 1 ((([] : List Int)).length) ((([] : List Int)).map eI_u8))))], []⟩) id hb0 (.keep rfl (.keep rfl (.keep (by simp only [List.length_set]; rfl) (.keep rfl (.keep rfl (.keep rfl (.keep rfl .nil))))))) (.keep rfl (.keep rfl (.keep (by simp only [List.length_set]; rfl) .nil))) rfl (by rfl) ?_
 obtain ⟨o13, ho14, h⟩ := bind_some h
 refine aw_loopX (σ := Int × Int × (List Int) × List Int) (fun z => ⟨[(2, .ptr 2 0 []), (3, .ptr 3 0 []), (4, .slc 1011 0 ((z.2.2.2).length) 1), (5, .U z.1), (11, .d (eL191 a0)), (12, .I ((a0).length : Int)), (13, .I z.2.1)], [(2, .av (.d (eA46 (List.replicate 32 (0 : Int))))), (3, .av (.d (eA219 z.2.2.1))), (1011, .av (.d (.arr 1 ((z.2.2.2).length) ((z.2.2.2).map eI_u8))))], []⟩) (fun _ => (.exit 0)) (fun (o13 : Int × (List Int) × List Int) => ⟨[(2, .ptr 2 0 []), (3, .ptr 3 0 []), (4, .slc 1011 0 ((o13.2.2).length) 1), (5, .U o13.1)], [(2, .av (.d (eA46 (List.replicate 32 (0 : Int))))), (3, .av (.d (eA219 o13.2.1))), (1011, .av (.d (.arr 1 ((o13.2.2).length) ((o13.2.2).map eI_u8))))], []⟩) ho14 (fun _ => rfl) ?_ ?_
 ·clear h ho14
  rintro ⟨z0_0, z0_1, z0_2, z0_3⟩ o h
  change F138_sha_Of_s0 n a0 z0_0 z0_1 z0_2 z0_3 = some o at h
  unfold F138_sha_Of_s0 at h
  show AW _ _ _ ⟨[(2, .ptr 2 0 []), (3, .ptr 3 0 []), (4, .slc 1011 0 ((z0_3).length) 1), (5, .U z0_0), (11, .d (eL191 a0)), (12, .I ((a0).length : Int)), (13, .I z0_1)], [(2, .av (.d (eA46 (List.replicate 32 (0 : Int))))), (3, .av (.d (eA219 z0_2))), (1011, .av (.d (.arr 1 ((z0_3).length) ((z0_3).map eI_u8))))], []⟩
  refine aw_rs ?_
  refine .b rfl rfl rfl ?_
  refine .nil (aq_then ?_)
  refine aw_seq ?_
  refine aw_cond rfl (fun hc1 => ?_) (fun hc1 => ?_)
  ·replace h := ite_t hc1 h
   refine aw_skip ?_
   refine aq_then ?_
   refine aw_seq ?_
   refine aw_block ?_
   refine aw_rs ?_
   obtain ⟨x2, hx3, h⟩ := bind_some h
   obtain ⟨hx4, hx3⟩ := rd_some hx3
   refine .v2 (f_indexS (by rfl) sl191 hx4 (rd_map _ hx3)) rfl rfl rfl ?_
   refine .v1 (f_loadR (z := (eL70 x2)) (by rfl) ty70) rfl rfl ?_
   refine .a rfl ?_
   refine .z ?_
   refine .m rfl ?_
   refine .m rfl ?_
   refine .v1 (f_lenD (n := (x2).length) (by rfl) sl70 rfl (by simp)) rfl rfl ?_
   refine .v1 (f_convI (by rfl) un3 un48) rfl rfl ?_
   refine .b rfl rfl rfl ?_
   refine .a rfl ?_
   refine .z ?_
   refine .m rfl ?_
   refine .m rfl ?_
   obtain ⟨hb5, h⟩ := ifp h
   refine .w (f_appendC (m := ((z0_3 ++ x2)).length) (ys := (x2 : List Int).map eI_u8) (xs := (z0_3).map eI_u8) (zs := ((z0_3 ++ x2)).map eI_u8) 1015 (by rfl) el70 (by simp) (by simp) (by simp [List.map_drop]) (by simp) (Nat.le_trans (Nat.mul_le_mul_right _ hb5) (by decide)) (Nat.le_trans hb5 (by decide)) srcD) rfl (.c rfl (.c rfl .nil)) (.cons rfl .nil) (.cons rfl .nil) ?_
   refine .a rfl ?_
   refine .nil (aq_then ?_)
   refine aw_block ?_
   refine aw_k hb0 (.k 2 rfl (.k 3 rfl (.k 4 rfl (.k 5 rfl (.k 11 rfl (.k 12 rfl (.k 13 rfl .nil))))))) (.k 2 rfl (.k 3 rfl (.k 1015 rfl .nil))) ?_
   obtain ⟨o11, ho12, h⟩ := bind_some h
   refine aw_loopX (σ := (List Int) × List Int) (fun z => ⟨[(2, .ptr 2 0 []), (3, .ptr 3 0 []), (4, .slc 1015 0 ((z.2).length) 1), (5, .U (IntKind.u64.wrap (z0_0 + (IntKind.u64.wrap ((x2).length : Int))))), (11, .d (eL191 a0)), (12, .I ((a0).length : Int)), (13, .I z0_1)], [(2, .av (.d (eA46 (List.replicate 32 (0 : Int))))), (3, .av (.d (eA219 z.1))), (1015, .av (.d (.arr 1 ((z.2).length) ((z.2).map eI_u8))))], []⟩) (fun _ => (.exit 2)) (fun (o11 : (List Int) × List Int) => ⟨[(2, .ptr 2 0 []), (3, .ptr 3 0 []), (4, .slc 1015 0 ((o11.2).length) 1), (5, .U (IntKind.u64.wrap (z0_0 + (IntKind.u64.wrap ((x2).length : Int))))), (11, .d (eL191 a0)), (12, .I ((a0).length : Int)), (13, .I z0_1)], [(2, .av (.d (eA46 (List.replicate 32 (0 : Int))))), (3, .av (.d (eA219 o11.1))), (1015, .av (.d (.arr 1 ((o11.2).length) ((o11.2).map eI_u8))))], []⟩) ho12 (fun _ => rfl) ?_ ?_
   ·clear h ho12
    rintro ⟨z1_0, z1_1⟩ o h
    change F138_sha_Of_s1 n z1_0 z1_1 = some o at h
    unfold F138_sha_Of_s1 at h
    show AW _ _ _ ⟨[(2, .ptr 2 0 []), (3, .ptr 3 0 []), (4, .slc 1015 0 ((z1_1).length) 1), (5, .U (IntKind.u64.wrap (z0_0 + (IntKind.u64.wrap ((x2).length : Int))))), (11, .d (eL191 a0)), (12, .I ((a0).length : Int)), (13, .I z0_1)], [(2, .av (.d (eA46 (List.replicate 32 (0 : Int))))), (3, .av (.d (eA219 z1_0))), (1015, .av (.d (.arr 1 ((z1_1).length) ((z1_1).map eI_u8))))], []⟩
    refine aw_seq ?_
    refine aw_rs ?_
    refine .m rfl ?_
    refine .v1 (f_lenO (by rfl) sl70 rfl) rfl rfl ?_
    refine .b rfl rfl rfl ?_
    refine .nil (aq_then ?_)
    refine aw_cond rfl (fun hc6 => ?_) (fun hc6 => ?_)
    ·replace h := ite_t hc6 h
     refine aw_skip ?_
     refine aq_then ?_
     refine aw_seq ?_
     refine aw_block ?_
     refine aw_r ?_
     refine .m rfl ?_
     obtain ⟨hb7, h⟩ := ifp h
     refine .v2 (f_sliceOE (k1 := .i64) (k2 := .i64) (i := (0 : Int)) (j := (64 : Int)) (off' := 0) (len' := (((64 : Int)).toNat - ((0 : Int)).toNat)) (by rfl) sl70 (by intro hx; first | rfl | cases hx) (by intro hx; first | rfl | cases hx) hb7.1 hb7.2.1 hb7.2.2 (by simp) (by simp)) rfl rfl rfl ?_
     obtain ⟨y8, hy9, h⟩ := bind_some h
     refine .w (f_callH (xs := [.ptr 3 0 [], .slc 1015 0 (((64 : Int)).toNat - ((0 : Int)).toNat) 1]) (r := .res []) (hw := [(3, .av (.d (eA219 y8)))]) (fun i => bif Nat.beq i 0 then 3 else i) [(1015, (.arr 1 ((z1_1).length) ((z1_1).map eI_u8)))] hgl (by rfl) (cal_f en159) rfl (by rfl) (by rfl) (by rfl) (by rfl) (by rfl) (.cons (.same _) (.cons (.slcE (.head _) (by simp [List.map_drop, List.map_take]) (by simp <;> omega)) .nil)) rfl rfl rfl rfl (by rfl) trivial ⟨(fl_eA219 _), trivial⟩ (F159_sha_state_block_89b_ok hy9)) rfl (.c rfl (.c rfl .nil)) (.cons rfl (.cons rfl .nil)) .nil ?_
     refine .nil ?_
     refine aq_block ?_
     refine aq_then ?_
     refine aw_r ?_
     refine .m rfl ?_
     obtain ⟨hb10, h⟩ := ifp h
     refine .v2 (f_sliceOE (k1 := .i64) (k2 := .i64) (i := (64 : Int)) (j := (((z1_1).length : Nat) : Int)) (off' := (0 + ((64 : Int)).toNat)) (len' := (((((z1_1).length : Nat) : Int)).toNat - ((64 : Int)).toNat)) (by rfl) sl70 (by intro hx; first | rfl | cases hx) (by intro hx; first | rfl | cases hx) hb10.1 hb10.2.1 hb10.2.2 (by simp) (by simp)) rfl rfl rfl ?_
     refine .a rfl ?_
     refine .nil ?_
     obtain rfl := Option.some.inj h
     refine aq_anewE (n := (z1_1).length) (m := (((z1_1).drop ((0 + ((64 : Int)).toNat)))).length) (zs := (((z1_1).drop ((0 + ((64 : Int)).toNat)))).map eI_u8) 4 1017 rfl rfl rfl (by simp [List.map_drop]) (by simp <;> omega) (by simp) ?_
     refine aq_weak (s' := ⟨[(2, .ptr 2 0 []), (3, .ptr 3 0 []), (4, .slc 1015 0 ((((z1_1).drop ((0 + ((64 : Int)).toNat)))).length) 1), (5, .U (IntKind.u64.wrap (z0_0 + (IntKind.u64.wrap ((x2).length : Int))))), (11, .d (eL191 a0)), (12, .I ((a0).length : Int)), (13, .I z0_1)], [(2, .av (.d (eA46 (List.replicate 32 (0 : Int))))), (3, .av (.d (eA219 y8))), (1015, .av (.d (.arr 1 ((((z1_1).drop ((0 + ((64 : Int)).toNat)))).length) ((((z1_1).drop ((0 + ((64 : Int)).toNat)))).map eI_u8))))], []⟩) (fun i => (bif Nat.beq i 1015 then 1017 else i)) hb0 (.cons rfl (.cons rfl (.cons rfl (.cons rfl (.cons rfl (.cons rfl (.cons rfl .nil))))))) (.cons rfl (.cons rfl (.cons rfl .nil))) rfl (by rfl) ?_
     exact jq
    replace h := ite_f hc6 h
    refine aw_exit ?_
    refine aq_then_exit ?_
    obtain rfl := Option.some.inj h
    refine aq_k hb0 (.k 2 rfl (.k 3 rfl (.k 4 rfl (.k 5 rfl (.k 11 rfl (.k 12 rfl (.k 13 rfl .nil))))))) (.k 2 rfl (.k 3 rfl (.k 1015 rfl .nil))) ?_
    exact jq
   refine aq_block_exit ?_
   refine aq_block ?_
   refine aq_then ?_
   refine aw_r ?_
   refine .b rfl rfl rfl ?_
   refine .m rfl ?_
   refine .nil ?_
   obtain rfl := Option.some.inj h
   refine aq_weak (s' := ⟨[(2, .ptr 2 0 []), (3, .ptr 3 0 []), (4, .slc 1011 0 ((o11.2).length) 1), (5, .U (IntKind.u64.wrap (z0_0 + (IntKind.u64.wrap ((x2).length : Int))))), (11, .d (eL191 a0)), (12, .I ((a0).length : Int)), (13, .I (IntKind.i64.wrap (z0_1 + (1 : Int))))], [(2, .av (.d (eA46 (List.replicate 32 (0 : Int))))), (3, .av (.d (eA219 o11.1))), (1011, .av (.d (.arr 1 ((o11.2).length) ((o11.2).map eI_u8))))], []⟩) (fun i => (bif Nat.beq i 1011 then 1015 else i)) hb0 (.cons rfl (.cons rfl (.cons rfl (.cons rfl (.cons rfl (.cons rfl (.cons rfl .nil))))))) (.cons rfl (.cons rfl (.cons rfl .nil))) rfl (by rfl) ?_
   exact jq
  replace h := ite_f hc1 h
  refine aw_exit ?_
  refine aq_then_exit ?_
  obtain rfl := Option.some.inj h
  refine aq_k hb0 (.k 2 rfl (.k 3 rfl (.k 4 rfl (.k 5 rfl .nil)))) (.k 2 rfl (.k 3 rfl (.k 1011 rfl .nil))) ?_
  exact jq
 refine aq_block_exit ?_
 refine aq_then ?_
 refine aw_rs ?_
 refine .m rfl ?_
 refine .n (f_buildS (xs := [(0, .d (.val (.int .u8 (128 : Int))))]) (z := (.val (.int .u8 (0 : Int)))) (zs := (([(128 : Int)] : List Int)).map eI_u8) 1018 (by rfl) el70 zel70 (by rfl) (by decide) (by decide) rfl (by rfl) ⟨_, _, _, rfl, pl70_0, rfl, rfl, trivial⟩ (by rfl)) rfl (.c rfl .nil) rfl ?_
 obtain ⟨hb15, h⟩ := ifp h
 refine .w (f_appendC (m := ((o13.2.2 ++ ([(128 : Int)] : List Int))).length) (ys := (([(128 : Int)] : List Int) : List Int).map eI_u8) (xs := (o13.2.2).map eI_u8) (zs := ((o13.2.2 ++ ([(128 : Int)] : List Int))).map eI_u8) 1019 (by rfl) el70 (by simp) (by simp) (by simp [List.map_drop]) (by simp) (Nat.le_trans (Nat.mul_le_mul_right _ hb15) (by decide)) (Nat.le_trans hb15 (by decide)) srcW) rfl (.c rfl (.c rfl .nil)) (.cons rfl (.cons rfl .nil)) (.cons rfl .nil) ?_
 refine .a rfl ?_
 refine .nil (aq_then ?_)
 refine aw_seq ?_
 refine aw_block ?_
 refine aw_k hb0 (.k 2 rfl (.k 3 rfl (.k 4 rfl (.k 5 rfl .nil)))) (.k 2 rfl (.k 3 rfl (.k 1019 rfl .nil))) ?_
 obtain ⟨o18, ho19, h⟩ := bind_some h
 refine aw_loopX (σ := List Int) (fun z => ⟨[(2, .ptr 2 0 []), (3, .ptr 3 0 []), (4, .slc 1019 0 ((z).length) 1), (5, .U o13.1)], [(2, .av (.d (eA46 (List.replicate 32 (0 : Int))))), (3, .av (.d (eA219 o13.2.1))), (1019, .av (.d (.arr 1 ((z).length) ((z).map eI_u8))))], []⟩) (fun _ => (.exit 4)) (fun (o18 : List Int) => ⟨[(2, .ptr 2 0 []), (3, .ptr 3 0 []), (4, .slc 1019 0 ((o18).length) 1), (5, .U o13.1)], [(2, .av (.d (eA46 (List.replicate 32 (0 : Int))))), (3, .av (.d (eA219 o13.2.1))), (1019, .av (.d (.arr 1 ((o18).length) ((o18).map eI_u8))))], []⟩) ho19 (fun _ => rfl) ?_ ?_
 ·clear h ho19
  intro z2_0 o h
  change F138_sha_Of_s2  z2_0 = some o at h
  unfold F138_sha_Of_s2 at h
  show AW _ _ _ ⟨[(2, .ptr 2 0 []), (3, .ptr 3 0 []), (4, .slc 1019 0 ((z2_0).length) 1), (5, .U o13.1)], [(2, .av (.d (eA46 (List.replicate 32 (0 : Int))))), (3, .av (.d (eA219 o13.2.1))), (1019, .av (.d (.arr 1 ((z2_0).length) ((z2_0).map eI_u8))))], []⟩
  refine aw_seq ?_
  refine aw_rs ?_
  refine .m rfl ?_
  refine .v1 (f_lenO (by rfl) sl70 rfl) rfl rfl ?_
  refine .v2 (f_binI (by rfl) (rem_ok (by decide)) (by rfl)) rfl rfl rfl ?_
  refine .b rfl rfl rfl ?_
  refine .nil (aq_then ?_)
  refine aw_cond rfl (fun hc16 => ?_) (fun hc16 => ?_)
  ·replace h := ite_t hc16 h
   refine aw_skip ?_
   refine aq_then ?_
   refine aw_block ?_
   refine aw_r ?_
   refine .m rfl ?_
   refine .n (f_buildS (xs := [(0, .d (.val (.int .u8 (0 : Int))))]) (z := (.val (.int .u8 (0 : Int)))) (zs := (([(0 : Int)] : List Int)).map eI_u8) 1022 (by rfl) el70 zel70 (by rfl) (by decide) (by decide) rfl (by rfl) ⟨_, _, _, rfl, pl70_0, rfl, rfl, trivial⟩ (by rfl)) rfl (.c rfl .nil) rfl ?_
   obtain ⟨hb17, h⟩ := ifp h
   refine .w (f_appendC (m := ((z2_0 ++ ([(0 : Int)] : List Int))).length) (ys := (([(0 : Int)] : List Int) : List Int).map eI_u8) (xs := (z2_0).map eI_u8) (zs := ((z2_0 ++ ([(0 : Int)] : List Int))).map eI_u8) 1023 (by rfl) el70 (by simp) (by simp) (by simp [List.map_drop]) (by simp) (Nat.le_trans (Nat.mul_le_mul_right _ hb17) (by decide)) (Nat.le_trans hb17 (by decide)) srcW) rfl (.c rfl (.c rfl .nil)) (.cons rfl (.cons rfl .nil)) (.cons rfl .nil) ?_
   refine .a rfl ?_
   refine .nil ?_
   refine aq_block ?_
   obtain rfl := Option.some.inj h
   refine aq_weak (s' := ⟨[(2, .ptr 2 0 []), (3, .ptr 3 0 []), (4, .slc 1019 0 (((z2_0 ++ ([(0 : Int)] : List Int))).length) 1), (5, .U o13.1)], [(2, .av (.d (eA46 (List.replicate 32 (0 : Int))))), (3, .av (.d (eA219 o13.2.1))), (1019, .av (.d (.arr 1 (((z2_0 ++ ([(0 : Int)] : List Int))).length) (((z2_0 ++ ([(0 : Int)] : List Int))).map eI_u8))))], []⟩) (fun i => (bif Nat.beq i 1019 then 1023 else i)) hb0 (.cons rfl (.cons rfl (.cons rfl (.cons rfl .nil)))) (.cons rfl (.cons rfl (.cons rfl .nil))) rfl (by rfl) ?_
   exact jq
  replace h := ite_f hc16 h
  refine aw_exit ?_
  refine aq_then_exit ?_
  obtain rfl := Option.some.inj h
  refine aq_k hb0 (.k 2 rfl (.k 3 rfl (.k 4 rfl (.k 5 rfl .nil)))) (.k 2 rfl (.k 3 rfl (.k 1019 rfl .nil))) ?_
  exact jq
 refine aq_block_exit ?_
 refine aq_then ?_
 refine aw_seq ?_
 refine aw_rs ?_
 refine .a rfl ?_
 refine .nil (aq_then ?_)
 refine aw_block ?_
 refine aw_k hb0 (.k 2 rfl (.k 3 rfl (.k 4 rfl (.k 5 rfl (.k 8 rfl .nil))))) (.k 2 rfl (.k 3 rfl (.k 1019 rfl .nil))) ?_
 obtain ⟨o23, ho24, h⟩ := bind_some h
 refine aw_loopX (σ := Int × List Int) (fun z => ⟨[(2, .ptr 2 0 []), (3, .ptr 3 0 []), (4, .slc 1019 0 ((z.2).length) 1), (5, .U o13.1), (8, .I z.1)], [(2, .av (.d (eA46 (List.replicate 32 (0 : Int))))), (3, .av (.d (eA219 o13.2.1))), (1019, .av (.d (.arr 1 ((z.2).length) ((z.2).map eI_u8))))], []⟩) (fun _ => (.exit 6)) (fun (o23 : List Int) => ⟨[(2, .ptr 2 0 []), (3, .ptr 3 0 []), (4, .slc 1019 0 ((o23).length) 1)], [(2, .av (.d (eA46 (List.replicate 32 (0 : Int))))), (3, .av (.d (eA219 o13.2.1))), (1019, .av (.d (.arr 1 ((o23).length) ((o23).map eI_u8))))], []⟩) ho24 (fun _ => rfl) ?_ ?_
 ·clear h ho24
  rintro ⟨z3_0, z3_1⟩ o h
  change F138_sha_Of_s3 o13 z3_0 z3_1 = some o at h
  unfold F138_sha_Of_s3 at h
  show AW _ _ _ ⟨[(2, .ptr 2 0 []), (3, .ptr 3 0 []), (4, .slc 1019 0 ((z3_1).length) 1), (5, .U o13.1), (8, .I z3_0)], [(2, .av (.d (eA46 (List.replicate 32 (0 : Int))))), (3, .av (.d (eA219 o13.2.1))), (1019, .av (.d (.arr 1 ((z3_1).length) ((z3_1).map eI_u8))))], []⟩
  refine aw_seq ?_
  refine aw_rs ?_
  refine .m rfl ?_
  refine .b rfl rfl rfl ?_
  refine .nil (aq_then ?_)
  refine aw_cond rfl (fun hc20 => ?_) (fun hc20 => ?_)
  ·replace h := ite_t hc20 h
   refine aw_skip ?_
   refine aq_then ?_
   refine aw_seq ?_
   refine aw_block ?_
   refine aw_r ?_
   refine .m rfl ?_
   refine .m rfl ?_
   refine .b rfl rfl rfl ?_
   refine .m rfl ?_
   obtain ⟨hz21, h⟩ := ifp h
   refine .v2 (f_shift (by rfl) (shr_ok hz21) (by rfl)) rfl rfl rfl ?_
   refine .v1 (f_convI (by rfl) un48 un5) rfl rfl ?_
   refine .n (f_buildS (xs := [(0, .d (.val (.int .u8 (IntKind.u8.wrap (shr .u64 (IntKind.u64.wrap ((8 : Int) * o13.1)) z3_0)))))]) (z := (.val (.int .u8 (0 : Int)))) (zs := (([(IntKind.u8.wrap (shr .u64 (IntKind.u64.wrap ((8 : Int) * o13.1)) z3_0))] : List Int)).map eI_u8) 1026 (by rfl) el70 zel70 (by rfl) (by decide) (by decide) rfl (by rfl) ⟨_, _, _, rfl, pl70_0, rfl, rfl, trivial⟩ (by rfl)) rfl (.c rfl .nil) rfl ?_
   obtain ⟨hb22, h⟩ := ifp h
   refine .w (f_appendC (m := ((z3_1 ++ ([(IntKind.u8.wrap (shr .u64 (IntKind.u64.wrap ((8 : Int) * o13.1)) z3_0))] : List Int))).length) (ys := (([(IntKind.u8.wrap (shr .u64 (IntKind.u64.wrap ((8 : Int) * o13.1)) z3_0))] : List Int) : List Int).map eI_u8) (xs := (z3_1).map eI_u8) (zs := ((z3_1 ++ ([(IntKind.u8.wrap (shr .u64 (IntKind.u64.wrap ((8 : Int) * o13.1)) z3_0))] : List Int))).map eI_u8) 1027 (by rfl) el70 (by simp) (by simp) (by simp [List.map_drop]) (by simp) (Nat.le_trans (Nat.mul_le_mul_right _ hb22) (by decide)) (Nat.le_trans hb22 (by decide)) srcW) rfl (.c rfl (.c rfl .nil)) (.cons rfl (.cons rfl .nil)) (.cons rfl .nil) ?_
   refine .a rfl ?_
   refine .nil ?_
   refine aq_block ?_
   refine aq_then ?_
   refine aw_r ?_
   refine .m rfl ?_
   refine .b rfl rfl rfl ?_
   refine .a rfl ?_
   refine .nil ?_
   obtain rfl := Option.some.inj h
   refine aq_weak (s' := ⟨[(2, .ptr 2 0 []), (3, .ptr 3 0 []), (4, .slc 1019 0 (((z3_1 ++ ([(IntKind.u8.wrap (shr .u64 (IntKind.u64.wrap ((8 : Int) * o13.1)) z3_0))] : List Int))).length) 1), (5, .U o13.1), (8, .I (IntKind.i64.wrap (z3_0 - (8 : Int))))], [(2, .av (.d (eA46 (List.replicate 32 (0 : Int))))), (3, .av (.d (eA219 o13.2.1))), (1019, .av (.d (.arr 1 (((z3_1 ++ ([(IntKind.u8.wrap (shr .u64 (IntKind.u64.wrap ((8 : Int) * o13.1)) z3_0))] : List Int))).length) (((z3_1 ++ ([(IntKind.u8.wrap (shr .u64 (IntKind.u64.wrap ((8 : Int) * o13.1)) z3_0))] : List Int))).map eI_u8))))], []⟩) (fun i => (bif Nat.beq i 1019 then 1027 else i)) hb0 (.cons rfl (.cons rfl (.cons rfl (.cons rfl (.cons rfl .nil))))) (.cons rfl (.cons rfl (.cons rfl .nil))) rfl (by rfl) ?_
   exact jq
  replace h := ite_f hc20 h
  refine aw_exit ?_
  refine aq_then_exit ?_
  obtain rfl := Option.some.inj h
  refine aq_k hb0 (.k 2 rfl (.k 3 rfl (.k 4 rfl .nil))) (.k 2 rfl (.k 3 rfl (.k 1019 rfl .nil))) ?_
  exact jq
 refine aq_block_exit ?_
 refine aq_then ?_
 refine aw_seq ?_
 refine aw_block ?_
 refine aw_k hb0 (.k 2 rfl (.k 3 rfl (.k 4 rfl .nil))) (.k 2 rfl (.k 3 rfl (.k 1019 rfl .nil))) ?_
 obtain ⟨o30, ho31, h⟩ := bind_some h
 refine aw_loopX (σ := (List Int) × List Int) (fun z => ⟨[(2, .ptr 2 0 []), (3, .ptr 3 0 []), (4, .slc 1019 0 ((z.2).length) 1)], [(2, .av (.d (eA46 (List.replicate 32 (0 : Int))))), (3, .av (.d (eA219 z.1))), (1019, .av (.d (.arr 1 ((z.2).length) ((z.2).map eI_u8))))], []⟩) (fun _ => (.exit 8)) (fun (o30 : (List Int)) => ⟨[(2, .ptr 2 0 []), (3, .ptr 3 0 [])], [(2, .av (.d (eA46 (List.replicate 32 (0 : Int))))), (3, .av (.d (eA219 o30)))], []⟩) ho31 (fun _ => rfl) ?_ ?_
 ·clear h ho31
  rintro ⟨z4_0, z4_1⟩ o h
  change F138_sha_Of_s4 n z4_0 z4_1 = some o at h
  unfold F138_sha_Of_s4 at h
  show AW _ _ _ ⟨[(2, .ptr 2 0 []), (3, .ptr 3 0 []), (4, .slc 1019 0 ((z4_1).length) 1)], [(2, .av (.d (eA46 (List.replicate 32 (0 : Int))))), (3, .av (.d (eA219 z4_0))), (1019, .av (.d (.arr 1 ((z4_1).length) ((z4_1).map eI_u8))))], []⟩
  refine aw_seq ?_
  refine aw_rs ?_
  refine .m rfl ?_
  refine .v1 (f_lenO (by rfl) sl70 rfl) rfl rfl ?_
  refine .b rfl rfl rfl ?_
  refine .nil (aq_then ?_)
  refine aw_cond rfl (fun hc25 => ?_) (fun hc25 => ?_)
  ·replace h := ite_t hc25 h
   refine aw_skip ?_
   refine aq_then ?_
   refine aw_seq ?_
   refine aw_block ?_
   refine aw_r ?_
   refine .m rfl ?_
   obtain ⟨hb26, h⟩ := ifp h
   refine .v2 (f_sliceOE (k1 := .i64) (k2 := .i64) (i := (0 : Int)) (j := (64 : Int)) (off' := 0) (len' := (((64 : Int)).toNat - ((0 : Int)).toNat)) (by rfl) sl70 (by intro hx; first | rfl | cases hx) (by intro hx; first | rfl | cases hx) hb26.1 hb26.2.1 hb26.2.2 (by simp) (by simp)) rfl rfl rfl ?_
   obtain ⟨y27, hy28, h⟩ := bind_some h
   refine .w (f_callH (xs := [.ptr 3 0 [], .slc 1019 0 (((64 : Int)).toNat - ((0 : Int)).toNat) 1]) (r := .res []) (hw := [(3, .av (.d (eA219 y27)))]) (fun i => bif Nat.beq i 0 then 3 else i) [(1019, (.arr 1 ((z4_1).length) ((z4_1).map eI_u8)))] hgl (by rfl) (cal_f en159) rfl (by rfl) (by rfl) (by rfl) (by rfl) (by rfl) (.cons (.same _) (.cons (.slcE (.head _) (by simp [List.map_drop, List.map_take]) (by simp <;> omega)) .nil)) rfl rfl rfl rfl (by rfl) trivial ⟨(fl_eA219 _), trivial⟩ (F159_sha_state_block_89b_ok hy28)) rfl (.c rfl (.c rfl .nil)) (.cons rfl (.cons rfl .nil)) .nil ?_
   refine .nil ?_
   refine aq_block ?_
   refine aq_then ?_
   refine aw_r ?_
   refine .m rfl ?_
   obtain ⟨hb29, h⟩ := ifp h
   refine .v2 (f_sliceOE (k1 := .i64) (k2 := .i64) (i := (64 : Int)) (j := (((z4_1).length : Nat) : Int)) (off' := (0 + ((64 : Int)).toNat)) (len' := (((((z4_1).length : Nat) : Int)).toNat - ((64 : Int)).toNat)) (by rfl) sl70 (by intro hx; first | rfl | cases hx) (by intro hx; first | rfl | cases hx) hb29.1 hb29.2.1 hb29.2.2 (by simp) (by simp)) rfl rfl rfl ?_
   refine .a rfl ?_
   refine .nil ?_
   obtain rfl := Option.some.inj h
   refine aq_anewE (n := (z4_1).length) (m := (((z4_1).drop ((0 + ((64 : Int)).toNat)))).length) (zs := (((z4_1).drop ((0 + ((64 : Int)).toNat)))).map eI_u8) 4 1029 rfl rfl rfl (by simp [List.map_drop]) (by simp <;> omega) (by simp) ?_
   refine aq_weak (s' := ⟨[(2, .ptr 2 0 []), (3, .ptr 3 0 []), (4, .slc 1019 0 ((((z4_1).drop ((0 + ((64 : Int)).toNat)))).length) 1)], [(2, .av (.d (eA46 (List.replicate 32 (0 : Int))))), (3, .av (.d (eA219 y27))), (1019, .av (.d (.arr 1 ((((z4_1).drop ((0 + ((64 : Int)).toNat)))).length) ((((z4_1).drop ((0 + ((64 : Int)).toNat)))).map eI_u8))))], []⟩) (fun i => (bif Nat.beq i 1019 then 1029 else i)) hb0 (.cons rfl (.cons rfl (.cons rfl .nil))) (.cons rfl (.cons rfl (.cons rfl .nil))) rfl (by rfl) ?_
   exact jq
  replace h := ite_f hc25 h
  refine aw_exit ?_
  refine aq_then_exit ?_
  obtain rfl := Option.some.inj h
  refine aq_k hb0 (.k 2 rfl (.k 3 rfl .nil)) (.k 2 rfl (.k 3 rfl .nil)) ?_
  exact jq
 refine aq_block_exit ?_
 refine aq_then ?_
 refine aw_seq ?_
 refine aw_rs ?_
 refine .m rfl ?_
 refine .nil (aq_then ?_)
 refine aw_block ?_
 refine aw_k hb0 (.k 2 rfl (.k 3 rfl (.k 64 rfl .nil))) (.k 2 rfl (.k 3 rfl .nil)) ?_
 obtain ⟨o40, ho41, h⟩ := bind_some h
 refine aw_loopX (σ := Int × (List Int)) (fun z => ⟨[(2, .ptr 2 0 []), (3, .ptr 3 0 []), (64, .I z.1)], [(2, .av (.d (eA46 z.2))), (3, .av (.d (eA219 o30)))], []⟩) (fun _ => (.exit 10)) (fun (o40 : (List Int)) => ⟨[(2, .ptr 2 0 [])], [(2, .av (.d (eA46 o40)))], []⟩) ho41 (fun _ => rfl) ?_ ?_
 ·clear h ho41
  rintro ⟨z5_0, z5_1⟩ o h
  change F138_sha_Of_s5 o30 z5_0 z5_1 = some o at h
  unfold F138_sha_Of_s5 at h
  show AW _ _ _ ⟨[(2, .ptr 2 0 []), (3, .ptr 3 0 []), (64, .I z5_0)], [(2, .av (.d (eA46 z5_1))), (3, .av (.d (eA219 o30)))], []⟩
  refine aw_rs ?_
  refine .b rfl rfl rfl ?_
  refine .nil (aq_then ?_)
  refine aw_seq ?_
  refine aw_cond rfl (fun hc32 => ?_) (fun hc32 => ?_)
  ·replace h := ite_t hc32 h
   refine aw_skip ?_
   refine aq_then ?_
   refine aw_seq ?_
   refine aw_block ?_
   refine aw_rs ?_
   refine .m rfl ?_
   refine .a rfl ?_
   refine .nil (aq_then ?_)
   refine aw_r ?_
   refine .m rfl ?_
   refine .m rfl ?_
   refine .v2 (f_binI (by rfl) (quo_ok (by decide)) (by rfl)) rfl rfl rfl ?_
   obtain ⟨x33, hx34, h⟩ := bind_some h
   obtain ⟨hx35, hx34⟩ := rd_some hx34
   refine .v (f_indexO (by rfl) ar220 rfl hx35 (rd_map _ hx34)) rfl (.c rfl (.c rfl .nil)) (.cons rfl .nil) ?_
   refine .v (f_load (n := 0) (o := 3) (off := (0 + ((IntKind.i64.wrap (Int.tdiv z5_0 (4 : Int)))).toNat * 1)) (p := [((IntKind.i64.wrap (Int.tdiv z5_0 (4 : Int)))).toNat]) (c := .d (eA219 o30)) (z := .d (.val (.int .u32 x33))) (by rfl) (at_map _ hx34 (by simp)) ty218 (by rfl)) rfl (.c rfl .nil) (.cons rfl .nil) ?_
   refine .m rfl ?_
   refine .v2 (f_binI (by rfl) (rem_ok (by decide)) (by rfl)) rfl rfl rfl ?_
   refine .b rfl rfl rfl ?_
   refine .b rfl rfl rfl ?_
   obtain ⟨hz36, h⟩ := ifp h
   refine .v2 (f_shift (by rfl) (shr_ok hz36) (by rfl)) rfl rfl rfl ?_
   refine .v1 (f_convI (by rfl) un218 un5) rfl rfl ?_
   obtain ⟨x37, hx38, h⟩ := bind_some h
   obtain ⟨hx39, hx38⟩ := rd_some hx38
   refine .v (f_indexO (by rfl) ar47 rfl hx39 (rd_map _ hx38)) rfl (.c rfl (.c rfl .nil)) (.cons rfl .nil) ?_
   refine .s (f_store (n := 0) (o := 2) (off := (0 + (z5_0).toNat * 1)) (p := [(z5_0).toNat]) (c := .d (eA46 z5_1)) (old := .d (.val (.int .u8 x37))) (z := .d (.val (.int .u8 (IntKind.u8.wrap (shr .u32 x33 (IntKind.i64.wrap ((24 : Int) - (IntKind.i64.wrap ((8 : Int) * (Int.tmod z5_0 (4 : Int))))))))))) (c' := .d (eA46 (z5_1.set (z5_0).toNat (IntKind.u8.wrap (shr .u32 x33 (IntKind.i64.wrap ((24 : Int) - (IntKind.i64.wrap ((8 : Int) * (Int.tmod z5_0 (4 : Int))))))))))) (at_map _ hx38 (by simp)) (put_map _ hx38) (by rfl) ty5 (by rfl)) rfl (.c rfl (.c rfl .nil)) (.cons rfl .nil) ?_
   refine .nil ?_
   refine aq_block ?_
   refine aq_then ?_
   refine aw_r ?_
   refine .b rfl rfl rfl ?_
   refine .m rfl ?_
   refine .nil ?_
   obtain rfl := Option.some.inj h
   refine aq_k hb0 (.k 2 rfl (.k 3 rfl (.k 64 rfl .nil))) (.k 2 rfl (.k 3 rfl .nil)) ?_
   exact jq
  replace h := ite_f hc32 h
  refine aw_exit ?_
  refine aq_then_exit ?_
  obtain rfl := Option.some.inj h
  refine aq_k hb0 (.k 2 rfl .nil) (.k 2 rfl .nil) ?_
  exact jq
 refine aq_block_exit ?_
 refine aq_then ?_
 refine aw_rs ?_
 refine .l 2 0 [] (.d (eA46 o40)) (.d (eA46 o40)) ty47 ?_
 refine .s (f_store (n := 0) (o := 2) (off := 0) (p := []) (c := .d (eA46 o40)) (old := .d (eA46 o40)) (z := .d (eA46 o40)) (c' := .d (eA46 o40)) rfl rfl (by rfl) ty47 (by rfl)) rfl (.c rfl (.c rfl .nil)) (.cons rfl .nil) ?_
 refine .nil (aq_then ?_)
 refine aw_ret ?_
 obtain rfl := Option.some.inj h
 exact aq_finp hb0 rfl (.cell rfl rfl ty47 (by rfl) .nil) (by rfl) rfl ⟨rfl, rfl⟩
def F151_api_Digest_896_s0 (n : Nat) (a0 : (List (List Int))) (z0_0 : Int) (z0_1 : List Int) : Option ((Int × List Int) ⊕ (List Int)) :=
  (if (decide (z0_0 < ((a0).length : Int))) = true then ((rd a0 z0_0).bind fun (x2 : (List Int)) => ((F152_tx_Body_1 n x2).bind fun (y5 : (List Int)) => (if ((z0_1 ++ y5)).length ≤ 1073741824 then some (.inl ((IntKind.i64.wrap (z0_0 + (1 : Int))), (z0_1 ++ y5))) else none))) else some (.inr z0_1))
def F151_api_Digest_896 (n : Nat) (a0 : (List (List Int))) : Option (List Int) :=
  ((loopF (fun (z : Int × List Int) => F151_api_Digest_896_s0 n a0 z.1 z.2) n ((0 : Int), ([] : List Int))).bind fun (o8 : List Int) => some o8)
theorem F151_api_Digest_896_ok {n : Nat} {a0 : (List (List Int))} {r : List Int} (h : F151_api_Digest_896 n a0 = some r) :
    ACall Tryz.prog GS 151 [.N, .d (eL209 a0), .fn (.func 152) [] []] [] (fun r' hp' => r' = .slc 1032 0 ((r).length) 1 ∧ hp' = [(1032, .av (.d (.arr 1 ((r).length) ((r).map eI_u8))))]) := by
 refine acall_of_body mixed Tryz.func151 rfl (by rfl) ?_
 intro C hro hgl hb0
 unfold F151_api_Digest_896 at h
 refine aw_rs ?_
 refine .a rfl ?_
 refine .nil (aq_then ?_)
 refine aw_seq ?_
 refine aw_rs ?_
 refine .m rfl ?_
 refine .v1 (f_lenD (n := (a0).length) (by rfl) sl209 rfl (by simp)) rfl rfl ?_
 refine .m rfl ?_
 refine .nil (aq_then ?_)
 refine aw_block ?_
 refine aw_adopt 0 1032 1 rfl rfl ?_
 refine aw_weak (s' := ⟨[(0, .slc 1032 0 ((([] : List Int)).length) 1), (2, .fn (.func 152) [] []), (9, .d (eL209 a0)), (10, .I ((a0).length : Int)), (11, .I (0 : Int))], [(1032, .av (.d (.arr 1 ((([] : List Int)).length) ((([] : List Int)).map eI_u8))))], []⟩) id hb0 (.keep (by simp only [List.length_set]; rfl) (.keep rfl (.keep rfl (.keep rfl (.keep rfl .nil))))) (.keep (by simp only [List.length_set]; rfl) .nil) rfl (by rfl) ?_
 obtain ⟨o8, ho9, h⟩ := bind_some h
 refine aw_loopX (σ := Int × List Int) (fun z => ⟨[(0, .slc 1032 0 ((z.2).length) 1), (2, .fn (.func 152) [] []), (9, .d (eL209 a0)), (10, .I ((a0).length : Int)), (11, .I z.1)], [(1032, .av (.d (.arr 1 ((z.2).length) ((z.2).map eI_u8))))], []⟩) (fun _ => (.exit 0)) (fun (o8 : List Int) => ⟨[(0, .slc 1032 0 ((o8).length) 1)], [(1032, .av (.d (.arr 1 ((o8).length) ((o8).map eI_u8))))], []⟩) ho9 (fun _ => rfl) ?_ ?_
 ·clear h ho9
  rintro ⟨z0_0, z0_1⟩ o h
  change F151_api_Digest_896_s0 n a0 z0_0 z0_1 = some o at h
  unfold F151_api_Digest_896_s0 at h
  show AW _ _ _ ⟨[(0, .slc 1032 0 ((z0_1).length) 1), (2, .fn (.func 152) [] []), (9, .d (eL209 a0)), (10, .I ((a0).length : Int)), (11, .I z0_0)], [(1032, .av (.d (.arr 1 ((z0_1).length) ((z0_1).map eI_u8))))], []⟩
  refine aw_rs ?_
  refine .b rfl rfl rfl ?_
  refine .nil (aq_then ?_)
  refine aw_seq ?_
  refine aw_cond rfl (fun hc1 => ?_) (fun hc1 => ?_)
  ·replace h := ite_t hc1 h
   refine aw_skip ?_
   refine aq_then ?_
   refine aw_seq ?_
   refine aw_block ?_
   refine aw_rs ?_
   obtain ⟨x2, hx3, h⟩ := bind_some h
   obtain ⟨hx4, hx3⟩ := rd_some hx3
   refine .v2 (f_indexS (by rfl) sl209 hx4 (rd_map _ hx3)) rfl rfl rfl ?_
   refine .v1 (f_loadR (z := (eA46 x2)) (by rfl) ty47) rfl rfl ?_
   refine .n (f_alloc 8 (by rfl) zr47) rfl .nil rfl ?_
   refine .s (f_store (n := 0) (o := 8) (off := 0) (p := []) (c := .d (eA46 (List.replicate 32 (0 : Int)))) (old := .d (eA46 (List.replicate 32 (0 : Int)))) (z := .d (eA46 x2)) (c' := .d (eA46 x2)) rfl rfl (by rfl) ty47 (by rfl)) rfl (.c rfl (.c rfl .nil)) (.cons rfl .nil) ?_
   refine .nil (aq_then ?_)
   refine aw_r ?_
   refine .m rfl ?_
   refine .m rfl ?_
   refine .l 8 0 [] (.d (eA46 x2)) (.d (eA46 x2)) ty47 ?_
   obtain ⟨y5, hy6, h⟩ := bind_some h
   refine .w (f_callG0 (xs := [.d (eA46 x2)]) (r := .d (eL70 y5)) (fun i => i) [] hgl (by rfl) (cal_v (first := []) (caps := []) en152) rfl (by rfl) (by rfl) (by rfl) (by rfl) (.cons (.same _) .nil) rfl rfl (F152_tx_Body_1_ok hy6)) rfl (.c rfl (.c rfl .nil)) .nil .nil ?_
   obtain ⟨hb7, h⟩ := ifp h
   refine .w (f_appendC (m := ((z0_1 ++ y5)).length) (ys := (y5 : List Int).map eI_u8) (xs := (z0_1).map eI_u8) (zs := ((z0_1 ++ y5)).map eI_u8) 1034 (by rfl) el70 (by simp) (by simp) (by simp [List.map_drop]) (by simp) (Nat.le_trans (Nat.mul_le_mul_right _ hb7) (by decide)) (Nat.le_trans hb7 (by decide)) srcD) rfl (.c rfl (.c rfl .nil)) (.cons rfl .nil) (.cons rfl .nil) ?_
   refine .a rfl ?_
   refine .nil ?_
   refine aq_block ?_
   refine aq_then ?_
   refine aw_r ?_
   refine .b rfl rfl rfl ?_
   refine .m rfl ?_
   refine .nil ?_
   obtain rfl := Option.some.inj h
   refine aq_weak (s' := ⟨[(0, .slc 1032 0 (((z0_1 ++ y5)).length) 1), (2, .fn (.func 152) [] []), (9, .d (eL209 a0)), (10, .I ((a0).length : Int)), (11, .I (IntKind.i64.wrap (z0_0 + (1 : Int))))], [(1032, .av (.d (.arr 1 (((z0_1 ++ y5)).length) (((z0_1 ++ y5)).map eI_u8))))], []⟩) (fun i => (bif Nat.beq i 1032 then 1034 else i)) hb0 (.cons rfl (.cons rfl (.cons rfl (.cons rfl (.cons rfl .nil))))) (.cons rfl .nil) rfl (by rfl) ?_
   exact jq
  replace h := ite_f hc1 h
  refine aw_exit ?_
  refine aq_then_exit ?_
  obtain rfl := Option.some.inj h
  refine aq_k hb0 (.k 0 rfl .nil) (.k 1032 rfl .nil) ?_
  exact jq
 refine aq_block_exit ?_
 refine aq_then ?_
 refine aw_rs ?_
 refine .m rfl ?_
 refine .a rfl ?_
 refine .nil (aq_then ?_)
 refine aw_ret ?_
 obtain rfl := Option.some.inj h
 refine aq_k hb0 (.k 6 rfl .nil) (.k 1032 rfl .nil) ?_
 exact aq_fin1 (.tmp rfl (by rfl) .nil) rfl ⟨rfl, rfl⟩
def F153_tx_put_985_s0 (n : Nat) (a0 : (List Int)) (z0_0 : Int) (z0_1 : List Int) : Option ((Int × List Int) ⊕ (List Int)) :=
  (if (decide (z0_0 < ((a0).length : Int))) = true then ((rd a0 z0_0).bind fun (x2 : Int) => ((F154_tx_Body_2 n x2).bind fun (y5 : (List Int)) => (if ((z0_1 ++ y5)).length ≤ 1073741824 then some (.inl ((IntKind.i64.wrap (z0_0 + (1 : Int))), (z0_1 ++ y5))) else none))) else some (.inr z0_1))
def F153_tx_put_985 (n : Nat) (a0 : (List Int)) (a1 : (List Int)) : Option (List Int) :=
  ((loopF (fun (z : Int × List Int) => F153_tx_put_985_s0 n a0 z.1 z.2) n ((0 : Int), a1)).bind fun (o8 : List Int) => some o8)
theorem F153_tx_put_985_ok {n : Nat} {a0 : (List Int)} {a1 : (List Int)} {r : List Int} (h : F153_tx_put_985 n a0 a1 = some r) :
    ACall Tryz.prog GS 153 [.slc 0 0 ((a1).length) 1, .d (eL212 a0), .fn (.func 154) [] []] [(0, .av (.d (.arr 1 ((a1).length) ((a1).map eI_u8))))] (fun r' hp' => r' = .slc 1038 0 ((r).length) 1 ∧ hp' = [(1038, .av (.d (.arr 1 ((r).length) ((r).map eI_u8)))), (0, .dead)]) := by
 refine acall_of_body mixed Tryz.func153 rfl (by rfl) ?_
 intro C hro hgl hb0
 unfold F153_tx_put_985 at h
 refine aw_rs ?_
 refine .a rfl ?_
 refine .nil (aq_then ?_)
 refine aw_seq ?_
 refine aw_rs ?_
 refine .m rfl ?_
 refine .v1 (f_lenD (n := (a0).length) (by rfl) sl212 rfl (by simp)) rfl rfl ?_
 refine .m rfl ?_
 refine .nil (aq_then ?_)
 refine aw_block ?_
 refine aw_anewE (n := (a1).length) (m := (a1).length) (zs := (a1).map eI_u8) 0 1038 rfl rfl rfl (by simp [List.map_drop]) (by simp <;> omega) rfl ?_
 refine aw_k hb0 (.k 0 rfl (.k 2 rfl (.k 9 rfl (.k 10 rfl (.k 11 rfl .nil))))) (.k 1038 rfl (.k 0 rfl .nil)) ?_
 obtain ⟨o8, ho9, h⟩ := bind_some h
 refine aw_loopX (σ := Int × List Int) (fun z => ⟨[(0, .slc 1038 0 ((z.2).length) 1), (2, .fn (.func 154) [] []), (9, .d (eL212 a0)), (10, .I ((a0).length : Int)), (11, .I z.1)], [(1038, .av (.d (.arr 1 ((z.2).length) ((z.2).map eI_u8)))), (0, .dead)], []⟩) (fun _ => (.exit 0)) (fun (o8 : List Int) => ⟨[(0, .slc 1038 0 ((o8).length) 1)], [(1038, .av (.d (.arr 1 ((o8).length) ((o8).map eI_u8)))), (0, .dead)], []⟩) ho9 (fun _ => rfl) ?_ ?_
 ·clear h ho9
  rintro ⟨z0_0, z0_1⟩ o h
  change F153_tx_put_985_s0 n a0 z0_0 z0_1 = some o at h
  unfold F153_tx_put_985_s0 at h
  show AW _ _ _ ⟨[(0, .slc 1038 0 ((z0_1).length) 1), (2, .fn (.func 154) [] []), (9, .d (eL212 a0)), (10, .I ((a0).length : Int)), (11, .I z0_0)], [(1038, .av (.d (.arr 1 ((z0_1).length) ((z0_1).map eI_u8)))), (0, .dead)], []⟩
  refine aw_rs ?_
  refine .b rfl rfl rfl ?_
  refine .nil (aq_then ?_)
  refine aw_seq ?_
  refine aw_cond rfl (fun hc1 => ?_) (fun hc1 => ?_)
  ·replace h := ite_t hc1 h
   refine aw_skip ?_
   refine aq_then ?_
   refine aw_seq ?_
   refine aw_block ?_
   refine aw_rs ?_
   obtain ⟨x2, hx3, h⟩ := bind_some h
   obtain ⟨hx4, hx3⟩ := rd_some hx3
   refine .v2 (f_indexS (by rfl) sl212 hx4 (rd_map _ hx3)) rfl rfl rfl ?_
   refine .v1 (f_loadR (z := (.val (.int .u64 x2))) (by rfl) ty48) rfl rfl ?_
   refine .a rfl ?_
   refine .nil (aq_then ?_)
   refine aw_r ?_
   refine .m rfl ?_
   refine .m rfl ?_
   refine .m rfl ?_
   obtain ⟨y5, hy6, h⟩ := bind_some h
   refine .w (f_callG0 (xs := [.U x2]) (r := .d (eL70 y5)) (fun i => i) [] hgl (by rfl) (cal_v (first := []) (caps := []) en154) rfl (by rfl) (by rfl) (by rfl) (by rfl) (.cons (.same _) .nil) rfl rfl (F154_tx_Body_2_ok hy6)) rfl (.c rfl (.c rfl .nil)) .nil .nil ?_
   obtain ⟨hb7, h⟩ := ifp h
   refine .w (f_appendC (m := ((z0_1 ++ y5)).length) (ys := (y5 : List Int).map eI_u8) (xs := (z0_1).map eI_u8) (zs := ((z0_1 ++ y5)).map eI_u8) 1040 (by rfl) el70 (by simp) (by simp) (by simp [List.map_drop]) (by simp) (Nat.le_trans (Nat.mul_le_mul_right _ hb7) (by decide)) (Nat.le_trans hb7 (by decide)) srcD) rfl (.c rfl (.c rfl .nil)) (.cons rfl .nil) (.cons rfl .nil) ?_
   refine .a rfl ?_
   refine .nil ?_
   refine aq_block ?_
   refine aq_then ?_
   refine aw_r ?_
   refine .b rfl rfl rfl ?_
   refine .m rfl ?_
   refine .nil ?_
   obtain rfl := Option.some.inj h
   refine aq_weak (s' := ⟨[(0, .slc 1038 0 (((z0_1 ++ y5)).length) 1), (2, .fn (.func 154) [] []), (9, .d (eL212 a0)), (10, .I ((a0).length : Int)), (11, .I (IntKind.i64.wrap (z0_0 + (1 : Int))))], [(1038, .av (.d (.arr 1 (((z0_1 ++ y5)).length) (((z0_1 ++ y5)).map eI_u8)))), (0, .dead)], []⟩) (fun i => (bif Nat.beq i 1038 then 1040 else i)) hb0 (.cons rfl (.cons rfl (.cons rfl (.cons rfl (.cons rfl .nil))))) (.cons rfl (.cons rfl .nil)) rfl (by rfl) ?_
   exact jq
  replace h := ite_f hc1 h
  refine aw_exit ?_
  refine aq_then_exit ?_
  obtain rfl := Option.some.inj h
  refine aq_k hb0 (.k 0 rfl .nil) (.k 1038 rfl (.k 0 rfl .nil)) ?_
  exact jq
 refine aq_block_exit ?_
 refine aq_then ?_
 refine aw_rs ?_
 refine .m rfl ?_
 refine .a rfl ?_
 refine .nil (aq_then ?_)
 refine aw_ret ?_
 obtain rfl := Option.some.inj h
 refine aq_k hb0 (.k 6 rfl .nil) (.k 1038 rfl (.k 0 rfl .nil)) ?_
 exact aq_fin1 (.tmp rfl (by rfl) .nil) rfl ⟨rfl, rfl⟩
def F129_tx_Body (n : Nat) (a0 : GTx) : Option ((List Int)) :=
  ((F151_api_Digest_896 n ([a0.Pub, a0.To] : List (List Int))).bind fun (y1 : List Int) => ((F153_tx_put_985 n ([a0.Nonce, a0.Amount, a0.Fee] : List Int) y1).bind fun (y3 : List Int) => some y3))
theorem F129_tx_Body_ok {n : Nat} {a0 : GTx} {r : (List Int)} (h : F129_tx_Body n a0 = some r) :
    ACall Tryz.prog GS 129 [.d (eGTx a0)] [] (fun r' hp' => r' = .d (eL70 r) ∧ hp' = []) := by
 refine acall_of_body mixed Tryz.func129 rfl (by rfl) ?_
 intro C hro hgl hb0
 unfold F129_tx_Body at h
 refine aw_rs ?_
 refine .n (f_box 1 (by rfl) (by rfl)) rfl (.c rfl .nil) rfl ?_
 refine .a rfl ?_
 refine .z ?_
 refine .v1 (f_fieldAddr (n := 0) (by rfl) fl50_0 (by decide)) rfl rfl ?_
 refine .l 1 (0 + 0) [0] (.d (eGTx a0)) (.d (eA46 a0.Pub)) ty47 ?_
 refine .v1 (f_fieldAddr (n := 32) (by rfl) fl50_1 (by decide)) rfl rfl ?_
 refine .l 1 (0 + 32) [1] (.d (eGTx a0)) (.d (eA46 a0.To)) ty47 ?_
 refine .n (f_buildS (xs := [(0, .d (eA46 a0.Pub)), (1, .d (eA46 a0.To))]) (z := (eA46 (List.replicate 32 (0 : Int)))) (zs := (([a0.Pub, a0.To] : List (List Int))).map eA46) 1030 (by rfl) el209 zel209 (by rfl) (by decide) (by decide) rfl (by rfl) ⟨_, _, _, rfl, pl209_0, rfl, rfl, ⟨_, _, _, rfl, pl209_1, rfl, rfl, trivial⟩⟩ (by rfl)) rfl (.c rfl (.c rfl .nil)) rfl ?_
 obtain ⟨y1, hy2, h⟩ := bind_some h
 refine .w (f_callH (xs := [.N, .slc 1030 0 ((([a0.Pub, a0.To] : List (List Int))).length) 32, .fn (.func 152) [] []]) (r := .slc 1035 0 ((y1).length) 1) (hw := [(1035, .av (.d (.arr 1 ((y1).length) ((y1).map eI_u8))))]) (fun i => bif Nat.beq i 1032 then 1035 else i) [(1030, (.arr 32 ((([a0.Pub, a0.To] : List (List Int))).length) ((([a0.Pub, a0.To] : List (List Int))).map eA46)))] hgl (by rfl) (cal_f en151) rfl (by rfl) (by rfl) (by rfl) (by rfl) (by rfl) (.cons (.same _) (.cons (.whole (.head _)) (.cons (.same _) .nil))) rfl rfl rfl rfl (by rfl) trivial ⟨(flat_arr fun _ => flat_val), trivial⟩ (F151_api_Digest_896_ok hy2)) rfl (.c rfl (.c rfl (.c rfl .nil))) (.cons rfl .nil) (.cons rfl .nil) ?_
 refine .a rfl ?_
 refine .z ?_
 refine .m rfl ?_
 refine .v1 (f_fieldAddr (n := 64) (by rfl) fl50_2 (by decide)) rfl rfl ?_
 refine .l 1 (0 + 64) [2] (.d (eGTx a0)) (.U a0.Nonce) ty48 ?_
 refine .v1 (f_fieldAddr (n := 65) (by rfl) fl50_3 (by decide)) rfl rfl ?_
 refine .l 1 (0 + 65) [3] (.d (eGTx a0)) (.U a0.Amount) ty48 ?_
 refine .v1 (f_fieldAddr (n := 66) (by rfl) fl50_4 (by decide)) rfl rfl ?_
 refine .l 1 (0 + 66) [4] (.d (eGTx a0)) (.U a0.Fee) ty48 ?_
 refine .n (f_buildS (xs := [(0, .U a0.Nonce), (1, .U a0.Amount), (2, .U a0.Fee)]) (z := (.val (.int .u64 (0 : Int)))) (zs := (([a0.Nonce, a0.Amount, a0.Fee] : List Int)).map eI_u64) 1036 (by rfl) el212 zel212 (by rfl) (by decide) (by decide) rfl (by rfl) ⟨_, _, _, rfl, pl212_0, rfl, rfl, ⟨_, _, _, rfl, pl212_1, rfl, rfl, ⟨_, _, _, rfl, pl212_2, rfl, rfl, trivial⟩⟩⟩ (by rfl)) rfl (.c rfl (.c rfl (.c rfl .nil))) rfl ?_
 obtain ⟨y3, hy4, h⟩ := bind_some h
 refine .w (f_callH (xs := [.slc 1035 0 ((y1).length) 1, .slc 1036 0 ((([a0.Nonce, a0.Amount, a0.Fee] : List Int)).length) 1, .fn (.func 154) [] []]) (r := .slc 1041 0 ((y3).length) 1) (hw := [(1041, .av (.d (.arr 1 ((y3).length) ((y3).map eI_u8)))), (1035, .dead)]) (fun i => bif Nat.beq i 1038 then 1041 else (bif Nat.beq i 0 then 1035 else i)) [(1036, (.arr 1 ((([a0.Nonce, a0.Amount, a0.Fee] : List Int)).length) ((([a0.Nonce, a0.Amount, a0.Fee] : List Int)).map eI_u64)))] hgl (by rfl) (cal_f en153) rfl (by rfl) (by rfl) (by rfl) (by rfl) (by rfl) (.cons (.same _) (.cons (.whole (.head _)) (.cons (.same _) .nil))) rfl rfl rfl rfl (by rfl) trivial ⟨(flat_arr fun _ => flat_val), trivial⟩ (F153_tx_put_985_ok hy4)) rfl (.c rfl (.c rfl (.c rfl .nil))) (.cons rfl (.cons rfl .nil)) (.cons rfl .nil) ?_
 refine .a rfl ?_
 refine .nil (aq_then ?_)
 refine aw_ret ?_
 obtain rfl := Option.some.inj h
 refine aq_freeze [(1041, (.arr 1 ((y3).length) ((y3).map eI_u8)))] [(2, .d (eL70 y3))] (.cons rfl .nil) (.cons rfl (.whole (.head _)) .nil) ?_
 exact aq_finp hb0 rfl (.tmp rfl (by rfl) .nil) (by rfl) rfl ⟨rfl, rfl⟩
def F115_queue_nonces_1 (n : Nat) (a0 : GTx) : Option (Int) :=
  some a0.Nonce
theorem F115_queue_nonces_1_ok {n : Nat} {a0 : GTx} {r : Int} (h : F115_queue_nonces_1 n a0 = some r) :
    ACall Tryz.prog GS 115 [.d (eGTx a0)] [] (fun r' hp' => r' = .U r ∧ hp' = []) := by
 refine acall_of_body mixed Tryz.func115 rfl (by rfl) ?_
 intro C hro hgl hb0
 unfold F115_queue_nonces_1 at h
 refine aw_rs ?_
 refine .n (f_box 1 (by rfl) (by rfl)) rfl (.c rfl .nil) rfl ?_
 refine .a rfl ?_
 refine .z ?_
 refine .v1 (f_fieldAddr (n := 64) (by rfl) fl50_2 (by decide)) rfl rfl ?_
 refine .l 1 (0 + 64) [2] (.d (eGTx a0)) (.U a0.Nonce) ty48 ?_
 refine .a rfl ?_
 refine .nil (aq_then ?_)
 refine aw_ret ?_
 obtain rfl := Option.some.inj h
 exact aq_finp hb0 rfl (.tmp rfl (by rfl) .nil) (by rfl) rfl ⟨rfl, rfl⟩
def F114_num_End (n : Nat) (a0 : (List Int)) : Option (Int) :=
  (if (decide (((a0).length : Int) > (0 : Int))) = true then some (11 : Int) else some (0 : Int))
theorem F114_num_End_ok {n : Nat} {a0 : (List Int)} {r : Int} (h : F114_num_End n a0 = some r) :
    ACall Tryz.prog GS 114 [.d (eL70 a0)] [] (fun r' hp' => r' = .I r ∧ hp' = []) := by
 refine acall_of_body mixed Tryz.func114 rfl (by rfl) ?_
 intro C hro hgl hb0
 unfold F114_num_End at h
 refine aw_rs ?_
 refine .a rfl ?_
 refine .nil (aq_then ?_)
 refine aw_seq ?_
 refine aw_rs ?_
 refine .m rfl ?_
 refine .v1 (f_lenD (n := (a0).length) (by rfl) sl70 rfl (by simp)) rfl rfl ?_
 refine .b rfl rfl rfl ?_
 refine .nil (aq_then ?_)
 refine aw_cond rfl (fun hc1 => ?_) (fun hc1 => ?_)
 ·replace h := ite_t hc1 h
  refine aw_rs ?_
  refine .a rfl ?_
  refine .nil (aq_then ?_)
  refine aw_ret ?_
  refine aq_then_ret ?_
  obtain rfl := Option.some.inj h
  exact aq_finp hb0 rfl (.tmp rfl (by rfl) .nil) (by rfl) rfl ⟨rfl, rfl⟩
 replace h := ite_f hc1 h
 refine aw_skip ?_
 refine aq_then ?_
 refine aw_rs ?_
 refine .a rfl ?_
 refine .nil (aq_then ?_)
 refine aw_ret ?_
 obtain rfl := Option.some.inj h
 exact aq_finp hb0 rfl (.tmp rfl (by rfl) .nil) (by rfl) rfl ⟨rfl, rfl⟩
def F111_tree_find_s0 (n : Nat) (a0 : GTree) (a1 : (List Int)) (z0_0 : Int) (z0_1 : Int) : Option ((Int × Int) ⊕ ((Unit) ⊕ (Int))) :=
  (if (decide (z0_0 > (0 : Int))) = true then ((rd a0.Nodes (IntKind.i64.wrap (z0_0 - (1 : Int)))).bind fun (x2 : GNode) => (if x2.Leaf = true then (if (decide (x2.Key = a1)) = true then some (.inr (.inr z0_0)) else some (.inr (.inr (0 : Int)))) else ((F145_tree_roads n x2).bind fun (y7 : (List Int)) => ((F146_tree_bit n a1 z0_1).bind fun (y9 : Int) => ((rd y7 y9).bind fun (x11 : Int) => some (.inl (x11, (IntKind.i64.wrap (z0_1 + (1 : Int)))))))))) else some (.inr (.inl ())))
def F111_tree_find (n : Nat) (a0 : GTree) (a1 : (List Int)) : Option (Int) :=
  ((loopF (fun (z : Int × Int) => F111_tree_find_s0 n a0 a1 z.1 z.2) n (a0.Root, (0 : Int))).bind (Sum.elim (fun (j14 : Unit) => some (0 : Int)) (fun (j14 : Int) => some j14)))
theorem F111_tree_find_ok {n : Nat} {a0 : GTree} {a1 : (List Int)} {r : Int} (h : F111_tree_find n a0 a1 = some r) :
    ACall Tryz.prog GS 111 [.d (eGTree a0), .d (eA46 a1)] [] (fun r' hp' => r' = .I r ∧ hp' = []) := by
 refine acall_of_body mixed Tryz.func111 rfl (by rfl) ?_
 intro C hro hgl hb0
 unfold F111_tree_find at h
 refine aw_rs ?_
 refine .n (f_box 2 (by rfl) (by rfl)) rfl (.c rfl .nil) rfl ?_
 refine .n (f_box 3 (by rfl) (by rfl)) rfl (.c rfl .nil) rfl ?_
 refine .a rfl ?_
 refine .z ?_
 refine .v1 (f_fieldAddr (n := 1) (by rfl) fl27_1 (by decide)) rfl rfl ?_
 refine .l 2 (0 + 1) [1] (.d (eGTree a0)) (.I a0.Root) ty3 ?_
 refine .a rfl ?_
 refine .nil (aq_then ?_)
 refine aw_seq ?_
 refine aw_rs ?_
 refine .a rfl ?_
 refine .nil (aq_then ?_)
 refine aw_block ?_
 refine aw_k hb0 (.k 2 rfl (.k 3 rfl (.k 5 rfl (.k 6 rfl .nil)))) (.k 2 rfl (.k 3 rfl .nil)) ?_
 obtain ⟨o14, ho15, h⟩ := bind_some h
 refine aw_loopX (σ := Int × Int) (fun z => ⟨[(2, .ptr 2 0 []), (3, .ptr 3 0 []), (5, .I z.1), (6, .I z.2)], [(2, .av (.d (eGTree a0))), (3, .av (.d (eA46 a1)))], []⟩) (Sum.elim (fun _ => .exit 0) (fun _ => .ret)) (Sum.elim (fun j14 => ⟨[], [], []⟩) (fun j14 => ⟨[(4, .I j14)], [], []⟩)) ho15 (by intro b; rcases b with _ | _ <;> rfl) ?_ ?_
 ·clear h ho15
  rintro ⟨z0_0, z0_1⟩ o h
  change F111_tree_find_s0 n a0 a1 z0_0 z0_1 = some o at h
  unfold F111_tree_find_s0 at h
  show AW _ _ _ ⟨[(2, .ptr 2 0 []), (3, .ptr 3 0 []), (5, .I z0_0), (6, .I z0_1)], [(2, .av (.d (eGTree a0))), (3, .av (.d (eA46 a1)))], []⟩
  refine aw_seq ?_
  refine aw_rs ?_
  refine .m rfl ?_
  refine .b rfl rfl rfl ?_
  refine .nil (aq_then ?_)
  refine aw_cond rfl (fun hc1 => ?_) (fun hc1 => ?_)
  ·replace h := ite_t hc1 h
   refine aw_skip ?_
   refine aq_then ?_
   refine aw_seq ?_
   refine aw_block ?_
   refine aw_rs ?_
   refine .v1 (f_fieldAddr (n := 0) (by rfl) fl27_0 (by decide)) rfl rfl ?_
   refine .l 2 (0 + 0) [0] (.d (eGTree a0)) (.d (eL25 a0.Nodes)) ty25 ?_
   refine .m rfl ?_
   refine .b rfl rfl rfl ?_
   obtain ⟨x2, hx3, h⟩ := bind_some h
   obtain ⟨hx4, hx3⟩ := rd_some hx3
   refine .v2 (f_indexS (by rfl) sl25 hx4 (rd_map _ hx3)) rfl rfl rfl ?_
   refine .v1 (f_loadR (z := (eGNode x2)) (by rfl) ty72) rfl rfl ?_
   refine .n (f_alloc 7 (by rfl) zrv72) rfl .nil rfl ?_
   refine .s (f_store (n := 0) (o := 7) (off := 0) (p := []) (c := .st [.B false, .d (eA46 (List.replicate 32 (0 : Int))), .N, .I (0 : Int), .I (0 : Int)]) (old := .st [.B false, .d (eA46 (List.replicate 32 (0 : Int))), .N, .I (0 : Int), .I (0 : Int)]) (z := .d (eGNode x2)) (c' := .d (eGNode x2)) rfl rfl (by rfl) ty72 (by rfl)) rfl (.c rfl (.c rfl .nil)) (.cons rfl .nil) ?_
   refine .nil (aq_then ?_)
   refine aw_seq ?_
   refine aw_rs ?_
   refine .v1 (f_fieldAddr (n := 0) (by rfl) fl72_0 (by decide)) rfl rfl ?_
   refine .l 7 (0 + 0) [0] (.d (eGNode x2)) (.B x2.Leaf) ty4 ?_
   refine .nil (aq_then ?_)
   refine aw_cond rfl (fun hc5 => ?_) (fun hc5 => ?_)
   ·replace h := ite_t hc5 h
    refine aw_seq ?_
    refine aw_rs ?_
    refine .v1 (f_fieldAddr (n := 1) (by rfl) fl72_1 (by decide)) rfl rfl ?_
    refine .l 7 (0 + 1) [1] (.d (eGNode x2)) (.d (eA46 x2.Key)) ty47 ?_
    refine .l 3 0 [] (.d (eA46 a1)) (.d (eA46 a1)) ty47 ?_
    refine .v2 (f_eqlT (by rfl) (fit47 _) (fit47 _) (by rfl) (by rfl) gd47 (eq_eA46 _ _)) rfl rfl rfl ?_
    refine .nil (aq_then ?_)
    refine aw_cond rfl (fun hc6 => ?_) (fun hc6 => ?_)
    ·replace h := ite_t hc6 h
     refine aw_rs ?_
     refine .m rfl ?_
     refine .a rfl ?_
     refine .nil (aq_then ?_)
     refine aw_ret ?_
     refine aq_then_ret ?_
     refine aq_then_ret ?_
     refine aq_block_ret ?_
     refine aq_then_ret ?_
     obtain rfl := Option.some.inj h
     refine aq_k hb0 (.k 4 rfl .nil) .nil ?_
     exact jq
    replace h := ite_f hc6 h
    refine aw_skip ?_
    refine aq_then ?_
    refine aw_rs ?_
    refine .a rfl ?_
    refine .nil (aq_then ?_)
    refine aw_ret ?_
    refine aq_then_ret ?_
    refine aq_block_ret ?_
    refine aq_then_ret ?_
    obtain rfl := Option.some.inj h
    refine aq_k hb0 (.k 4 rfl .nil) .nil ?_
    exact jq
   replace h := ite_f hc5 h
   refine aw_skip ?_
   refine aq_then ?_
   refine aw_rd ?_
   refine .v (f_load (n := 0) (o := 7) (off := 0) (p := []) (c := .d (eGNode x2)) (z := .d (eGNode x2)) (by rfl) rfl ty72 (by rfl)) rfl (.c rfl .nil) (.cons rfl .nil) ?_
   obtain ⟨y7, hy8, h⟩ := bind_some h
   refine .v1 (f_callP hgl (by rfl) en145 rfl (by rfl) (by rfl) (by rfl) (F145_tree_roads_ok hy8)) rfl rfl ?_
   refine .v (f_load (n := 0) (o := 3) (off := 0) (p := []) (c := .d (eA46 a1)) (z := .d (eA46 a1)) (by rfl) rfl ty47 (by rfl)) rfl (.c rfl .nil) (.cons rfl .nil) ?_
   refine .v1 (f_move (by rfl)) rfl rfl ?_
   obtain ⟨y9, hy10, h⟩ := bind_some h
   refine .v2 (f_callP hgl (by rfl) en146 rfl (by rfl) (by rfl) (by rfl) (F146_tree_bit_ok hy10)) rfl rfl rfl ?_
   obtain ⟨x11, hx12, h⟩ := bind_some h
   obtain ⟨hx13, hx12⟩ := rd_some hx12
   refine .v2 (f_indexV (z := (.val (.int .i64 x11))) (by rfl) uda201 ty3 hx13 (rd_map eI_i64 hx12)) rfl rfl rfl ?_
   refine .v1 (f_assign (by rfl)) rfl rfl ?_
   refine .nil (by kernel_rfl) ?_
   refine aq_block ?_
   refine aq_then ?_
   refine aw_r ?_
   refine .m rfl ?_
   refine .b rfl rfl rfl ?_
   refine .a rfl ?_
   refine .nil ?_
   obtain rfl := Option.some.inj h
   refine aq_k hb0 (.k 2 rfl (.k 3 rfl (.k 5 rfl (.k 6 rfl .nil)))) (.k 2 rfl (.k 3 rfl .nil)) ?_
   exact jq
  replace h := ite_f hc1 h
  refine aw_exit ?_
  refine aq_then_exit ?_
  obtain rfl := Option.some.inj h
  refine aq_k hb0 .nil .nil ?_
  exact jq
 rcases o14 with j14 | j14
 ·replace h := elim_l h
  refine aq_block_exit ?_
  refine aq_then ?_
  refine aw_rs ?_
  refine .a rfl ?_
  refine .nil (aq_then ?_)
  refine aw_ret ?_
  obtain rfl := Option.some.inj h
  exact aq_finp hb0 rfl (.tmp rfl (by rfl) .nil) (by rfl) rfl ⟨rfl, rfl⟩
 replace h := elim_r h
 refine aq_block_ret ?_
 refine aq_then_ret ?_
 obtain rfl := Option.some.inj h
 exact aq_finp hb0 rfl (.tmp rfl (by rfl) .nil) (by rfl) rfl ⟨rfl, rfl⟩
def F107_path_apart (n : Nat) (a0 : (List Int)) (a1 : (List Int)) : Option ((List Int) × (List Int)) :=
  some (a0, a1)
def F104_tag_Of (n : Nat) (a0 : Int) (a1 : (List (List Int))) : Option ((List Int)) :=
  ((F139_tag_Bytes n a0 a1).bind fun (y1 : (List Int)) => ((F138_sha_Of n ([y1] : List (List Int))).bind fun (y3 : (List Int)) => some y3))
theorem F104_tag_Of_ok {n : Nat} {a0 : Int} {a1 : (List (List Int))} {r : (List Int)} (h : F104_tag_Of n a0 a1 = some r) :
    ACall Tryz.prog GS 104 [.d (.val (.int .u8 a0)), .d (eL191 a1)] [] (fun r' hp' => r' = .d (eA46 r) ∧ hp' = []) := by
 refine acall_of_body mixed Tryz.func104 rfl (by rfl) ?_
 intro C hro hgl hb0
 unfold F104_tag_Of at h
 refine aw_rs ?_
 refine .n (f_alloc 4 (by rfl) zr47) rfl .nil rfl ?_
 refine .z ?_
 refine .m rfl ?_
 refine .m rfl ?_
 obtain ⟨y1, hy2, h⟩ := bind_some h
 refine .v2 (f_callP hgl (by rfl) en139 rfl (by rfl) (by rfl) (by rfl) (F139_tag_Bytes_ok hy2)) rfl rfl rfl ?_
 refine .n (f_buildS (xs := [(0, .d (eL70 y1))]) (z := (.val (.slice none 0 0))) (zs := (([y1] : List (List Int))).map eL70) 1044 (by rfl) el191 zel191 (by rfl) (by decide) (by decide) rfl (by rfl) ⟨_, _, _, rfl, pl191_0, rfl, rfl, trivial⟩ (by rfl)) rfl (.c rfl .nil) rfl ?_
 obtain ⟨y3, hy4, h⟩ := bind_some h
 refine .w (f_callH0 (xs := [.slc 1044 0 ((([y1] : List (List Int))).length) 1]) (r := .d (eA46 y3)) (hr := []) (fun i => i) [(1044, (.arr 1 ((([y1] : List (List Int))).length) ((([y1] : List (List Int))).map eL70)))] hgl (by rfl) (cal_f en138) rfl (by rfl) (by rfl) (by rfl) (by rfl) (by rfl) (.cons (.whole (.head _)) .nil) rfl rfl (fl_eA46 _) trivial (F138_sha_Of_ok hy4)) rfl (.c rfl .nil) (.cons rfl .nil) .nil ?_
 refine .s (f_store (n := 0) (o := 4) (off := 0) (p := []) (c := .d (eA46 (List.replicate 32 (0 : Int)))) (old := .d (eA46 (List.replicate 32 (0 : Int)))) (z := .d (eA46 y3)) (c' := .d (eA46 y3)) rfl rfl (by rfl) ty47 (by rfl)) rfl (.c rfl (.c rfl .nil)) (.cons rfl .nil) ?_
 refine .nil (aq_then ?_)
 refine aw_ret ?_
 obtain rfl := Option.some.inj h
 exact aq_finp hb0 rfl (.cell rfl rfl ty47 (by rfl) .nil) (by rfl) rfl ⟨rfl, rfl⟩
def F98_shard_Count_s0 (a0 : GShard) (z0_0 : Int) (z0_1 : Int) : Option ((Int × Int) ⊕ (Int)) :=
  (if (decide (z0_1 < ((a0.Lines).length : Int))) = true then ((rd a0.Lines z0_1).bind fun (x2 : GLine) => some (.inl ((IntKind.i64.wrap (z0_0 + ((x2.Txs).length : Int))), (IntKind.i64.wrap (z0_1 + (1 : Int)))))) else some (.inr z0_0))
def F98_shard_Count (n : Nat) (a0 : GShard) : Option (Int) :=
  ((loopF (fun (z : Int × Int) => F98_shard_Count_s0 a0 z.1 z.2) n ((0 : Int), (0 : Int))).bind fun (o5 : Int) => some o5)
theorem F98_shard_Count_ok {n : Nat} {a0 : GShard} {r : Int} (h : F98_shard_Count n a0 = some r) :
    ACall Tryz.prog GS 98 [.d (eGShard a0)] [] (fun r' hp' => r' = .I r ∧ hp' = []) := by
 refine acall_of_body mixed Tryz.func98 rfl (by rfl) ?_
 intro C hro hgl hb0
 unfold F98_shard_Count at h
 refine aw_rs ?_
 refine .n (f_box 1 (by rfl) (by rfl)) rfl (.c rfl .nil) rfl ?_
 refine .a rfl ?_
 refine .nil (aq_then ?_)
 refine aw_seq ?_
 refine aw_rs ?_
 refine .v1 (f_fieldAddr (n := 0) (by rfl) fl24_0 (by decide)) rfl rfl ?_
 refine .l 1 (0 + 0) [0] (.d (eGShard a0)) (.d (eL22 a0.Lines)) ty22 ?_
 refine .v1 (f_lenD (n := (a0.Lines).length) (by rfl) sl22 rfl (by simp)) rfl rfl ?_
 refine .m rfl ?_
 refine .nil (aq_then ?_)
 refine aw_block ?_
 refine aw_k hb0 (.k 2 rfl (.k 6 rfl (.k 7 rfl (.k 8 rfl .nil)))) .nil ?_
 obtain ⟨o5, ho6, h⟩ := bind_some h
 refine aw_loopX (σ := Int × Int) (fun z => ⟨[(2, .I z.1), (6, .d (eL22 a0.Lines)), (7, .I ((a0.Lines).length : Int)), (8, .I z.2)], [], []⟩) (fun _ => (.exit 0)) (fun (o5 : Int) => ⟨[(2, .I o5)], [], []⟩) ho6 (fun _ => rfl) ?_ ?_
 ·clear h ho6
  rintro ⟨z0_0, z0_1⟩ o h
  change F98_shard_Count_s0 a0 z0_0 z0_1 = some o at h
  unfold F98_shard_Count_s0 at h
  show AW _ _ _ ⟨[(2, .I z0_0), (6, .d (eL22 a0.Lines)), (7, .I ((a0.Lines).length : Int)), (8, .I z0_1)], [], []⟩
  refine aw_rs ?_
  refine .b rfl rfl rfl ?_
  refine .nil (aq_then ?_)
  refine aw_seq ?_
  refine aw_cond rfl (fun hc1 => ?_) (fun hc1 => ?_)
  ·replace h := ite_t hc1 h
   refine aw_skip ?_
   refine aq_then ?_
   refine aw_seq ?_
   refine aw_block ?_
   refine aw_rs ?_
   obtain ⟨x2, hx3, h⟩ := bind_some h
   obtain ⟨hx4, hx3⟩ := rd_some hx3
   refine .v2 (f_indexS (by rfl) sl22 hx4 (rd_map _ hx3)) rfl rfl rfl ?_
   refine .v1 (f_loadR (z := (eGLine x2)) (by rfl) ty69) rfl rfl ?_
   refine .n (f_alloc 4 (by rfl) zrv69) rfl .nil rfl ?_
   refine .s (f_store (n := 0) (o := 4) (off := 0) (p := []) (c := .st [.d (eA46 (List.replicate 32 (0 : Int))), .N]) (old := .st [.d (eA46 (List.replicate 32 (0 : Int))), .N]) (z := .d (eGLine x2)) (c' := .d (eGLine x2)) rfl rfl (by rfl) ty69 (by rfl)) rfl (.c rfl (.c rfl .nil)) (.cons rfl .nil) ?_
   refine .nil (aq_then ?_)
   refine aw_r ?_
   refine .m rfl ?_
   refine .v1 (f_fieldAddr (n := 32) (by rfl) fl69_1 (by decide)) rfl rfl ?_
   refine .l 4 (0 + 32) [1] (.d (eGLine x2)) (.d (eL28 x2.Txs)) ty28 ?_
   refine .v1 (f_lenD (n := (x2.Txs).length) (by rfl) sl28 rfl (by simp)) rfl rfl ?_
   refine .b rfl rfl rfl ?_
   refine .a rfl ?_
   refine .nil ?_
   refine aq_block ?_
   refine aq_then ?_
   refine aw_r ?_
   refine .b rfl rfl rfl ?_
   refine .m rfl ?_
   refine .nil ?_
   obtain rfl := Option.some.inj h
   refine aq_k hb0 (.k 2 rfl (.k 6 rfl (.k 7 rfl (.k 8 rfl .nil)))) .nil ?_
   exact jq
  replace h := ite_f hc1 h
  refine aw_exit ?_
  refine aq_then_exit ?_
  obtain rfl := Option.some.inj h
  refine aq_k hb0 (.k 2 rfl .nil) .nil ?_
  exact jq
 refine aq_block_exit ?_
 refine aq_then ?_
 refine aw_rs ?_
 refine .m rfl ?_
 refine .a rfl ?_
 refine .nil (aq_then ?_)
 refine aw_ret ?_
 obtain rfl := Option.some.inj h
 exact aq_finp hb0 rfl (.tmp rfl (by rfl) .nil) (by rfl) rfl ⟨rfl, rfl⟩
def F89_tx_sign (n : Nat) (a0 : GTx) : Option ((List Int)) :=
  ((F129_tx_Body n a0).bind fun (y1 : (List Int)) => ((F104_tag_Of n (4 : Int) ([y1] : List (List Int))).bind fun (y3 : (List Int)) => some y3))
theorem F89_tx_sign_ok {n : Nat} {a0 : GTx} {r : (List Int)} (h : F89_tx_sign n a0 = some r) :
    ACall Tryz.prog GS 89 [.d (eGTx a0)] [] (fun r' hp' => r' = .d (eA46 r) ∧ hp' = []) := by
 refine acall_of_body mixed Tryz.func89 rfl (by rfl) ?_
 intro C hro hgl hb0
 unfold F89_tx_sign at h
 refine aw_rs ?_
 refine .n (f_box 1 (by rfl) (by rfl)) rfl (.c rfl .nil) rfl ?_
 refine .n (f_alloc 2 (by rfl) zr47) rfl .nil rfl ?_
 refine .z ?_
 refine .l 1 0 [] (.d (eGTx a0)) (.d (eGTx a0)) ty50 ?_
 obtain ⟨y1, hy2, h⟩ := bind_some h
 refine .v1 (f_callP hgl (by rfl) en129 rfl (by rfl) (by rfl) (by rfl) (F129_tx_Body_ok hy2)) rfl rfl ?_
 refine .n (f_buildS (xs := [(0, .d (eL70 y1))]) (z := (.val (.slice none 0 0))) (zs := (([y1] : List (List Int))).map eL70) 1045 (by rfl) el191 zel191 (by rfl) (by decide) (by decide) rfl (by rfl) ⟨_, _, _, rfl, pl191_0, rfl, rfl, trivial⟩ (by rfl)) rfl (.c rfl .nil) rfl ?_
 obtain ⟨y3, hy4, h⟩ := bind_some h
 refine .w (f_callH0 (xs := [.d (.val (.int .u8 (4 : Int))), .slc 1045 0 ((([y1] : List (List Int))).length) 1]) (r := .d (eA46 y3)) (hr := []) (fun i => i) [(1045, (.arr 1 ((([y1] : List (List Int))).length) ((([y1] : List (List Int))).map eL70)))] hgl (by rfl) (cal_f en104) rfl (by rfl) (by rfl) (by rfl) (by rfl) (by rfl) (.cons (.same _) (.cons (.whole (.head _)) .nil)) rfl rfl (fl_eA46 _) trivial (F104_tag_Of_ok hy4)) rfl (.c rfl (.c rfl .nil)) (.cons rfl .nil) .nil ?_
 refine .s (f_store (n := 0) (o := 2) (off := 0) (p := []) (c := .d (eA46 (List.replicate 32 (0 : Int)))) (old := .d (eA46 (List.replicate 32 (0 : Int)))) (z := .d (eA46 y3)) (c' := .d (eA46 y3)) rfl rfl (by rfl) ty47 (by rfl)) rfl (.c rfl (.c rfl .nil)) (.cons rfl .nil) ?_
 refine .nil (aq_then ?_)
 refine aw_ret ?_
 obtain rfl := Option.some.inj h
 exact aq_finp hb0 rfl (.cell rfl rfl ty47 (by rfl) .nil) (by rfl) rfl ⟨rfl, rfl⟩
def F43_tx_Check (n : Nat) (a0 : GTx) : Option (Int) :=
  ((F89_tx_sign n a0).bind fun (y1 : (List Int)) => (if (!(decide (a0.Sign = y1))) = true then some (110 : Int) else some (0 : Int)))
theorem F43_tx_Check_ok {n : Nat} {a0 : GTx} {r : Int} (h : F43_tx_Check n a0 = some r) :
    ACall Tryz.prog GS 43 [.d (eGTx a0)] [] (fun r' hp' => r' = .I r ∧ hp' = []) := by
 refine acall_of_body mixed Tryz.func43 rfl (by rfl) ?_
 intro C hro hgl hb0
 unfold F43_tx_Check at h
 refine aw_rs ?_
 refine .n (f_box 1 (by rfl) (by rfl)) rfl (.c rfl .nil) rfl ?_
 refine .a rfl ?_
 refine .nil (aq_then ?_)
 refine aw_seq ?_
 refine aw_rds ?_
 refine .v1 (f_fieldAddr (n := 67) (by rfl) fl50_5 (by decide)) rfl rfl ?_
 refine .v (f_load (n := 0) (o := 1) (off := (0 + 67)) (p := [5]) (c := .d (eGTx a0)) (z := .d (eA46 a0.Sign)) (by rfl) rfl ty47 (by rfl)) rfl (.c rfl .nil) (.cons rfl .nil) ?_
 refine .v (f_load (n := 0) (o := 1) (off := 0) (p := []) (c := .d (eGTx a0)) (z := .d (eGTx a0)) (by rfl) rfl ty50 (by rfl)) rfl (.c rfl .nil) (.cons rfl .nil) ?_
 obtain ⟨y1, hy2, h⟩ := bind_some h
 refine .v1 (f_callP hgl (by rfl) en89 rfl (by rfl) (by rfl) (by rfl) (F89_tx_sign_ok hy2)) rfl rfl ?_
 refine .v2 (f_neqT (by rfl) (fit47 _) (fit47 _) (by rfl) (by rfl) gd47 (eq_eA46 _ _)) rfl rfl rfl ?_
 refine .nil (by kernel_rfl) ?_
 refine aw_cond rfl (fun hc3 => ?_) (fun hc3 => ?_)
 ·replace h := ite_t hc3 h
  refine aw_rs ?_
  refine .a rfl ?_
  refine .nil (aq_then ?_)
  refine aw_ret ?_
  refine aq_then_ret ?_
  obtain rfl := Option.some.inj h
  exact aq_finp hb0 rfl (.tmp rfl (by rfl) .nil) (by rfl) rfl ⟨rfl, rfl⟩
 replace h := ite_f hc3 h
 refine aw_skip ?_
 refine aq_then ?_
 refine aw_rs ?_
 refine .a rfl ?_
 refine .nil (aq_then ?_)
 refine aw_ret ?_
 obtain rfl := Option.some.inj h
 exact aq_finp hb0 rfl (.tmp rfl (by rfl) .nil) (by rfl) rfl ⟨rfl, rfl⟩
def F63_acct_Key (n : Nat) (a0 : (List Int)) : Option ((List Int)) :=
  ((F104_tag_Of n (3 : Int) ([a0] : List (List Int))).bind fun (y1 : (List Int)) => some y1)
theorem F63_acct_Key_ok {n : Nat} {a0 : (List Int)} {r : (List Int)} (h : F63_acct_Key n a0 = some r) :
    ACall Tryz.prog GS 63 [.d (eA46 a0)] [] (fun r' hp' => r' = .d (eA46 r) ∧ hp' = []) := by
 refine acall_of_body mixed Tryz.func63 rfl (by rfl) ?_
 intro C hro hgl hb0
 unfold F63_acct_Key at h
 refine aw_rs ?_
 refine .n (f_box 1 (by rfl) (by rfl)) rfl (.c rfl .nil) rfl ?_
 refine .n (f_alloc 2 (by rfl) zr47) rfl .nil rfl ?_
 refine .z ?_
 refine .v (f_sliceA (by rfl) ar47) rfl (.c rfl .nil) (.cons rfl .nil) ?_
 refine R.freeze [(1, (eA46 a0))] [(2, .ptr 2 0 []), (3, .d (eL70 a0))] (.cons rfl .nil) (.keep rfl (.cons rfl (.whole (.head _)) .nil)) ?_
 refine .n (f_buildS (xs := [(0, .d (eL70 a0))]) (z := (.val (.slice none 0 0))) (zs := (([a0] : List (List Int))).map eL70) 1046 (by rfl) el191 zel191 (by rfl) (by decide) (by decide) rfl (by rfl) ⟨_, _, _, rfl, pl191_0, rfl, rfl, trivial⟩ (by rfl)) rfl (.c rfl .nil) rfl ?_
 obtain ⟨y1, hy2, h⟩ := bind_some h
 refine .w (f_callH0 (xs := [.d (.val (.int .u8 (3 : Int))), .slc 1046 0 ((([a0] : List (List Int))).length) 1]) (r := .d (eA46 y1)) (hr := []) (fun i => i) [(1046, (.arr 1 ((([a0] : List (List Int))).length) ((([a0] : List (List Int))).map eL70)))] hgl (by rfl) (cal_f en104) rfl (by rfl) (by rfl) (by rfl) (by rfl) (by rfl) (.cons (.same _) (.cons (.whole (.head _)) .nil)) rfl rfl (fl_eA46 _) trivial (F104_tag_Of_ok hy2)) rfl (.c rfl (.c rfl .nil)) (.cons rfl .nil) .nil ?_
 refine .s (f_store (n := 0) (o := 2) (off := 0) (p := []) (c := .d (eA46 (List.replicate 32 (0 : Int)))) (old := .d (eA46 (List.replicate 32 (0 : Int)))) (z := .d (eA46 y1)) (c' := .d (eA46 y1)) rfl rfl (by rfl) ty47 (by rfl)) rfl (.c rfl (.c rfl .nil)) (.cons rfl .nil) ?_
 refine .nil (aq_then ?_)
 refine aw_ret ?_
 obtain rfl := Option.some.inj h
 exact aq_finp hb0 rfl (.cell rfl rfl ty47 (by rfl) .nil) (by rfl) rfl ⟨rfl, rfl⟩
def F27_tx_From (n : Nat) (a0 : GTx) : Option ((List Int)) :=
  ((F63_acct_Key n a0.Pub).bind fun (y1 : (List Int)) => some y1)
theorem F27_tx_From_ok {n : Nat} {a0 : GTx} {r : (List Int)} (h : F27_tx_From n a0 = some r) :
    ACall Tryz.prog GS 27 [.d (eGTx a0)] [] (fun r' hp' => r' = .d (eA46 r) ∧ hp' = []) := by
 refine acall_of_body mixed Tryz.func27 rfl (by rfl) ?_
 intro C hro hgl hb0
 unfold F27_tx_From at h
 refine aw_rs ?_
 refine .n (f_box 1 (by rfl) (by rfl)) rfl (.c rfl .nil) rfl ?_
 refine .n (f_alloc 2 (by rfl) zr47) rfl .nil rfl ?_
 refine .z ?_
 refine .v1 (f_fieldAddr (n := 0) (by rfl) fl50_0 (by decide)) rfl rfl ?_
 refine .l 1 (0 + 0) [0] (.d (eGTx a0)) (.d (eA46 a0.Pub)) ty47 ?_
 obtain ⟨y1, hy2, h⟩ := bind_some h
 refine .v1 (f_callP hgl (by rfl) en63 rfl (by rfl) (by rfl) (by rfl) (F63_acct_Key_ok hy2)) rfl rfl ?_
 refine .s (f_store (n := 0) (o := 2) (off := 0) (p := []) (c := .d (eA46 (List.replicate 32 (0 : Int)))) (old := .d (eA46 (List.replicate 32 (0 : Int)))) (z := .d (eA46 y1)) (c' := .d (eA46 y1)) rfl rfl (by rfl) ty47 (by rfl)) rfl (.c rfl (.c rfl .nil)) (.cons rfl .nil) ?_
 refine .nil (aq_then ?_)
 refine aw_ret ?_
 obtain rfl := Option.some.inj h
 exact aq_finp hb0 rfl (.cell rfl rfl ty47 (by rfl) .nil) (by rfl) rfl ⟨rfl, rfl⟩
def F90_queue_own (n : Nat) (a0 : GTx) (a1 : (List Int)) : Option (Bool) :=
  ((((F43_tx_Check n a0).bind fun (y1 : Int) => (if (y1 == (0 : Int)) = true then ((F27_tx_From n a0).bind fun (y4 : (List Int)) => some (decide (y4 = a1))) else some false))).bind fun (o6 : Bool) => some o6)
theorem F90_queue_own_ok {n : Nat} {a0 : GTx} {a1 : (List Int)} {r : Bool} (h : F90_queue_own n a0 a1 = some r) :
    ACall Tryz.prog GS 90 [.d (eGTx a0), .d (eA46 a1)] [] (fun r' hp' => r' = .B r ∧ hp' = []) := by
 refine acall_of_body mixed Tryz.func90 rfl (by rfl) ?_
 intro C hro hgl hb0
 unfold F90_queue_own at h
 refine aw_rs ?_
 refine .n (f_box 2 (by rfl) (by rfl)) rfl (.c rfl .nil) rfl ?_
 refine .n (f_box 3 (by rfl) (by rfl)) rfl (.c rfl .nil) rfl ?_
 refine .a rfl ?_
 refine .nil (aq_then ?_)
 refine aw_seq ?_
 obtain ⟨o6, ho7, h⟩ := bind_some h
 refine aw_join (.normal) ⟨[(4, .B o6)], [], []⟩ ?_ ?_
 ·replace h := ho7
  refine aw_rd ?_
  refine .v (f_load (n := 0) (o := 2) (off := 0) (p := []) (c := .d (eGTx a0)) (z := .d (eGTx a0)) (by rfl) rfl ty50 (by rfl)) rfl (.c rfl .nil) (.cons rfl .nil) ?_
  obtain ⟨y1, hy2, h⟩ := bind_some h
  refine .v1 (f_callP hgl (by rfl) en43 rfl (by rfl) (by rfl) (by rfl) (F43_tx_Check_ok hy2)) rfl rfl ?_
  refine .v2 (f_binI (by rfl) rfl (by rfl)) rfl rfl rfl ?_
  refine .v1 (f_move (by rfl)) rfl rfl ?_
  rcases Bool.eq_false_or_eq_true (y1 == (0 : Int)) with hc3 | hc3
  ·replace h := ite_t hc3 h
   refine .gv (f_load (n := 0) (o := 2) (off := 0) (p := []) (c := .d (eGTx a0)) (z := .d (eGTx a0)) (by rfl) rfl ty50 (by rfl)) rfl rfl rfl hc3 (.c rfl .nil) (.cons rfl .nil) ?_
   obtain ⟨y4, hy5, h⟩ := bind_some h
   refine .g1 (f_callP hgl (by rfl) en27 rfl (by rfl) (by rfl) (by rfl) (F27_tx_From_ok hy5)) rfl rfl rfl hc3 rfl ?_
   refine .gv (f_load (n := 0) (o := 3) (off := 0) (p := []) (c := .d (eA46 a1)) (z := .d (eA46 a1)) (by rfl) rfl ty47 (by rfl)) rfl rfl rfl hc3 (.c rfl .nil) (.cons rfl .nil) ?_
   refine .g2 (f_eqlT (by rfl) (fit47 _) (fit47 _) (by rfl) (by rfl) gd47 (eq_eA46 _ _)) rfl rfl rfl hc3 rfl rfl ?_
   refine .v2 (f_pick_true (by rfl) hc3) rfl rfl rfl ?_
   refine .v1 (f_assign (by rfl)) rfl rfl ?_
   refine .nil (by kernel_rfl) ?_
   obtain rfl := Option.some.inj h
   refine aq_k hb0 (.k 4 rfl .nil) .nil ?_
   exact jq
  replace h := ite_f hc3 h
  refine .q rfl rfl rfl hc3 rfl ?_
  refine .q rfl rfl rfl hc3 rfl ?_
  refine .q rfl rfl rfl hc3 rfl ?_
  refine .q rfl rfl rfl hc3 rfl ?_
  refine .v2 (f_pick_false (by rfl) hc3) rfl rfl rfl ?_
  refine .v1 (f_assign (by rfl)) rfl rfl ?_
  refine .nil (by kernel_rfl) ?_
  obtain rfl := Option.some.inj h
  refine aq_k hb0 (.k 4 rfl .nil) .nil ?_
  exact jq
 refine aq_then ?_
 refine aw_ret ?_
 obtain rfl := Option.some.inj h
 exact aq_finp hb0 rfl (.tmp rfl (by rfl) .nil) (by rfl) rfl ⟨rfl, rfl⟩
def F75_queue_run (n : Nat) (a0 : GLine) (a1 : Int) : Option (GLine × Int) :=
  some (a0, a1)
theorem F75_queue_run_ok {n : Nat} {a0 : GLine} {a1 : Int} {r : GLine × Int} (h : F75_queue_run n a0 a1 = some r) :
    ACall Tryz.prog GS 75 [.d (eGLine a0), .U a1] [] (fun r' hp' => r' = .fn (.func 116) [] [.ptr 2 0 [], .ptr 3 0 []] ∧ hp' = [(2, .av (.d (eGLine r.1))), (3, .av (.U r.2))]) := by
 refine acall_of_body mixed Tryz.func75 rfl (by rfl) ?_
 intro C hro hgl hb0
 unfold F75_queue_run at h
 refine aw_rs ?_
 refine .n (f_box 2 (by rfl) (by rfl)) rfl (.c rfl .nil) rfl ?_
 refine .n (f_box 3 (by rfl) (by rfl)) rfl (.c rfl .nil) rfl ?_
 refine .a rfl ?_
 refine .z ?_
 refine .v2 (f_makeFunc (xs := []) (ys := [.ptr 2 0 [], .ptr 3 0 []]) (by rfl) rfl rfl (by rfl) (by rfl)) rfl rfl rfl ?_
 refine .a rfl ?_
 refine .nil (aq_then ?_)
 refine aw_ret ?_
 obtain rfl := Option.some.inj h
 refine aq_k hb0 (.k 4 rfl .nil) (.k 2 rfl (.k 3 rfl .nil)) ?_
 exact aq_fin1 (.tmp rfl (by rfl) .nil) rfl ⟨rfl, rfl⟩
def F72_queue_nonces (n : Nat) (a0 : GLine) : Option ((List GTx)) :=
  some a0.Txs
theorem F72_queue_nonces_ok {n : Nat} {a0 : GLine} {r : (List GTx)} (h : F72_queue_nonces n a0 = some r) :
    ACall Tryz.prog GS 72 [.d (eGLine a0)] [] (fun r' hp' => r' = .st [.d (eL28 r), .fn (.func 115) [] []] ∧ hp' = [(2, .av (.st [.d (eL28 r), .fn (.func 115) [] []]))]) := by
 refine acall_of_body mixed Tryz.func72 rfl (by rfl) ?_
 intro C hro hgl hb0
 unfold F72_queue_nonces at h
 refine aw_rs ?_
 refine .n (f_box 1 (by rfl) (by rfl)) rfl (.c rfl .nil) rfl ?_
 refine .n (f_alloc 2 (by rfl) zrv130) rfl .nil rfl ?_
 refine .z ?_
 refine .v1 (f_fieldAddr (n := 32) (by rfl) fl69_1 (by decide)) rfl rfl ?_
 refine .l 1 (0 + 32) [1] (.d (eGLine a0)) (.d (eL28 a0.Txs)) ty28 ?_
 refine .v2 (f_build (xs := [(0, .d (eL28 a0.Txs)), (1, .fn (.func 115) [] [])]) (z' := .st [.d (eL28 a0.Txs), .fn (.func 115) [] []]) (by rfl) zrv130 ag130 rfl (by rfl) ⟨_, _, _, rfl, pl130_0, rfl, rfl, ⟨_, _, _, rfl, pl130_1, rfl, rfl, trivial⟩⟩ (by rfl) (by rfl)) rfl rfl rfl ?_
 refine .s (f_store (n := 0) (o := 2) (off := 0) (p := []) (c := .st [.N, .d (.val .nilFunc)]) (old := .st [.N, .d (.val .nilFunc)]) (z := .st [.d (eL28 a0.Txs), .fn (.func 115) [] []]) (c' := .st [.d (eL28 a0.Txs), .fn (.func 115) [] []]) rfl rfl (by rfl) ty130 (by rfl)) rfl (.c rfl (.c rfl .nil)) (.cons rfl .nil) ?_
 refine .nil (aq_then ?_)
 refine aw_ret ?_
 obtain rfl := Option.some.inj h
 refine aq_k hb0 (.k 2 rfl .nil) (.k 2 rfl .nil) ?_
 exact aq_fin1 (.cell rfl rfl ty130 (by rfl) .nil) rfl ⟨rfl, rfl⟩
def F67_acct_each (n : Nat) (a0 : GTree) : Option (GTree) :=
  some a0
theorem F67_acct_each_ok {n : Nat} {a0 : GTree} {r : GTree} (h : F67_acct_each n a0 = some r) :
    ACall Tryz.prog GS 67 [.d (eGTree a0)] [] (fun r' hp' => r' = .fn (.func 108) [] [.ptr 1 0 []] ∧ hp' = [(1, .av (.d (eGTree r)))]) := by
 refine acall_of_body mixed Tryz.func67 rfl (by rfl) ?_
 intro C hro hgl hb0
 unfold F67_acct_each at h
 refine aw_rs ?_
 refine .n (f_box 1 (by rfl) (by rfl)) rfl (.c rfl .nil) rfl ?_
 refine .a rfl ?_
 refine .z ?_
 refine .v1 (f_makeFunc (xs := []) (ys := [.ptr 1 0 []]) (by rfl) rfl rfl (by rfl) (by rfl)) rfl rfl ?_
 refine .a rfl ?_
 refine .nil (aq_then ?_)
 refine aw_ret ?_
 obtain rfl := Option.some.inj h
 refine aq_k hb0 (.k 2 rfl .nil) (.k 1 rfl .nil) ?_
 exact aq_fin1 (.tmp rfl (by rfl) .nil) rfl ⟨rfl, rfl⟩
def F65_queue_Check_s0 (n : Nat) (a0 : GLine) (z0_0 : Int) : Option ((Int) ⊕ ((Unit) ⊕ (Unit))) :=
  (if (decide (z0_0 < ((a0.Txs).length : Int))) = true then ((rd a0.Txs z0_0).bind fun (x3 : GTx) => ((((F90_queue_own n x3 a0.From).bind fun (y6 : Bool) => (if (!y6) = true then some true else (if (decide (z0_0 > (0 : Int))) = true then ((rd a0.Txs (IntKind.i64.wrap (z0_0 - (1 : Int)))).bind fun (x10 : GTx) => some (decide (x10.Nonce ≥ x3.Nonce))) else some false)))).bind fun (o13 : Bool) => (if o13 = true then some (.inr (.inr ())) else some (.inl (IntKind.i64.wrap (z0_0 + (1 : Int))))))) else some (.inr (.inl ())))
def F65_queue_Check (n : Nat) (a0 : GLine) : Option (Int) :=
  (if (decide (((a0.Txs).length : Int) > (256 : Int))) = true then some (8 : Int) else ((loopF (fun (z : Int) => F65_queue_Check_s0 n a0 z) n (0 : Int)).bind (Sum.elim (fun (j16 : Unit) => some (0 : Int)) (fun (j16 : Unit) => some (8 : Int)))))
theorem F65_queue_Check_ok {n : Nat} {a0 : GLine} {r : Int} (h : F65_queue_Check n a0 = some r) :
    ACall Tryz.prog GS 65 [.d (eGLine a0)] [] (fun r' hp' => r' = .I r ∧ hp' = []) := by
 refine acall_of_body mixed Tryz.func65 rfl (by rfl) ?_
 intro C hro hgl hb0
 unfold F65_queue_Check at h
 refine aw_rs ?_
 refine .n (f_box 1 (by rfl) (by rfl)) rfl (.c rfl .nil) rfl ?_
 refine .a rfl ?_
 refine .nil (aq_then ?_)
 refine aw_seq ?_
 refine aw_rs ?_
 refine .v1 (f_fieldAddr (n := 32) (by rfl) fl69_1 (by decide)) rfl rfl ?_
 refine .l 1 (0 + 32) [1] (.d (eGLine a0)) (.d (eL28 a0.Txs)) ty28 ?_
 refine .v1 (f_lenD (n := (a0.Txs).length) (by rfl) sl28 rfl (by simp)) rfl rfl ?_
 refine .b rfl rfl rfl ?_
 refine .nil (aq_then ?_)
 refine aw_cond rfl (fun hc1 => ?_) (fun hc1 => ?_)
 ·replace h := ite_t hc1 h
  refine aw_rs ?_
  refine .a rfl ?_
  refine .nil (aq_then ?_)
  refine aw_ret ?_
  refine aq_then_ret ?_
  obtain rfl := Option.some.inj h
  exact aq_finp hb0 rfl (.tmp rfl (by rfl) .nil) (by rfl) rfl ⟨rfl, rfl⟩
 replace h := ite_f hc1 h
 refine aw_skip ?_
 refine aq_then ?_
 refine aw_seq ?_
 refine aw_rs ?_
 refine .v1 (f_fieldAddr (n := 32) (by rfl) fl69_1 (by decide)) rfl rfl ?_
 refine .l 1 (0 + 32) [1] (.d (eGLine a0)) (.d (eL28 a0.Txs)) ty28 ?_
 refine .v1 (f_lenD (n := (a0.Txs).length) (by rfl) sl28 rfl (by simp)) rfl rfl ?_
 refine .m rfl ?_
 refine .nil (aq_then ?_)
 refine aw_block ?_
 refine aw_k hb0 (.k 1 rfl (.k 10 rfl (.k 11 rfl (.k 12 rfl .nil)))) (.k 1 rfl .nil) ?_
 obtain ⟨o16, ho17, h⟩ := bind_some h
 refine aw_loopX (σ := Int) (fun z => ⟨[(1, .ptr 1 0 []), (10, .d (eL28 a0.Txs)), (11, .I ((a0.Txs).length : Int)), (12, .I z)], [(1, .av (.d (eGLine a0)))], []⟩) (Sum.elim (fun _ => .exit 0) (fun _ => .ret)) (Sum.elim (fun j16 => ⟨[], [], []⟩) (fun j16 => ⟨[(2, .I (8 : Int))], [], []⟩)) ho17 (by intro b; rcases b with _ | _ <;> rfl) ?_ ?_
 ·clear h ho17
  intro z0_0 o h
  change F65_queue_Check_s0 n a0 z0_0 = some o at h
  unfold F65_queue_Check_s0 at h
  show AW _ _ _ ⟨[(1, .ptr 1 0 []), (10, .d (eL28 a0.Txs)), (11, .I ((a0.Txs).length : Int)), (12, .I z0_0)], [(1, .av (.d (eGLine a0)))], []⟩
  refine aw_rs ?_
  refine .b rfl rfl rfl ?_
  refine .nil (aq_then ?_)
  refine aw_seq ?_
  refine aw_cond rfl (fun hc2 => ?_) (fun hc2 => ?_)
  ·replace h := ite_t hc2 h
   refine aw_skip ?_
   refine aq_then ?_
   refine aw_seq ?_
   refine aw_block ?_
   refine aw_rs ?_
   refine .m rfl ?_
   obtain ⟨x3, hx4, h⟩ := bind_some h
   obtain ⟨hx5, hx4⟩ := rd_some hx4
   refine .v2 (f_indexS (by rfl) sl28 hx5 (rd_map _ hx4)) rfl rfl rfl ?_
   refine .v1 (f_loadR (z := (eGTx x3)) (by rfl) ty50) rfl rfl ?_
   refine .n (f_alloc 4 (by rfl) zr50) rfl .nil rfl ?_
   refine .a rfl ?_
   refine .s (f_store (n := 0) (o := 4) (off := 0) (p := []) (c := .d (eGTx (⟨(List.replicate 32 (0 : Int)), (List.replicate 32 (0 : Int)), (0 : Int), (0 : Int), (0 : Int), (List.replicate 32 (0 : Int))⟩ : GTx))) (old := .d (eGTx (⟨(List.replicate 32 (0 : Int)), (List.replicate 32 (0 : Int)), (0 : Int), (0 : Int), (0 : Int), (List.replicate 32 (0 : Int))⟩ : GTx))) (z := .d (eGTx x3)) (c' := .d (eGTx x3)) rfl rfl (by rfl) ty50 (by rfl)) rfl (.c rfl (.c rfl .nil)) (.cons rfl .nil) ?_
   refine .nil (aq_then ?_)
   refine aw_seq ?_
   obtain ⟨o13, ho15, h⟩ := bind_some h
   refine aw_join (.normal) ⟨[(1, .ptr 1 0 []), (10, .d (eL28 a0.Txs)), (11, .I ((a0.Txs).length : Int)), (12, .I z0_0), (37, .B o13)], [(1, .av (.d (eGLine a0)))], []⟩ ?_ ?_
   ·replace h := ho15
    refine aw_rd ?_
    refine .v (f_load (n := 0) (o := 4) (off := 0) (p := []) (c := .d (eGTx x3)) (z := .d (eGTx x3)) (by rfl) rfl ty50 (by rfl)) rfl (.c rfl .nil) (.cons rfl .nil) ?_
    refine .v1 (f_fieldAddr (n := 0) (by rfl) fl69_0 (by decide)) rfl rfl ?_
    refine .v (f_load (n := 0) (o := 1) (off := (0 + 0)) (p := [0]) (c := .d (eGLine a0)) (z := .d (eA46 a0.From)) (by rfl) rfl ty47 (by rfl)) rfl (.c rfl .nil) (.cons rfl .nil) ?_
    obtain ⟨y6, hy7, h⟩ := bind_some h
    refine .v2 (f_callP hgl (by rfl) en90 rfl (by rfl) (by rfl) (by rfl) (F90_queue_own_ok hy7)) rfl rfl rfl ?_
    refine .v1 (f_not (by rfl)) rfl rfl ?_
    refine .v1 (f_move (by rfl)) rfl rfl ?_
    rcases Bool.eq_false_or_eq_true (!y6) with hc8 | hc8
    ·replace h := ite_t hc8 h
     refine .q rfl rfl rfl hc8 rfl ?_
     refine .q rfl rfl rfl hc8 rfl ?_
     refine .q rfl rfl rfl hc8 rfl ?_
     refine .offu rfl rfl rfl rfl (by rfl) ?_
     refine .offu rfl rfl rfl rfl (by rfl) ?_
     refine .offu rfl rfl rfl rfl (by rfl) ?_
     refine .offu rfl rfl rfl rfl (by rfl) ?_
     refine .offu rfl rfl rfl rfl (by rfl) ?_
     refine .offu rfl rfl rfl rfl (by rfl) ?_
     refine .offu rfl rfl rfl rfl (by rfl) ?_
     refine .offu rfl rfl rfl rfl (by rfl) ?_
     refine .offu rfl rfl rfl rfl (by rfl) ?_
     refine .offu rfl rfl rfl rfl (by rfl) ?_
     refine .q rfl rfl rfl hc8 rfl ?_
     refine .v2 (f_pick_true (by rfl) hc8) rfl rfl rfl ?_
     refine .nil (by kernel_rfl) ?_
     obtain rfl := Option.some.inj h
     refine aq_k hb0 (.k 1 rfl (.k 10 rfl (.k 11 rfl (.k 12 rfl (.k 37 rfl .nil))))) (.k 1 rfl .nil) ?_
     exact jq
    replace h := ite_f hc8 h
    refine .g1 (f_move (by rfl)) rfl rfl rfl hc8 rfl ?_
    refine .g2 (f_binI (by rfl) rfl (by rfl)) rfl rfl rfl hc8 rfl rfl ?_
    refine .g1 (f_move (by rfl)) rfl rfl rfl hc8 rfl ?_
    rcases Bool.eq_false_or_eq_true (decide (z0_0 > (0 : Int))) with hc9 | hc9
    ·replace h := ite_t hc9 h
     refine .g1 (f_fieldAddr (n := 32) (by rfl) fl69_1 (by decide)) rfl rfl rfl hc9 rfl ?_
     refine .gv (f_load (n := 0) (o := 1) (off := (0 + 32)) (p := [1]) (c := .d (eGLine a0)) (z := .d (eL28 a0.Txs)) (by rfl) rfl ty28 (by rfl)) rfl rfl rfl hc9 (.c rfl .nil) (.cons rfl .nil) ?_
     refine .g1 (f_move (by rfl)) rfl rfl rfl hc9 rfl ?_
     refine .g2 (f_binI (by rfl) rfl (by rfl)) rfl rfl rfl hc9 rfl rfl ?_
     obtain ⟨x10, hx11, h⟩ := bind_some h
     obtain ⟨hx12, hx11⟩ := rd_some hx11
     refine .g2 (f_indexS (by rfl) sl28 hx12 (rd_map _ hx11)) rfl rfl rfl hc9 rfl rfl ?_
     refine .g1 (f_fieldAddrR (by rfl) fl50_2 (by decide) rfl) rfl rfl rfl hc9 rfl ?_
     refine .g1 (f_loadR (z := (.val (.int .u64 x10.Nonce))) (by rfl) ty48) rfl rfl rfl hc9 rfl ?_
     refine .g1 (f_fieldAddr (n := 64) (by rfl) fl50_2 (by decide)) rfl rfl rfl hc9 rfl ?_
     refine .gv (f_load (n := 0) (o := 4) (off := (0 + 64)) (p := [2]) (c := .d (eGTx x3)) (z := .U x3.Nonce) (by rfl) rfl ty48 (by rfl)) rfl rfl rfl hc9 (.c rfl .nil) (.cons rfl .nil) ?_
     refine .g2 (f_binI (by rfl) rfl (by rfl)) rfl rfl rfl hc9 rfl rfl ?_
     refine .g2 (f_pick_true (by rfl) hc9) rfl rfl rfl hc8 rfl rfl ?_
     refine .v2 (f_pick_false (by rfl) hc8) rfl rfl rfl ?_
     refine .nil (by kernel_rfl) ?_
     obtain rfl := Option.some.inj h
     refine aq_k hb0 (.k 1 rfl (.k 10 rfl (.k 11 rfl (.k 12 rfl (.k 37 rfl .nil))))) (.k 1 rfl .nil) ?_
     exact jq
    replace h := ite_f hc9 h
    refine .q rfl rfl rfl hc9 rfl ?_
    refine .q rfl rfl rfl hc9 rfl ?_
    refine .q rfl rfl rfl hc9 rfl ?_
    refine .q rfl rfl rfl hc9 rfl ?_
    refine .q rfl rfl rfl hc9 rfl ?_
    refine .q rfl rfl rfl hc9 rfl ?_
    refine .q rfl rfl rfl hc9 rfl ?_
    refine .q rfl rfl rfl hc9 rfl ?_
    refine .q rfl rfl rfl hc9 rfl ?_
    refine .q rfl rfl rfl hc9 rfl ?_
    refine .g2 (f_pick_false (by rfl) hc9) rfl rfl rfl hc8 rfl rfl ?_
    refine .v2 (f_pick_false (by rfl) hc8) rfl rfl rfl ?_
    refine .nil (by kernel_rfl) ?_
    obtain rfl := Option.some.inj h
    refine aq_k hb0 (.k 1 rfl (.k 10 rfl (.k 11 rfl (.k 12 rfl (.k 37 rfl .nil))))) (.k 1 rfl .nil) ?_
    exact jq
   refine aq_then ?_
   refine aw_cond rfl (fun hc14 => ?_) (fun hc14 => ?_)
   ·replace h := ite_t hc14 h
    refine aw_rs ?_
    refine .a rfl ?_
    refine .nil (aq_then ?_)
    refine aw_ret ?_
    refine aq_block_ret ?_
    refine aq_then_ret ?_
    obtain rfl := Option.some.inj h
    refine aq_k hb0 (.k 2 rfl .nil) .nil ?_
    exact jq
   replace h := ite_f hc14 h
   refine aw_skip ?_
   refine aq_block ?_
   refine aq_then ?_
   refine aw_r ?_
   refine .b rfl rfl rfl ?_
   refine .m rfl ?_
   refine .nil ?_
   obtain rfl := Option.some.inj h
   refine aq_k hb0 (.k 1 rfl (.k 10 rfl (.k 11 rfl (.k 12 rfl .nil)))) (.k 1 rfl .nil) ?_
   exact jq
  replace h := ite_f hc2 h
  refine aw_exit ?_
  refine aq_then_exit ?_
  obtain rfl := Option.some.inj h
  refine aq_k hb0 .nil .nil ?_
  exact jq
 rcases o16 with j16 | j16
 ·replace h := elim_l h
  refine aq_block_exit ?_
  refine aq_then ?_
  refine aw_rs ?_
  refine .a rfl ?_
  refine .nil (aq_then ?_)
  refine aw_ret ?_
  obtain rfl := Option.some.inj h
  exact aq_finp hb0 rfl (.tmp rfl (by rfl) .nil) (by rfl) rfl ⟨rfl, rfl⟩
 replace h := elim_r h
 refine aq_block_ret ?_
 refine aq_then_ret ?_
 obtain rfl := Option.some.inj h
 exact aq_finp hb0 rfl (.tmp rfl (by rfl) .nil) (by rfl) rfl ⟨rfl, rfl⟩
def F62_pool_Count_s0 (n : Nat) (a0 : (List GShard)) (z0_0 : Int) (z0_1 : Int) : Option ((Int × Int) ⊕ (Int)) :=
  (if (decide (z0_1 < ((a0).length : Int))) = true then ((rd a0 z0_1).bind fun (x2 : GShard) => ((F98_shard_Count n x2).bind fun (y5 : Int) => some (.inl ((IntKind.i64.wrap (z0_0 + y5)), (IntKind.i64.wrap (z0_1 + (1 : Int))))))) else some (.inr z0_0))
def F62_pool_Count (n : Nat) (a0 : (List GShard)) : Option (Int) :=
  ((loopF (fun (z : Int × Int) => F62_pool_Count_s0 n a0 z.1 z.2) n ((0 : Int), (0 : Int))).bind fun (o7 : Int) => some o7)
theorem F62_pool_Count_ok {n : Nat} {a0 : (List GShard)} {r : Int} (h : F62_pool_Count n a0 = some r) :
    ACall Tryz.prog GS 62 [.d (eL45 a0)] [] (fun r' hp' => r' = .I r ∧ hp' = []) := by
 refine acall_of_body mixed Tryz.func62 rfl (by rfl) ?_
 intro C hro hgl hb0
 unfold F62_pool_Count at h
 refine aw_rs ?_
 refine .a rfl ?_
 refine .nil (aq_then ?_)
 refine aw_seq ?_
 refine aw_rs ?_
 refine .m rfl ?_
 refine .v1 (f_lenD (n := (a0).length) (by rfl) sl45 rfl (by simp)) rfl rfl ?_
 refine .m rfl ?_
 refine .nil (aq_then ?_)
 refine aw_block ?_
 refine aw_k hb0 (.k 2 rfl (.k 5 rfl (.k 6 rfl (.k 7 rfl .nil)))) .nil ?_
 obtain ⟨o7, ho8, h⟩ := bind_some h
 refine aw_loopX (σ := Int × Int) (fun z => ⟨[(2, .I z.1), (5, .d (eL45 a0)), (6, .I ((a0).length : Int)), (7, .I z.2)], [], []⟩) (fun _ => (.exit 0)) (fun (o7 : Int) => ⟨[(2, .I o7)], [], []⟩) ho8 (fun _ => rfl) ?_ ?_
 ·clear h ho8
  rintro ⟨z0_0, z0_1⟩ o h
  change F62_pool_Count_s0 n a0 z0_0 z0_1 = some o at h
  unfold F62_pool_Count_s0 at h
  show AW _ _ _ ⟨[(2, .I z0_0), (5, .d (eL45 a0)), (6, .I ((a0).length : Int)), (7, .I z0_1)], [], []⟩
  refine aw_rs ?_
  refine .b rfl rfl rfl ?_
  refine .nil (aq_then ?_)
  refine aw_seq ?_
  refine aw_cond rfl (fun hc1 => ?_) (fun hc1 => ?_)
  ·replace h := ite_t hc1 h
   refine aw_skip ?_
   refine aq_then ?_
   refine aw_seq ?_
   refine aw_block ?_
   refine aw_rs ?_
   obtain ⟨x2, hx3, h⟩ := bind_some h
   obtain ⟨hx4, hx3⟩ := rd_some hx3
   refine .v2 (f_indexS (by rfl) sl45 hx4 (rd_map _ hx3)) rfl rfl rfl ?_
   refine .v1 (f_loadR (z := (eGShard x2)) (by rfl) ty24) rfl rfl ?_
   refine .n (f_alloc 4 (by rfl) zrv24) rfl .nil rfl ?_
   refine .s (f_store (n := 0) (o := 4) (off := 0) (p := []) (c := .st [.N]) (old := .st [.N]) (z := .d (eGShard x2)) (c' := .d (eGShard x2)) rfl rfl (by rfl) ty24 (by rfl)) rfl (.c rfl (.c rfl .nil)) (.cons rfl .nil) ?_
   refine .nil (aq_then ?_)
   refine aw_r ?_
   refine .m rfl ?_
   refine .l 4 0 [] (.d (eGShard x2)) (.d (eGShard x2)) ty24 ?_
   obtain ⟨y5, hy6, h⟩ := bind_some h
   refine .v1 (f_callP hgl (by rfl) en98 rfl (by rfl) (by rfl) (by rfl) (F98_shard_Count_ok hy6)) rfl rfl ?_
   refine .b rfl rfl rfl ?_
   refine .a rfl ?_
   refine .nil ?_
   refine aq_block ?_
   refine aq_then ?_
   refine aw_r ?_
   refine .b rfl rfl rfl ?_
   refine .m rfl ?_
   refine .nil ?_
   obtain rfl := Option.some.inj h
   refine aq_k hb0 (.k 2 rfl (.k 5 rfl (.k 6 rfl (.k 7 rfl .nil)))) .nil ?_
   exact jq
  replace h := ite_f hc1 h
  refine aw_exit ?_
  refine aq_then_exit ?_
  obtain rfl := Option.some.inj h
  refine aq_k hb0 (.k 2 rfl .nil) .nil ?_
  exact jq
 refine aq_block_exit ?_
 refine aq_then ?_
 refine aw_rs ?_
 refine .m rfl ?_
 refine .a rfl ?_
 refine .nil (aq_then ?_)
 refine aw_ret ?_
 obtain rfl := Option.some.inj h
 exact aq_finp hb0 rfl (.tmp rfl (by rfl) .nil) (by rfl) rfl ⟨rfl, rfl⟩
def F61_tx_Sign (n : Nat) (a0 : GTx) : Option (GTx) :=
  ((F89_tx_sign n a0).bind fun (y1 : (List Int)) => some ({ a0 with Sign := y1 }))
theorem F61_tx_Sign_ok {n : Nat} {a0 : GTx} {r : GTx} (h : F61_tx_Sign n a0 = some r) :
    ACall Tryz.prog GS 61 [.d (eGTx a0)] [] (fun r' hp' => r' = .d (eGTx r) ∧ hp' = []) := by
 refine acall_of_body mixed Tryz.func61 rfl (by rfl) ?_
 intro C hro hgl hb0
 unfold F61_tx_Sign at h
 refine aw_rs ?_
 refine .n (f_box 1 (by rfl) (by rfl)) rfl (.c rfl .nil) rfl ?_
 refine .n (f_alloc 2 (by rfl) zr50) rfl .nil rfl ?_
 refine .z ?_
 refine .l 1 0 [] (.d (eGTx a0)) (.d (eGTx a0)) ty50 ?_
 obtain ⟨y1, hy2, h⟩ := bind_some h
 refine .v1 (f_callP hgl (by rfl) en89 rfl (by rfl) (by rfl) (by rfl) (F89_tx_sign_ok hy2)) rfl rfl ?_
 refine .v1 (f_fieldAddr (n := 67) (by rfl) fl50_5 (by decide)) rfl rfl ?_
 refine .s (f_store (n := 0) (o := 1) (off := (0 + 67)) (p := [5]) (c := .d (eGTx a0)) (old := .d (eA46 a0.Sign)) (z := .d (eA46 y1)) (c' := .d (eGTx ({ a0 with Sign := y1 }))) rfl rfl (by rfl) ty47 (by rfl)) rfl (.c rfl (.c rfl .nil)) (.cons rfl .nil) ?_
 refine .z ?_
 refine .l 1 0 [] (.d (eGTx ({ a0 with Sign := y1 }))) (.d (eGTx ({ a0 with Sign := y1 }))) ty50 ?_
 refine .s (f_store (n := 0) (o := 2) (off := 0) (p := []) (c := .d (eGTx (⟨(List.replicate 32 (0 : Int)), (List.replicate 32 (0 : Int)), (0 : Int), (0 : Int), (0 : Int), (List.replicate 32 (0 : Int))⟩ : GTx))) (old := .d (eGTx (⟨(List.replicate 32 (0 : Int)), (List.replicate 32 (0 : Int)), (0 : Int), (0 : Int), (0 : Int), (List.replicate 32 (0 : Int))⟩ : GTx))) (z := .d (eGTx ({ a0 with Sign := y1 }))) (c' := .d (eGTx ({ a0 with Sign := y1 }))) rfl rfl (by rfl) ty50 (by rfl)) rfl (.c rfl (.c rfl .nil)) (.cons rfl .nil) ?_
 refine .nil (aq_then ?_)
 refine aw_ret ?_
 obtain rfl := Option.some.inj h
 exact aq_finp hb0 rfl (.cell rfl rfl ty50 (by rfl) .nil) (by rfl) rfl ⟨rfl, rfl⟩
def F60_pool_New (n : Nat) (a0 : Int) : Option ((List GShard) × Int) :=
  (((if (decide (a0 < (1 : Int))) = true then some true else some (decide (a0 > (8 : Int))))).bind fun (o2 : Bool) => (if o2 = true then some ([], (2 : Int)) else (if 0 ≤ a0 ∧ a0 ≤ 1073741824 then some ((List.replicate (a0).toNat (⟨[]⟩ : GShard)), (0 : Int)) else none)))
theorem F60_pool_New_ok {n : Nat} {a0 : Int} {r : (List GShard) × Int} (h : F60_pool_New n a0 = some r) :
    ACall Tryz.prog GS 60 [.I a0] [] (fun r' hp' => r' = .res [.d (eL45 r.1), .I r.2] ∧ hp' = []) := by
 refine acall_of_body mixed Tryz.func60 rfl (by rfl) ?_
 intro C hro hgl hb0
 unfold F60_pool_New at h
 refine aw_rs ?_
 refine .a rfl ?_
 refine .a rfl ?_
 refine .nil (aq_then ?_)
 refine aw_seq ?_
 refine aw_seq ?_
 obtain ⟨o2, ho5, h⟩ := bind_some h
 refine aw_join (.normal) ⟨[(0, .I a0), (9, .B o2)], [], []⟩ ?_ ?_
 ·replace h := ho5
  refine aw_r ?_
  refine .m rfl ?_
  refine .b rfl rfl rfl ?_
  refine .m rfl ?_
  rcases Bool.eq_false_or_eq_true (decide (a0 < (1 : Int))) with hc1 | hc1
  ·replace h := ite_t hc1 h
   refine .q rfl rfl rfl hc1 rfl ?_
   refine .q rfl rfl rfl hc1 rfl ?_
   refine .v2 (f_pick_true (by rfl) hc1) rfl rfl rfl ?_
   refine .nil ?_
   obtain rfl := Option.some.inj h
   refine aq_k hb0 (.k 0 rfl (.k 9 rfl .nil)) .nil ?_
   exact jq
  replace h := ite_f hc1 h
  refine .g1 (f_move (by rfl)) rfl rfl rfl hc1 rfl ?_
  refine .g2 (f_binI (by rfl) rfl (by rfl)) rfl rfl rfl hc1 rfl rfl ?_
  refine .v2 (f_pick_false (by rfl) hc1) rfl rfl rfl ?_
  refine .nil ?_
  obtain rfl := Option.some.inj h
  refine aq_k hb0 (.k 0 rfl (.k 9 rfl .nil)) .nil ?_
  exact jq
 refine aq_then ?_
 refine aw_cond rfl (fun hc3 => ?_) (fun hc3 => ?_)
 ·replace h := ite_t hc3 h
  refine aw_rs ?_
  refine .a rfl ?_
  refine .a rfl ?_
  refine .nil (aq_then ?_)
  refine aw_ret ?_
  refine aq_then_ret ?_
  obtain rfl := Option.some.inj h
  refine aq_freeze [] [(2, .d (eL45 ([]))), (3, .I (2 : Int))] .nil (.cons rfl .nil (.keep rfl .nil)) ?_
  exact aq_finp hb0 rfl (.tmp rfl (by rfl) (.tmp rfl (by rfl) .nil)) (by rfl) rfl ⟨rfl, rfl⟩
 replace h := ite_f hc3 h
 refine aw_skip ?_
 refine aq_then ?_
 refine aw_rs ?_
 refine .m rfl ?_
 obtain ⟨hb4, h⟩ := ifp h
 refine .n (f_makeSZ (n := a0) (m := ((List.replicate (a0).toNat (⟨[]⟩ : GShard))).length) (z := (.st [(.val (.slice none 0 0))])) (z' := (eGShard (⟨[]⟩ : GShard))) (zs := ((List.replicate (a0).toNat (⟨[]⟩ : GShard))).map eGShard) 1048 (by rfl) el45 zeln45 (by rfl) hb4.1 (by omega) (by omega) (SubD.st ⟨(SubD.nil 33), trivial⟩) (by simp) (by simp)) rfl (.c rfl .nil) rfl ?_
 refine .a rfl ?_
 refine .a rfl ?_
 refine .nil (aq_then ?_)
 refine aw_ret ?_
 obtain rfl := Option.some.inj h
 refine aq_freeze [(1048, (.arr 1 (((List.replicate (a0).toNat (⟨[]⟩ : GShard))).length) (((List.replicate (a0).toNat (⟨[]⟩ : GShard))).map eGShard)))] [(2, .d (eL45 (List.replicate (a0).toNat (⟨[]⟩ : GShard)))), (3, .I (0 : Int))] (.cons rfl .nil) (.cons rfl (.whole (.head _)) (.keep rfl .nil)) ?_
 exact aq_finp hb0 rfl (.tmp rfl (by rfl) (.tmp rfl (by rfl) .nil)) (by rfl) rfl ⟨rfl, rfl⟩
def F26_pool_At (n : Nat) (a0 : (List Int)) (a1 : Int) : Option (Int × Int) :=
  (((if (decide (a1 < (1 : Int))) = true then some true else some (decide (a1 > (8 : Int))))).bind fun (o2 : Bool) => (if o2 = true then some ((0 : Int), (2 : Int)) else ((rd a0 (31 : Int)).bind fun (x4 : Int) => (if a1 = 0 then none else some ((Int.tmod (IntKind.i64.wrap x4) a1), (0 : Int))))))
theorem F26_pool_At_ok {n : Nat} {a0 : (List Int)} {a1 : Int} {r : Int × Int} (h : F26_pool_At n a0 a1 = some r) :
    ACall Tryz.prog GS 26 [.d (eA46 a0), .I a1] [] (fun r' hp' => r' = .res [.I r.1, .I r.2] ∧ hp' = []) := by
 refine acall_of_body mixed Tryz.func26 rfl (by rfl) ?_
 intro C hro hgl hb0
 unfold F26_pool_At at h
 refine aw_rs ?_
 refine .n (f_box 2 (by rfl) (by rfl)) rfl (.c rfl .nil) rfl ?_
 refine .a rfl ?_
 refine .a rfl ?_
 refine .nil (aq_then ?_)
 refine aw_seq ?_
 refine aw_seq ?_
 obtain ⟨o2, ho8, h⟩ := bind_some h
 refine aw_join (.normal) ⟨[(1, .I a1), (2, .ptr 2 0 []), (11, .B o2)], [(2, .av (.d (eA46 a0)))], []⟩ ?_ ?_
 ·replace h := ho8
  refine aw_r ?_
  refine .m rfl ?_
  refine .b rfl rfl rfl ?_
  refine .m rfl ?_
  rcases Bool.eq_false_or_eq_true (decide (a1 < (1 : Int))) with hc1 | hc1
  ·replace h := ite_t hc1 h
   refine .q rfl rfl rfl hc1 rfl ?_
   refine .q rfl rfl rfl hc1 rfl ?_
   refine .v2 (f_pick_true (by rfl) hc1) rfl rfl rfl ?_
   refine .nil ?_
   obtain rfl := Option.some.inj h
   refine aq_k hb0 (.k 1 rfl (.k 2 rfl (.k 11 rfl .nil))) (.k 2 rfl .nil) ?_
   exact jq
  replace h := ite_f hc1 h
  refine .g1 (f_move (by rfl)) rfl rfl rfl hc1 rfl ?_
  refine .g2 (f_binI (by rfl) rfl (by rfl)) rfl rfl rfl hc1 rfl rfl ?_
  refine .v2 (f_pick_false (by rfl) hc1) rfl rfl rfl ?_
  refine .nil ?_
  obtain rfl := Option.some.inj h
  refine aq_k hb0 (.k 1 rfl (.k 2 rfl (.k 11 rfl .nil))) (.k 2 rfl .nil) ?_
  exact jq
 refine aq_then ?_
 refine aw_cond rfl (fun hc3 => ?_) (fun hc3 => ?_)
 ·replace h := ite_t hc3 h
  refine aw_rs ?_
  refine .a rfl ?_
  refine .a rfl ?_
  refine .nil (aq_then ?_)
  refine aw_ret ?_
  refine aq_then_ret ?_
  obtain rfl := Option.some.inj h
  exact aq_finp hb0 rfl (.tmp rfl (by rfl) (.tmp rfl (by rfl) .nil)) (by rfl) rfl ⟨rfl, rfl⟩
 replace h := ite_f hc3 h
 refine aw_skip ?_
 refine aq_then ?_
 refine aw_rs ?_
 obtain ⟨x4, hx5, h⟩ := bind_some h
 obtain ⟨hx6, hx5⟩ := rd_some hx5
 refine .v (f_indexO (by rfl) ar47 rfl hx6 (rd_map _ hx5)) rfl (.c rfl (.c rfl .nil)) (.cons rfl .nil) ?_
 refine .v (f_load (n := 0) (o := 2) (off := (0 + ((31 : Int)).toNat * 1)) (p := [((31 : Int)).toNat]) (c := .d (eA46 a0)) (z := .d (.val (.int .u8 x4))) (by rfl) (at_map _ hx5 (by simp)) ty5 (by rfl)) rfl (.c rfl .nil) (.cons rfl .nil) ?_
 refine .v1 (f_convI (by rfl) un5 un3) rfl rfl ?_
 refine .m rfl ?_
 obtain ⟨hz7, h⟩ := ifn h
 refine .v2 (f_binI (by rfl) (rem_ok hz7) (by rfl)) rfl rfl rfl ?_
 refine .a rfl ?_
 refine .a rfl ?_
 refine .nil (aq_then ?_)
 refine aw_ret ?_
 obtain rfl := Option.some.inj h
 exact aq_finp hb0 rfl (.tmp rfl (by rfl) (.tmp rfl (by rfl) .nil)) (by rfl) rfl ⟨rfl, rfl⟩
def F57_pool_sent_of (n : Nat) (a0 : GTx) (a1 : Int) (a2 : Int) : Option (Bool) :=
  ((F27_tx_From n a0).bind fun (y1 : (List Int)) => ((F26_pool_At n y1 a2).bind fun (y3 : Int × Int) => some (y3.1 == a1)))
theorem F57_pool_sent_of_ok {n : Nat} {a0 : GTx} {a1 : Int} {a2 : Int} {r : Bool} (h : F57_pool_sent_of n a0 a1 a2 = some r) :
    ACall Tryz.prog GS 57 [.d (eGTx a0), .I a1, .I a2] [] (fun r' hp' => r' = .B r ∧ hp' = []) := by
 refine acall_of_body mixed Tryz.func57 rfl (by rfl) ?_
 intro C hro hgl hb0
 unfold F57_pool_sent_of at h
 refine aw_rs ?_
 refine .n (f_box 3 (by rfl) (by rfl)) rfl (.c rfl .nil) rfl ?_
 refine .a rfl ?_
 refine .z ?_
 refine .l 3 0 [] (.d (eGTx a0)) (.d (eGTx a0)) ty111 ?_
 obtain ⟨y1, hy2, h⟩ := bind_some h
 refine .v1 (f_callP hgl (by rfl) en27 rfl (by rfl) (by rfl) (by rfl) (F27_tx_From_ok hy2)) rfl rfl ?_
 refine .m rfl ?_
 obtain ⟨y3, hy4, h⟩ := bind_some h
 refine .v2 (f_callP hgl (by rfl) en26 rfl (by rfl) (by rfl) (by rfl) (F26_pool_At_ok hy4)) rfl rfl rfl ?_
 refine .m rfl ?_
 refine .v1 (f_extract (by rfl) rfl) rfl rfl ?_
 refine .v1 (f_extract (by rfl) rfl) rfl rfl ?_
 refine .a rfl ?_
 refine .a rfl ?_
 refine .z ?_
 refine .m rfl ?_
 refine .m rfl ?_
 refine .b rfl rfl rfl ?_
 refine .a rfl ?_
 refine .nil (aq_then ?_)
 refine aw_ret ?_
 obtain rfl := Option.some.inj h
 exact aq_finp hb0 rfl (.tmp rfl (by rfl) .nil) (by rfl) rfl ⟨rfl, rfl⟩
def F14_beadrollref19_SameTxs_s0 (a0 : (List GTx)) (a1 : (List GTx)) (z0_0 : Int) : Option ((Int) ⊕ ((Unit) ⊕ (Unit))) :=
  (if (decide (z0_0 < ((a0).length : Int))) = true then ((rd a0 z0_0).bind fun (x3 : GTx) => ((rd a1 z0_0).bind fun (x6 : GTx) => (if (!(decide (x3 = x6))) = true then some (.inr (.inr ())) else some (.inl (IntKind.i64.wrap (z0_0 + (1 : Int))))))) else some (.inr (.inl ())))
def F14_beadrollref19_SameTxs (n : Nat) (a0 : (List GTx)) (a1 : (List GTx)) : Option (Bool) :=
  (if (((a0).length : Int) != ((a1).length : Int)) = true then some false else ((loopF (fun (z : Int) => F14_beadrollref19_SameTxs_s0 a0 a1 z) n (0 : Int)).bind (Sum.elim (fun (j10 : Unit) => some true) (fun (j10 : Unit) => some false))))
theorem F14_beadrollref19_SameTxs_ok {n : Nat} {a0 : (List GTx)} {a1 : (List GTx)} {r : Bool} (h : F14_beadrollref19_SameTxs n a0 a1 = some r) :
    ACall Tryz.prog GS 14 [.d (eL28 a0), .d (eL28 a1)] [] (fun r' hp' => r' = .B r ∧ hp' = []) := by
 refine acall_of_body mixed Tryz.func14 rfl (by rfl) ?_
 intro C hro hgl hb0
 unfold F14_beadrollref19_SameTxs at h
 refine aw_rs ?_
 refine .a rfl ?_
 refine .nil (aq_then ?_)
 refine aw_seq ?_
 refine aw_rs ?_
 refine .m rfl ?_
 refine .v1 (f_lenD (n := (a0).length) (by rfl) sl28 rfl (by simp)) rfl rfl ?_
 refine .m rfl ?_
 refine .v1 (f_lenD (n := (a1).length) (by rfl) sl28 rfl (by simp)) rfl rfl ?_
 refine .b rfl rfl rfl ?_
 refine .nil (aq_then ?_)
 refine aw_cond rfl (fun hc1 => ?_) (fun hc1 => ?_)
 ·replace h := ite_t hc1 h
  refine aw_rs ?_
  refine .a rfl ?_
  refine .nil (aq_then ?_)
  refine aw_ret ?_
  refine aq_then_ret ?_
  obtain rfl := Option.some.inj h
  exact aq_finp hb0 rfl (.tmp rfl (by rfl) .nil) (by rfl) rfl ⟨rfl, rfl⟩
 replace h := ite_f hc1 h
 refine aw_skip ?_
 refine aq_then ?_
 refine aw_seq ?_
 refine aw_rs ?_
 refine .a rfl ?_
 refine .nil (aq_then ?_)
 refine aw_block ?_
 refine aw_k hb0 (.k 0 rfl (.k 1 rfl (.k 5 rfl .nil))) .nil ?_
 obtain ⟨o10, ho11, h⟩ := bind_some h
 refine aw_loopX (σ := Int) (fun z => ⟨[(0, .d (eL28 a0)), (1, .d (eL28 a1)), (5, .I z)], [], []⟩) (Sum.elim (fun _ => .exit 0) (fun _ => .ret)) (Sum.elim (fun j10 => ⟨[], [], []⟩) (fun j10 => ⟨[(4, .B false)], [], []⟩)) ho11 (by intro b; rcases b with _ | _ <;> rfl) ?_ ?_
 ·clear h ho11
  intro z0_0 o h
  change F14_beadrollref19_SameTxs_s0 a0 a1 z0_0 = some o at h
  unfold F14_beadrollref19_SameTxs_s0 at h
  show AW _ _ _ ⟨[(0, .d (eL28 a0)), (1, .d (eL28 a1)), (5, .I z0_0)], [], []⟩
  refine aw_seq ?_
  refine aw_rs ?_
  refine .m rfl ?_
  refine .m rfl ?_
  refine .v1 (f_lenD (n := (a0).length) (by rfl) sl28 rfl (by simp)) rfl rfl ?_
  refine .b rfl rfl rfl ?_
  refine .nil (aq_then ?_)
  refine aw_cond rfl (fun hc2 => ?_) (fun hc2 => ?_)
  ·replace h := ite_t hc2 h
   refine aw_skip ?_
   refine aq_then ?_
   refine aw_seq ?_
   refine aw_block ?_
   refine aw_rds ?_
   refine .v1 (f_move (by rfl)) rfl rfl ?_
   refine .v1 (f_move (by rfl)) rfl rfl ?_
   obtain ⟨x3, hx4, h⟩ := bind_some h
   obtain ⟨hx5, hx4⟩ := rd_some hx4
   refine .v2 (f_indexS (by rfl) sl28 hx5 (rd_map _ hx4)) rfl rfl rfl ?_
   refine .v1 (f_loadR (z := (eGTx x3)) (by rfl) ty50) rfl rfl ?_
   refine .v1 (f_move (by rfl)) rfl rfl ?_
   refine .v1 (f_move (by rfl)) rfl rfl ?_
   obtain ⟨x6, hx7, h⟩ := bind_some h
   obtain ⟨hx8, hx7⟩ := rd_some hx7
   refine .v2 (f_indexS (by rfl) sl28 hx8 (rd_map _ hx7)) rfl rfl rfl ?_
   refine .v1 (f_loadR (z := (eGTx x6)) (by rfl) ty50) rfl rfl ?_
   refine .v2 (f_neqT (by rfl) (fit50 _) (fit50 _) (by rfl) (by rfl) gd50 (eq_eGTx _ _)) rfl rfl rfl ?_
   refine .nil (by kernel_rfl) ?_
   refine aw_cond rfl (fun hc9 => ?_) (fun hc9 => ?_)
   ·replace h := ite_t hc9 h
    refine aw_rs ?_
    refine .a rfl ?_
    refine .nil (aq_then ?_)
    refine aw_ret ?_
    refine aq_block_ret ?_
    refine aq_then_ret ?_
    obtain rfl := Option.some.inj h
    refine aq_k hb0 (.k 4 rfl .nil) .nil ?_
    exact jq
   replace h := ite_f hc9 h
   refine aw_skip ?_
   refine aq_block ?_
   refine aq_then ?_
   refine aw_r ?_
   refine .m rfl ?_
   refine .b rfl rfl rfl ?_
   refine .a rfl ?_
   refine .nil ?_
   obtain rfl := Option.some.inj h
   refine aq_k hb0 (.k 0 rfl (.k 1 rfl (.k 5 rfl .nil))) .nil ?_
   exact jq
  replace h := ite_f hc2 h
  refine aw_exit ?_
  refine aq_then_exit ?_
  obtain rfl := Option.some.inj h
  refine aq_k hb0 .nil .nil ?_
  exact jq
 rcases o10 with j10 | j10
 ·replace h := elim_l h
  refine aq_block_exit ?_
  refine aq_then ?_
  refine aw_rs ?_
  refine .a rfl ?_
  refine .nil (aq_then ?_)
  refine aw_ret ?_
  obtain rfl := Option.some.inj h
  exact aq_finp hb0 rfl (.tmp rfl (by rfl) .nil) (by rfl) rfl ⟨rfl, rfl⟩
 replace h := elim_r h
 refine aq_block_ret ?_
 refine aq_then_ret ?_
 obtain rfl := Option.some.inj h
 exact aq_finp hb0 rfl (.tmp rfl (by rfl) .nil) (by rfl) rfl ⟨rfl, rfl⟩
def F48_beadrollref19_Same (n : Nat) (a0 : GLine) (a1 : GLine) : Option (Bool) :=
  (((if (decide (a0.From = a1.From)) = true then ((F14_beadrollref19_SameTxs n a0.Txs a1.Txs).bind fun (y2 : Bool) => some y2) else some false)).bind fun (o4 : Bool) => some o4)
theorem F48_beadrollref19_Same_ok {n : Nat} {a0 : GLine} {a1 : GLine} {r : Bool} (h : F48_beadrollref19_Same n a0 a1 = some r) :
    ACall Tryz.prog GS 48 [.d (eGLine a0), .d (eGLine a1)] [] (fun r' hp' => r' = .B r ∧ hp' = []) := by
 refine acall_of_body mixed Tryz.func48 rfl (by rfl) ?_
 intro C hro hgl hb0
 unfold F48_beadrollref19_Same at h
 refine aw_rs ?_
 refine .n (f_box 2 (by rfl) (by rfl)) rfl (.c rfl .nil) rfl ?_
 refine .n (f_box 3 (by rfl) (by rfl)) rfl (.c rfl .nil) rfl ?_
 refine .a rfl ?_
 refine .nil (aq_then ?_)
 refine aw_seq ?_
 obtain ⟨o4, ho5, h⟩ := bind_some h
 refine aw_join (.normal) ⟨[(4, .B o4)], [], []⟩ ?_ ?_
 ·replace h := ho5
  refine aw_r ?_
  refine .v1 (f_fieldAddr (n := 0) (by rfl) fl69_0 (by decide)) rfl rfl ?_
  refine .l 2 (0 + 0) [0] (.d (eGLine a0)) (.d (eA46 a0.From)) ty47 ?_
  refine .v1 (f_fieldAddr (n := 0) (by rfl) fl69_0 (by decide)) rfl rfl ?_
  refine .l 3 (0 + 0) [0] (.d (eGLine a1)) (.d (eA46 a1.From)) ty47 ?_
  refine .v2 (f_eqlT (by rfl) (fit47 _) (fit47 _) (by rfl) (by rfl) gd47 (eq_eA46 _ _)) rfl rfl rfl ?_
  refine .m rfl ?_
  rcases Bool.eq_false_or_eq_true (decide (a0.From = a1.From)) with hc1 | hc1
  ·replace h := ite_t hc1 h
   refine .g1 (f_fieldAddr (n := 32) (by rfl) fl69_1 (by decide)) rfl rfl rfl hc1 rfl ?_
   refine .gv (f_load (n := 0) (o := 2) (off := (0 + 32)) (p := [1]) (c := .d (eGLine a0)) (z := .d (eL28 a0.Txs)) (by rfl) rfl ty28 (by rfl)) rfl rfl rfl hc1 (.c rfl .nil) (.cons rfl .nil) ?_
   refine .g1 (f_fieldAddr (n := 32) (by rfl) fl69_1 (by decide)) rfl rfl rfl hc1 rfl ?_
   refine .gv (f_load (n := 0) (o := 3) (off := (0 + 32)) (p := [1]) (c := .d (eGLine a1)) (z := .d (eL28 a1.Txs)) (by rfl) rfl ty28 (by rfl)) rfl rfl rfl hc1 (.c rfl .nil) (.cons rfl .nil) ?_
   obtain ⟨y2, hy3, h⟩ := bind_some h
   refine .g2 (f_callP hgl (by rfl) en14 rfl (by rfl) (by rfl) (by rfl) (F14_beadrollref19_SameTxs_ok hy3)) rfl rfl rfl hc1 rfl rfl ?_
   refine .v2 (f_pick_true (by rfl) hc1) rfl rfl rfl ?_
   refine .a rfl ?_
   refine .nil ?_
   obtain rfl := Option.some.inj h
   refine aq_k hb0 (.k 4 rfl .nil) .nil ?_
   exact jq
  replace h := ite_f hc1 h
  refine .q rfl rfl rfl hc1 rfl ?_
  refine .q rfl rfl rfl hc1 rfl ?_
  refine .q rfl rfl rfl hc1 rfl ?_
  refine .q rfl rfl rfl hc1 rfl ?_
  refine .q rfl rfl rfl hc1 rfl ?_
  refine .v2 (f_pick_false (by rfl) hc1) rfl rfl rfl ?_
  refine .a rfl ?_
  refine .nil ?_
  obtain rfl := Option.some.inj h
  refine aq_k hb0 (.k 4 rfl .nil) .nil ?_
  exact jq
 refine aq_then ?_
 refine aw_ret ?_
 obtain rfl := Option.some.inj h
 exact aq_finp hb0 rfl (.tmp rfl (by rfl) .nil) (by rfl) rfl ⟨rfl, rfl⟩
def F73_api_Tx_ahead_f93_s0 (n : Nat) (a0 : (List GTx)) (a1 : Int) (z0_0 : Int) (z0_1 : Int) : Option ((Int × Int) ⊕ (Int)) :=
  (if (decide (z0_0 < z0_1)) = true then ((rd a0 (IntKind.i64.wrap (Int.tdiv (IntKind.i64.wrap (z0_0 + z0_1)) (2 : Int)))).bind fun (x2 : GTx) => ((F115_queue_nonces_1 n x2).bind fun (y5 : Int) => (if (decide (y5 < a1)) = true then some (.inl ((IntKind.i64.wrap ((IntKind.i64.wrap (Int.tdiv (IntKind.i64.wrap (z0_0 + z0_1)) (2 : Int))) + (1 : Int))), z0_1)) else some (.inl (z0_0, (IntKind.i64.wrap (Int.tdiv (IntKind.i64.wrap (z0_0 + z0_1)) (2 : Int)))))))) else some (.inr z0_0))
def F73_api_Tx_ahead_f93 (n : Nat) (a0 : (List GTx)) (a1 : Int) : Option (Int) :=
  ((loopF (fun (z : Int × Int) => F73_api_Tx_ahead_f93_s0 n a0 a1 z.1 z.2) n ((0 : Int), ((a0).length : Int))).bind fun (o8 : Int) => some o8)
theorem F73_api_Tx_ahead_f93_ok {n : Nat} {a0 : (List GTx)} {a1 : Int} {r : Int} (h : F73_api_Tx_ahead_f93 n a0 a1 = some r) :
    ACall Tryz.prog GS 73 [.st [.d (eL28 a0), .fn (.func 115) [] []], .U a1] [] (fun r' hp' => r' = .I r ∧ hp' = []) := by
 refine acall_of_body mixed Tryz.func73 rfl (by rfl) ?_
 intro C hro hgl hb0
 unfold F73_api_Tx_ahead_f93 at h
 refine aw_rs ?_
 refine .n (f_box 2 (by rfl) (by rfl)) rfl (.c rfl .nil) rfl ?_
 refine .a rfl ?_
 refine .nil (aq_then ?_)
 refine aw_rds ?_
 refine .v1 (f_fieldAddr (n := 0) (by rfl) fl130_0 (by decide)) rfl rfl ?_
 refine .v (f_load (n := 0) (o := 2) (off := (0 + 0)) (p := [0]) (c := .st [.d (eL28 a0), .fn (.func 115) [] []]) (z := .d (eL28 a0)) (by rfl) rfl ty28 (by rfl)) rfl (.c rfl .nil) (.cons rfl .nil) ?_
 refine .v1 (f_lenD (n := (a0).length) (by rfl) sl28 rfl (by simp)) rfl rfl ?_
 refine .v1 (f_assign (by rfl)) rfl rfl ?_
 refine .v1 (f_assign (by rfl)) rfl rfl ?_
 refine .nil (by kernel_rfl) ?_
 refine aw_seq ?_
 refine aw_block ?_
 refine aw_k hb0 (.k 1 rfl (.k 2 rfl (.k 5 rfl (.k 6 rfl .nil)))) (.k 2 rfl .nil) ?_
 obtain ⟨o8, ho9, h⟩ := bind_some h
 refine aw_loopX (σ := Int × Int) (fun z => ⟨[(1, .U a1), (2, .ptr 2 0 []), (5, .I z.1), (6, .I z.2)], [(2, .av (.st [.d (eL28 a0), .fn (.func 115) [] []]))], []⟩) (fun _ => (.exit 0)) (fun (o8 : Int) => ⟨[(5, .I o8)], [], []⟩) ho9 (fun _ => rfl) ?_ ?_
 ·clear h ho9
  rintro ⟨z0_0, z0_1⟩ o h
  change F73_api_Tx_ahead_f93_s0 n a0 a1 z0_0 z0_1 = some o at h
  unfold F73_api_Tx_ahead_f93_s0 at h
  show AW _ _ _ ⟨[(1, .U a1), (2, .ptr 2 0 []), (5, .I z0_0), (6, .I z0_1)], [(2, .av (.st [.d (eL28 a0), .fn (.func 115) [] []]))], []⟩
  refine aw_seq ?_
  refine aw_rs ?_
  refine .m rfl ?_
  refine .m rfl ?_
  refine .b rfl rfl rfl ?_
  refine .nil (aq_then ?_)
  refine aw_cond rfl (fun hc1 => ?_) (fun hc1 => ?_)
  ·replace h := ite_t hc1 h
   refine aw_skip ?_
   refine aq_then ?_
   refine aw_block ?_
   refine aw_rs ?_
   refine .m rfl ?_
   refine .m rfl ?_
   refine .b rfl rfl rfl ?_
   refine .v2 (f_binI (by rfl) (quo_ok (by decide)) (by rfl)) rfl rfl rfl ?_
   refine .a rfl ?_
   refine .nil (aq_then ?_)
   refine aw_rds ?_
   refine .v1 (f_fieldAddr (n := 1) (by rfl) fl130_1 (by decide)) rfl rfl ?_
   refine .v (f_load (n := 0) (o := 2) (off := (0 + 1)) (p := [1]) (c := .st [.d (eL28 a0), .fn (.func 115) [] []]) (z := .fn (.func 115) [] []) (by rfl) rfl ty128 (by rfl)) rfl (.c rfl .nil) (.cons rfl .nil) ?_
   refine .v1 (f_fieldAddr (n := 0) (by rfl) fl130_0 (by decide)) rfl rfl ?_
   refine .v (f_load (n := 0) (o := 2) (off := (0 + 0)) (p := [0]) (c := .st [.d (eL28 a0), .fn (.func 115) [] []]) (z := .d (eL28 a0)) (by rfl) rfl ty28 (by rfl)) rfl (.c rfl .nil) (.cons rfl .nil) ?_
   refine .v1 (f_move (by rfl)) rfl rfl ?_
   obtain ⟨x2, hx3, h⟩ := bind_some h
   obtain ⟨hx4, hx3⟩ := rd_some hx3
   refine .v2 (f_indexS (by rfl) sl28 hx4 (rd_map _ hx3)) rfl rfl rfl ?_
   refine .v1 (f_loadR (z := (eGTx x2)) (by rfl) ty50) rfl rfl ?_
   obtain ⟨y5, hy6, h⟩ := bind_some h
   refine .w (f_callG0 (xs := [.d (eGTx x2)]) (r := .U y5) (fun i => i) [] hgl (by rfl) (cal_v (first := []) (caps := []) en115) rfl (by rfl) (by rfl) (by rfl) (by rfl) (.cons (.same _) .nil) rfl rfl (F115_queue_nonces_1_ok hy6)) rfl (.c rfl (.c rfl .nil)) .nil .nil ?_
   refine .v1 (f_move (by rfl)) rfl rfl ?_
   refine .v2 (f_binI (by rfl) rfl (by rfl)) rfl rfl rfl ?_
   refine .nil (by kernel_rfl) ?_
   refine aw_cond rfl (fun hc7 => ?_) (fun hc7 => ?_)
   ·replace h := ite_t hc7 h
    refine aw_r ?_
    refine .m rfl ?_
    refine .b rfl rfl rfl ?_
    refine .a rfl ?_
    refine .nil ?_
    refine aq_block ?_
    obtain rfl := Option.some.inj h
    refine aq_k hb0 (.k 1 rfl (.k 2 rfl (.k 5 rfl (.k 6 rfl .nil)))) (.k 2 rfl .nil) ?_
    exact jq
   replace h := ite_f hc7 h
   refine aw_r ?_
   refine .m rfl ?_
   refine .a rfl ?_
   refine .nil ?_
   refine aq_block ?_
   obtain rfl := Option.some.inj h
   refine aq_k hb0 (.k 1 rfl (.k 2 rfl (.k 5 rfl (.k 6 rfl .nil)))) (.k 2 rfl .nil) ?_
   exact jq
  replace h := ite_f hc1 h
  refine aw_exit ?_
  refine aq_then_exit ?_
  obtain rfl := Option.some.inj h
  refine aq_k hb0 (.k 5 rfl .nil) .nil ?_
  exact jq
 refine aq_block_exit ?_
 refine aq_then ?_
 refine aw_rs ?_
 refine .m rfl ?_
 refine .a rfl ?_
 refine .nil (aq_then ?_)
 refine aw_ret ?_
 obtain rfl := Option.some.inj h
 refine aq_k hb0 (.k 4 rfl .nil) .nil ?_
 exact aq_fin1 (.tmp rfl (by rfl) .nil) rfl ⟨rfl, rfl⟩
def F42_shard_Back_1 (n : Nat) (a0 : GTx) : Option (Bool) :=
  ((F43_tx_Check n a0).bind fun (y1 : Int) => some (y1 != (0 : Int)))
theorem F42_shard_Back_1_ok {n : Nat} {a0 : GTx} {r : Bool} (h : F42_shard_Back_1 n a0 = some r) :
    ACall Tryz.prog GS 42 [.d (eGTx a0)] [] (fun r' hp' => r' = .B r ∧ hp' = []) := by
 refine acall_of_body mixed Tryz.func42 rfl (by rfl) ?_
 intro C hro hgl hb0
 unfold F42_shard_Back_1 at h
 refine aw_rs ?_
 refine .n (f_box 1 (by rfl) (by rfl)) rfl (.c rfl .nil) rfl ?_
 refine .a rfl ?_
 refine .z ?_
 refine .l 1 0 [] (.d (eGTx a0)) (.d (eGTx a0)) ty50 ?_
 obtain ⟨y1, hy2, h⟩ := bind_some h
 refine .v1 (f_callP hgl (by rfl) en43 rfl (by rfl) (by rfl) (by rfl) (F43_tx_Check_ok hy2)) rfl rfl ?_
 refine .b rfl rfl rfl ?_
 refine .a rfl ?_
 refine .nil (aq_then ?_)
 refine aw_ret ?_
 obtain rfl := Option.some.inj h
 exact aq_finp hb0 rfl (.tmp rfl (by rfl) .nil) (by rfl) rfl ⟨rfl, rfl⟩
def F35_queue_Ready_s0 (y4 : GLine × Int) (y9 : Int) (z0_0 : Int) (z0_1 : Int) (z0_2 : List GTx) : Option ((Int × Int × List GTx) ⊕ ((Int × List GTx) ⊕ (Int × List GTx))) :=
  (if (decide (z0_0 < ((((y4.1.Txs).drop (y9).toNat)).length : Int))) = true then ((rd ((y4.1.Txs).drop (y9).toNat) z0_0).bind fun (x13 : GTx) => (((if (x13.Nonce != z0_1) = true then some (true, z0_2) else (if ((z0_2 ++ ([x13] : List GTx))).length ≤ 1073741824 then some ((!true), (z0_2 ++ ([x13] : List GTx))) else none))).bind fun (o19 : Bool × List GTx) => (if o19.1 = true then some (.inr (.inr (z0_1, o19.2))) else some (.inl ((IntKind.i64.wrap (z0_0 + (1 : Int))), (IntKind.u64.wrap (z0_1 + (1 : Int))), o19.2))))) else some (.inr (.inl (z0_1, z0_2))))
def F35_queue_Ready (n : Nat) (a0 : GLine) (a1 : Int) : Option ((List GTx) × Int) :=
  ((F65_queue_Check n a0).bind fun (y1 : Int) => (if (y1 != (0 : Int)) = true then some ([], y1) else ((F75_queue_run n a0 a1).bind fun (y4 : GLine × Int) => ((F72_queue_nonces n y4.1).bind fun (y7 : (List GTx)) => ((F73_api_Tx_ahead_f93 n y7 y4.2).bind fun (y9 : Int) => (if 0 ≤ y9 ∧ y9 ≤ ((y4.1.Txs).length : Int) ∧ ((y4.1.Txs).length : Int) ≤ ((y4.1.Txs).length : Int) then ((loopF (fun (z : Int × Int × List GTx) => F35_queue_Ready_s0 y4 y9 z.1 z.2.1 z.2.2) n ((0 : Int), y4.2, ([] : List GTx))).bind (Sum.elim (fun (j22 : Int × List GTx) => some (j22.2, (0 : Int))) (fun (j22 : Int × List GTx) => some (j22.2, (0 : Int))))) else none))))))
theorem F35_queue_Ready_ok {n : Nat} {a0 : GLine} {a1 : Int} {r : (List GTx) × Int} (h : F35_queue_Ready n a0 a1 = some r) :
    ACall Tryz.prog GS 35 [.d (eGLine a0), .U a1] [] (fun r' hp' => r' = .res [.d (eL28 r.1), .I r.2] ∧ hp' = []) := by
 refine acall_of_body mixed Tryz.func35 rfl (by rfl) ?_
 intro C hro hgl hb0
 unfold F35_queue_Ready at h
 refine aw_rs ?_
 refine .n (f_box 2 (by rfl) (by rfl)) rfl (.c rfl .nil) rfl ?_
 refine .n (f_alloc 4 (by rfl) zrv28) rfl .nil rfl ?_
 refine .a rfl ?_
 refine .nil (aq_then ?_)
 refine aw_seq ?_
 refine aw_rs ?_
 refine .l 2 0 [] (.d (eGLine a0)) (.d (eGLine a0)) ty69 ?_
 obtain ⟨y1, hy2, h⟩ := bind_some h
 refine .v1 (f_callP hgl (by rfl) en65 rfl (by rfl) (by rfl) (by rfl) (F65_queue_Check_ok hy2)) rfl rfl ?_
 refine .a rfl ?_
 refine .z ?_
 refine .m rfl ?_
 refine .b rfl rfl rfl ?_
 refine .nil (aq_then ?_)
 refine aw_cond rfl (fun hc3 => ?_) (fun hc3 => ?_)
 ·replace h := ite_t hc3 h
  refine aw_rs ?_
  refine .m rfl ?_
  refine .s (f_store (n := 0) (o := 4) (off := 0) (p := []) (c := .N) (old := .N) (z := .N) (c' := .N) rfl rfl (by rfl) ty28 (by rfl)) rfl (.c rfl (.c rfl .nil)) (.cons rfl .nil) ?_
  refine .a rfl ?_
  refine .nil (aq_then ?_)
  refine aw_ret ?_
  refine aq_then_ret ?_
  obtain rfl := Option.some.inj h
  refine aq_freezeH [] [(4, .ptr 4 0 []), (5, .I y1)] [(4, .av (.d (eL28 ([]))))] .nil (.keep rfl (.keep rfl .nil)) (.cons rfl (by rfl) .nil .nil) ?_
  exact aq_finp hb0 rfl (.cell rfl rfl ty28 (by rfl) (.tmp rfl (by rfl) .nil)) (by rfl) rfl ⟨rfl, rfl⟩
 replace h := ite_f hc3 h
 refine aw_skip ?_
 refine aq_then ?_
 refine aw_seq ?_
 refine aw_rs ?_
 refine .l 2 0 [] (.d (eGLine a0)) (.d (eGLine a0)) ty69 ?_
 refine .m rfl ?_
 obtain ⟨y4, hy5, h⟩ := bind_some h
 refine .w (f_callG (xs := [.d (eGLine a0), .U a1]) (r := .fn (.func 116) [] [.ptr 1050 0 [], .ptr 1051 0 []]) (hw := [(1050, .av (.d (eGLine y4.1))), (1051, .av (.U y4.2))]) (fun i => bif Nat.beq i 3 then 1051 else (bif Nat.beq i 2 then 1050 else i)) [] hgl (by rfl) (cal_f en75) rfl (by rfl) (by rfl) (by rfl) (by rfl) (.cons (.same _) (.cons (.same _) .nil)) rfl rfl rfl rfl (F75_queue_run_ok hy5)) rfl (.c rfl (.c rfl .nil)) .nil (.cons rfl (.cons rfl .nil)) ?_
 refine .nil (aq_then ?_)
 refine aw_block ?_
 refine aw_range 1053 1052 hro rfl Tryz.func116 rfl rfl en116 rfl rfl rfl (by rfl) ?_
 intro C6 lp6 E6 hro6 hg6 hb6 hst6 hpd6 hps6 has6 hbd6 hpin6 hend6
 refine aw_rds ?_
 refine .v1 (f_fieldAddr (n := 32) (by rfl) fl69_1 (by decide)) rfl rfl ?_
 refine .v (f_load (n := 0) (o := 1050) (off := (0 + 32)) (p := [1]) (c := .d (eGLine y4.1)) (z := .d (eL28 y4.1.Txs)) (by rfl) rfl ty28 (by rfl)) rfl (.c rfl .nil) (.cons rfl .nil) ?_
 refine .v (f_load (n := 0) (o := 1050) (off := 0) (p := []) (c := .d (eGLine y4.1)) (z := .d (eGLine y4.1)) (by rfl) rfl ty69 (by rfl)) rfl (.c rfl .nil) (.cons rfl .nil) ?_
 obtain ⟨y7, hy8, h⟩ := bind_some h
 refine .w (f_callG (xs := [.d (eGLine y4.1)]) (r := .st [.d (eL28 y7), .fn (.func 115) [] []]) (hw := [(1054, .av (.st [.d (eL28 y7), .fn (.func 115) [] []]))]) (fun i => bif Nat.beq i 2 then 1054 else i) [] (hg6.trans hgl) (by rfl) (cal_f en72) rfl (by rfl) (by rfl) (by rfl) (by rfl) (.cons (.same _) .nil) rfl rfl rfl rfl (F72_queue_nonces_ok hy8)) rfl (.c rfl .nil) .nil (.cons rfl .nil) ?_
 refine .v (f_load (n := 0) (o := 1051) (off := 0) (p := []) (c := .U y4.2) (z := .U y4.2) (by rfl) rfl ty48 (by rfl)) rfl (.c rfl .nil) (.cons rfl .nil) ?_
 obtain ⟨y9, hy10, h⟩ := bind_some h
 refine .w (f_callG0 (xs := [.st [.d (eL28 y7), .fn (.func 115) [] []], .U y4.2]) (r := .I y9) (fun i => i) [] (hg6.trans hgl) (by rfl) (cal_f en73) rfl (by rfl) (by rfl) (by rfl) (by rfl) (.cons (.same _) (.cons (.same _) .nil)) rfl rfl (F73_api_Tx_ahead_f93_ok hy10)) rfl (.c rfl (.c rfl .nil)) .nil .nil ?_
 obtain ⟨hb11, h⟩ := ifp h
 refine .v2 (f_sliceD (k1 := .i64) (k2 := .i64) (i := y9) (j := ((y4.1.Txs).length : Int)) (xs := (y4.1.Txs).map eGTx) (zs := ((y4.1.Txs).drop (y9).toNat).map eGTx) (by rfl) sl28 (by intro hx; first | rfl | cases hx) (by intro hx; first | (simp; done) | cases hx) hb11.1 hb11.2.1 (by rw [List.length_map]; exact hb11.2.2) (by simp [List.map_take, List.map_drop, List.take_of_length_le])) rfl rfl rfl ?_
 refine .v1 (f_lenD (n := (((y4.1.Txs).drop (y9).toNat)).length) (by rfl) sl28 rfl (by simp)) rfl rfl ?_
 refine .v1 (f_move (by rfl)) rfl rfl ?_
 refine .nil (by kernel_rfl) ?_
 refine aw_block ?_
 refine aw_adoptH 4 1058 99 rfl rfl ?_
 refine aw_weak (s' := ⟨[(0, .yld 1052), (2, .ptr 1051 0 []), (12, .d (eL28 ((y4.1.Txs).drop (y9).toNat))), (13, .I ((((y4.1.Txs).drop (y9).toNat)).length : Int)), (14, .I (0 : Int))], [(1052, .raw (.loop lp6)), (1051, .av (.U y4.2)), (2, .av (.d (eGLine a0))), (4, .av (.slc 1058 0 ((([] : List GTx)).length) 99)), (1050, .av (.d (eGLine y4.1))), (1053, .raw (.deferred (some []))), (1058, .av (.d (.arr 99 ((([] : List GTx)).length) ((([] : List GTx)).map eGTx))))], []⟩) id hb6 (.keep rfl (.keep rfl (.keep rfl (.keep rfl (.keep rfl .nil))))) (.keepH rfl (.keep rfl (.keep rfl (.keep (by simp only [List.length_set]; rfl) (.keep rfl (.keepH rfl (.keep (by simp only [List.length_set]; rfl) .nil))))))) rfl (by rfl) ?_
 obtain ⟨o22, ho23, h⟩ := bind_some h
 refine aw_loopX (σ := Int × Int × List GTx) (fun z => ⟨[(0, .yld 1052), (2, .ptr 1051 0 []), (12, .d (eL28 ((y4.1.Txs).drop (y9).toNat))), (13, .I ((((y4.1.Txs).drop (y9).toNat)).length : Int)), (14, .I z.1)], [(1052, .raw (.loop lp6)), (1051, .av (.U z.2.1)), (2, .av (.d (eGLine a0))), (4, .av (.slc 1058 0 ((z.2.2).length) 99)), (1050, .av (.d (eGLine y4.1))), (1053, .raw (.deferred (some []))), (1058, .av (.d (.arr 99 ((z.2.2).length) ((z.2.2).map eGTx))))], []⟩) (Sum.elim (fun _ => .exit 0) (fun _ => .ret)) (Sum.elim (fun j22 => ⟨[], [(2, .av (.d (eGLine a0))), (4, .av (.slc 1058 0 ((j22.2).length) 99)), (1050, .av (.d (eGLine y4.1))), (1051, .av (.U j22.1)), (1052, .raw (.loop lp6)), (1053, .raw (.deferred (some []))), (1058, .av (.d (.arr 99 ((j22.2).length) ((j22.2).map eGTx))))], []⟩) (fun j22 => ⟨[], [(2, .av (.d (eGLine a0))), (4, .av (.slc 1058 0 ((j22.2).length) 99)), (1050, .av (.d (eGLine y4.1))), (1051, .av (.U j22.1)), (1052, .raw (.loop lp6)), (1053, .raw (.deferred (some []))), (1058, .av (.d (.arr 99 ((j22.2).length) ((j22.2).map eGTx))))], []⟩)) ho23 (by intro b; rcases b with _ | _ <;> rfl) ?_ ?_
 ·clear h ho23
  rintro ⟨z0_0, z0_1, z0_2⟩ o h
  change F35_queue_Ready_s0 y4 y9 z0_0 z0_1 z0_2 = some o at h
  unfold F35_queue_Ready_s0 at h
  show AW _ _ _ ⟨[(0, .yld 1052), (2, .ptr 1051 0 []), (12, .d (eL28 ((y4.1.Txs).drop (y9).toNat))), (13, .I ((((y4.1.Txs).drop (y9).toNat)).length : Int)), (14, .I z0_0)], [(1052, .raw (.loop lp6)), (1051, .av (.U z0_1)), (2, .av (.d (eGLine a0))), (4, .av (.slc 1058 0 ((z0_2).length) 99)), (1050, .av (.d (eGLine y4.1))), (1053, .raw (.deferred (some []))), (1058, .av (.d (.arr 99 ((z0_2).length) ((z0_2).map eGTx))))], []⟩
  refine aw_rs ?_
  refine .b rfl rfl rfl ?_
  refine .nil (aq_then ?_)
  refine aw_seq ?_
  refine aw_cond rfl (fun hc12 => ?_) (fun hc12 => ?_)
  ·replace h := ite_t hc12 h
   refine aw_skip ?_
   refine aq_then ?_
   refine aw_seq ?_
   refine aw_block ?_
   refine aw_rs ?_
   obtain ⟨x13, hx14, h⟩ := bind_some h
   obtain ⟨hx15, hx14⟩ := rd_some hx14
   refine .v2 (f_indexS (by rfl) sl28 hx15 (rd_map _ hx14)) rfl rfl rfl ?_
   refine .v1 (f_loadR (z := (eGTx x13)) (by rfl) ty50) rfl rfl ?_
   refine .n (f_alloc 5 (by rfl) zr50) rfl .nil rfl ?_
   refine .s (f_store (n := 0) (o := 5) (off := 0) (p := []) (c := .d (eGTx (⟨(List.replicate 32 (0 : Int)), (List.replicate 32 (0 : Int)), (0 : Int), (0 : Int), (0 : Int), (List.replicate 32 (0 : Int))⟩ : GTx))) (old := .d (eGTx (⟨(List.replicate 32 (0 : Int)), (List.replicate 32 (0 : Int)), (0 : Int), (0 : Int), (0 : Int), (List.replicate 32 (0 : Int))⟩ : GTx))) (z := .d (eGTx x13)) (c' := .d (eGTx x13)) rfl rfl (by rfl) ty50 (by rfl)) rfl (.c rfl (.c rfl .nil)) (.cons rfl .nil) ?_
   refine .nil (aq_then ?_)
   refine aw_seq ?_
   refine aw_seq ?_
   obtain ⟨o19, ho21, h⟩ := bind_some h
   refine aw_join (.normal) ⟨[(0, .yld 1052), (2, .ptr 1051 0 []), (12, .d (eL28 ((y4.1.Txs).drop (y9).toNat))), (13, .I ((((y4.1.Txs).drop (y9).toNat)).length : Int)), (14, .I z0_0), (27, .B o19.1)], [(1052, .raw (.loop lp6)), (1051, .av (.U z0_1)), (2, .av (.d (eGLine a0))), (4, .av (.slc 1058 0 ((o19.2).length) 99)), (1050, .av (.d (eGLine y4.1))), (1053, .raw (.deferred (some []))), (1058, .av (.d (.arr 99 ((o19.2).length) ((o19.2).map eGTx))))], []⟩ ?_ ?_
   ·replace h := ho21
    refine aw_r ?_
    refine .v1 (f_fieldAddr (n := 64) (by rfl) fl50_2 (by decide)) rfl rfl ?_
    refine .l 5 (0 + 64) [2] (.d (eGTx x13)) (.U x13.Nonce) ty48 ?_
    refine .l 1051 0 [] (.U z0_1) (.U z0_1) ty48 ?_
    refine .b rfl rfl rfl ?_
    refine .m rfl ?_
    rcases Bool.eq_false_or_eq_true (x13.Nonce != z0_1) with hc16 | hc16
    ·replace h := ite_t hc16 h
     refine .q rfl rfl rfl hc16 rfl ?_
     refine .q rfl rfl rfl hc16 rfl ?_
     refine .q rfl rfl rfl hc16 rfl ?_
     refine .q rfl rfl rfl hc16 rfl ?_
     refine .v2 (f_pick_true (by rfl) hc16) rfl rfl rfl ?_
     refine .nil ?_
     obtain rfl := Option.some.inj h
     refine aq_k hb6 (.k 0 rfl (.k 2 rfl (.k 12 rfl (.k 13 rfl (.k 14 rfl (.k 27 rfl .nil)))))) (.k 1052 rfl (.k 1051 rfl (.k 2 rfl (.k 4 rfl (.k 1050 rfl (.k 1053 rfl (.k 1058 rfl .nil))))))) ?_
     exact jq
    replace h := ite_f hc16 h
    refine .g1 (f_move (by rfl)) rfl rfl rfl hc16 rfl ?_
    refine .gv (f_load (n := 0) (o := 5) (off := 0) (p := []) (c := .d (eGTx x13)) (z := .d (eGTx x13)) (by rfl) rfl ty50 (by rfl)) rfl rfl rfl hc16 (.c rfl .nil) (.cons rfl .nil) ?_
    refine R.yield (L := 1052) (r := lp6) (ns2 := Tryz.f35.ntmps) (xs := [.d (eGTx x13)]) (wanted_on rfl rfl rfl hc16) (by rfl) rfl rfl hst6 (by rw [hps6]; rfl) rfl (by rfl) (.c rfl .nil) hpin6 (by rw [hps6]; rfl) ?_
    intro C17 Y17 A17 hr17 hh17 hk17 hp17 he17 hn17
    refine aw_code has6 ?_
    rw [hps6]
    refine aw_r ?_
    refine .n (f_alloc 7 (by rfl) zr50) rfl .nil rfl ?_
    refine .s (f_store (n := 0) (o := 7) (off := 0) (p := []) (c := .d (eGTx (⟨(List.replicate 32 (0 : Int)), (List.replicate 32 (0 : Int)), (0 : Int), (0 : Int), (0 : Int), (List.replicate 32 (0 : Int))⟩ : GTx))) (old := .d (eGTx (⟨(List.replicate 32 (0 : Int)), (List.replicate 32 (0 : Int)), (0 : Int), (0 : Int), (0 : Int), (List.replicate 32 (0 : Int))⟩ : GTx))) (z := .d (eGTx x13)) (c' := .d (eGTx x13)) rfl rfl (by rfl) ty50 (by rfl)) rfl (.c rfl (.c rfl .nil)) (.cons rfl .nil) ?_
    refine .nil ?_
    refine hn17 _ rfl ?_
    refine aw_code hbd6 ?_
    refine aw_block ?_
    refine aw_r ?_
    refine .l 4 0 [] (.slc 1058 0 ((z0_2).length) 99) (.slc 1058 0 ((z0_2).length) 99) ty28 ?_
    refine .l 7 0 [] (.d (eGTx x13)) (.d (eGTx x13)) ty50 ?_
    refine .n (f_buildS (xs := [(0, .d (eGTx x13))]) (z := (.st [(eA46 (List.replicate 32 (0 : Int))), (eA46 (List.replicate 32 (0 : Int))), (.val (.int .u64 (0 : Int))), (.val (.int .u64 (0 : Int))), (.val (.int .u64 (0 : Int))), (eA46 (List.replicate 32 (0 : Int)))])) (zs := (([x13] : List GTx)).map eGTx) 1061 (by rfl) el28 zel28 (by rfl) (by decide) (by decide) rfl (by rfl) ⟨_, _, _, rfl, pl28_0, rfl, rfl, trivial⟩ (by rfl)) rfl (.c rfl .nil) rfl ?_
    obtain ⟨hb18, h⟩ := ifp h
    refine .w (f_appendC (m := ((z0_2 ++ ([x13] : List GTx))).length) (ys := (([x13] : List GTx) : List GTx).map eGTx) (xs := (z0_2).map eGTx) (zs := ((z0_2 ++ ([x13] : List GTx))).map eGTx) 1062 (by rfl) el28 (by simp) (by simp) (by simp [List.map_drop]) (by simp) (Nat.le_trans (Nat.mul_le_mul_right _ hb18) (by decide)) (Nat.le_trans hb18 (by decide)) srcW) rfl (.c rfl (.c rfl .nil)) (.cons rfl (.cons rfl .nil)) (.cons rfl .nil) ?_
    refine .s (f_store (n := 0) (o := 4) (off := 0) (p := []) (c := .slc 1058 0 ((z0_2).length) 99) (old := .slc 1058 0 ((z0_2).length) 99) (z := .slc 1062 0 (((z0_2 ++ ([x13] : List GTx))).length) 99) (c' := .slc 1062 0 (((z0_2 ++ ([x13] : List GTx))).length) 99) rfl rfl (by rfl) ty28 (by rfl)) rfl (.c rfl (.c rfl .nil)) (.cons rfl .nil) ?_
    refine .nil ?_
    refine aq_block ?_
    refine he17 .normal none _ rfl rfl rfl ?_
    refine R.again hst6 hpd6 ?_
    refine .g1 (f_not (by rfl)) rfl rfl rfl hc16 rfl ?_
    refine .v2 (f_pick_false (by rfl) hc16) rfl rfl rfl ?_
    refine .nil ?_
    obtain rfl := Option.some.inj h
    refine aq_weak (s' := ⟨[(0, .yld 1052), (2, .ptr 1051 0 []), (12, .d (eL28 ((y4.1.Txs).drop (y9).toNat))), (13, .I ((((y4.1.Txs).drop (y9).toNat)).length : Int)), (14, .I z0_0), (27, .B (!true))], [(1052, .raw (.loop lp6)), (1051, .av (.U z0_1)), (2, .av (.d (eGLine a0))), (4, .av (.slc 1058 0 (((z0_2 ++ ([x13] : List GTx))).length) 99)), (1050, .av (.d (eGLine y4.1))), (1053, .raw (.deferred (some []))), (1058, .av (.d (.arr 99 (((z0_2 ++ ([x13] : List GTx))).length) (((z0_2 ++ ([x13] : List GTx))).map eGTx))))], []⟩) (fun i => (bif Nat.beq i 1058 then 1062 else i)) hb6 (.cons rfl (.cons rfl (.cons rfl (.cons rfl (.cons rfl (.cons rfl .nil)))))) (.cons rfl (.cons rfl (.cons rfl (.cons rfl (.cons rfl (.cons rfl (.cons rfl .nil))))))) rfl (by rfl) ?_
    exact jq
   refine aq_then ?_
   refine aw_cond rfl (fun hc20 => ?_) (fun hc20 => ?_)
   ·replace h := ite_t hc20 h
    refine aw_ret ?_
    refine aq_then_ret ?_
    refine aq_block_ret ?_
    refine aq_then_ret ?_
    obtain rfl := Option.some.inj h
    refine aq_k hb6 .nil (.k 2 rfl (.k 4 rfl (.k 1050 rfl (.k 1051 rfl (.k 1052 rfl (.k 1053 rfl (.k 1058 rfl .nil))))))) ?_
    exact jq
   replace h := ite_f hc20 h
   refine aw_skip ?_
   refine aq_then ?_
   refine aw_r ?_
   refine .l 1051 0 [] (.U z0_1) (.U z0_1) ty48 ?_
   refine .b rfl rfl rfl ?_
   refine .s (f_store (n := 0) (o := 1051) (off := 0) (p := []) (c := .U z0_1) (old := .U z0_1) (z := .U (IntKind.u64.wrap (z0_1 + (1 : Int)))) (c' := .U (IntKind.u64.wrap (z0_1 + (1 : Int)))) rfl rfl (by rfl) ty48 (by rfl)) rfl (.c rfl (.c rfl .nil)) (.cons rfl .nil) ?_
   refine .nil ?_
   refine aq_block ?_
   refine aq_then ?_
   refine aw_r ?_
   refine .b rfl rfl rfl ?_
   refine .m rfl ?_
   refine .nil ?_
   obtain rfl := Option.some.inj h
   refine aq_k hb6 (.k 0 rfl (.k 2 rfl (.k 12 rfl (.k 13 rfl (.k 14 rfl .nil))))) (.k 1052 rfl (.k 1051 rfl (.k 2 rfl (.k 4 rfl (.k 1050 rfl (.k 1053 rfl (.k 1058 rfl .nil))))))) ?_
   exact jq
  replace h := ite_f hc12 h
  refine aw_exit ?_
  refine aq_then_exit ?_
  obtain rfl := Option.some.inj h
  refine aq_k hb6 .nil (.k 2 rfl (.k 4 rfl (.k 1050 rfl (.k 1051 rfl (.k 1052 rfl (.k 1053 rfl (.k 1058 rfl .nil))))))) ?_
  exact jq
 rcases o22 with j22 | j22
 ·replace h := elim_l h
  refine aq_block_exit ?_
  refine hend6 .normal _ lp6.state lp6.pending (.inr rfl) rfl rfl (by rw [hst6]; simp) ?_
  rw [hpd6]
  refine aq_block ?_
  refine aq_then ?_
  refine aw_rs ?_
  refine .l 4 0 [] (.slc 1058 0 ((j22.2).length) 99) (.slc 1058 0 ((j22.2).length) 99) ty28 ?_
  refine .s (f_store (n := 0) (o := 4) (off := 0) (p := []) (c := .slc 1058 0 ((j22.2).length) 99) (old := .slc 1058 0 ((j22.2).length) 99) (z := .slc 1058 0 ((j22.2).length) 99) (c' := .slc 1058 0 ((j22.2).length) 99) rfl rfl (by rfl) ty28 (by rfl)) rfl (.c rfl (.c rfl .nil)) (.cons rfl .nil) ?_
  refine .a rfl ?_
  refine .nil (aq_then ?_)
  refine aw_ret ?_
  obtain rfl := Option.some.inj h
  refine aq_marks (.inl rfl) ⟨rfl, trivial⟩ ?_
  refine aq_freezeH [(1058, (.arr 99 ((j22.2).length) ((j22.2).map eGTx)))] [(4, .ptr 4 0 []), (5, .I (0 : Int))] [(4, .av (.d (eL28 j22.2)))] (.cons rfl .nil) (.keep rfl (.keep rfl .nil)) (.cons rfl (by rfl) (.whole (.head _)) .nil) ?_
  exact aq_finp hb0 rfl (.cell rfl rfl ty28 (by rfl) (.tmp rfl (by rfl) .nil)) (by rfl) rfl ⟨rfl, rfl⟩
 replace h := elim_r h
 refine aq_block_ret ?_
 refine hend6 .ret _ lp6.state lp6.pending (.inl rfl) rfl rfl (by rw [hst6]; simp) ?_
 rw [hpd6]
 refine aq_block ?_
 refine aq_then ?_
 refine aw_rs ?_
 refine .l 4 0 [] (.slc 1058 0 ((j22.2).length) 99) (.slc 1058 0 ((j22.2).length) 99) ty28 ?_
 refine .s (f_store (n := 0) (o := 4) (off := 0) (p := []) (c := .slc 1058 0 ((j22.2).length) 99) (old := .slc 1058 0 ((j22.2).length) 99) (z := .slc 1058 0 ((j22.2).length) 99) (c' := .slc 1058 0 ((j22.2).length) 99) rfl rfl (by rfl) ty28 (by rfl)) rfl (.c rfl (.c rfl .nil)) (.cons rfl .nil) ?_
 refine .a rfl ?_
 refine .nil (aq_then ?_)
 refine aw_ret ?_
 obtain rfl := Option.some.inj h
 refine aq_marks (.inl rfl) ⟨rfl, trivial⟩ ?_
 refine aq_freezeH [(1058, (.arr 99 ((j22.2).length) ((j22.2).map eGTx)))] [(4, .ptr 4 0 []), (5, .I (0 : Int))] [(4, .av (.d (eL28 j22.2)))] (.cons rfl .nil) (.keep rfl (.keep rfl .nil)) (.cons rfl (by rfl) (.whole (.head _)) .nil) ?_
 exact aq_finp hb0 rfl (.cell rfl rfl ty28 (by rfl) (.tmp rfl (by rfl) .nil)) (by rfl) rfl ⟨rfl, rfl⟩
end Go.Proofs.YtonfljoibcnlgaaGreatDoor
