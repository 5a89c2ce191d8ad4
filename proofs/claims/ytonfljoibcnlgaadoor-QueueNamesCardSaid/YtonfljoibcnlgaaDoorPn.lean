/-
  QueueNames answers true: reckoned, part by part. No machine is in sight.
-/
import Derived.Test.YtonfljoibcnlgaaDoorPl
namespace Go.Proofs.YtonfljoibcnlgaaDoor
open Bd Go

def qz : List Int := [0, 0, 0, 0, 0, 0, 0, 0, 0, 0, 0, 0, 0, 0, 0, 0, 0, 0, 0, 0, 0, 0, 0, 0, 0, 0, 0, 0, 0, 0, 0, 0]
def qk : List Int := [56, 166, 70, 70, 228, 206, 210, 25, 143, 66, 248, 228, 137, 122, 78, 206, 204, 41, 118, 186, 208, 208, 216, 143, 75, 173, 95, 202, 98, 120, 149, 113]
def t31 : GTx := ⟨qz, qz, 3, 0, 1, [13, 185, 7, 124, 63, 122, 86, 20, 255, 30, 215, 64, 207, 127, 194, 174, 123, 223, 37, 37, 2, 251, 78, 251, 36, 43, 59, 97, 13, 96, 255, 216]⟩
def t41 : GTx := ⟨qz, qz, 4, 0, 1, [60, 169, 235, 254, 97, 242, 62, 138, 161, 222, 150, 170, 144, 188, 177, 136, 151, 49, 184, 106, 158, 112, 125, 32, 92, 230, 143, 191, 8, 181, 111, 1]⟩
def t61 : GTx := ⟨qz, qz, 6, 0, 1, [177, 145, 175, 63, 237, 166, 248, 187, 188, 240, 239, 243, 244, 9, 74, 68, 243, 251, 67, 11, 242, 198, 152, 165, 168, 119, 99, 92, 16, 119, 242, 219]⟩
def t42 : GTx := ⟨qz, qz, 4, 0, 2, [186, 25, 22, 196, 169, 158, 178, 106, 5, 66, 238, 217, 45, 121, 119, 26, 70, 167, 87, 40, 187, 120, 42, 149, 113, 90, 38, 61, 117, 219, 217, 57]⟩
def t50 : GTx := ⟨qz, qz, 5, 0, 0, [227, 225, 98, 140, 8, 160, 18, 202, 80, 10, 242, 51, 139, 67, 74, 14, 230, 155, 122, 161, 85, 215, 134, 47, 141, 190, 81, 188, 155, 217, 188, 56]⟩
def tal : GTx := ⟨[1, 0, 0, 0, 0, 0, 0, 0, 0, 0, 0, 0, 0, 0, 0, 0, 0, 0, 0, 0, 0, 0, 0, 0, 0, 0, 0, 0, 0, 0, 0, 0], qz, 0, 0, 0, [174, 6, 76, 10, 60, 118, 187, 229, 214, 248, 73, 28, 195, 220, 40, 154, 180, 245, 114, 77, 115, 41, 240, 231, 107, 49, 191, 27, 49, 240, 146, 99]⟩
theorem v_line : F35_beadrolllaw19_line 300 = some ⟨qk, [t31, t41, t61]⟩ := by kernel_rfl
theorem v_41 : F36_beadrolllaw19_one 300 4 1 = some t41 := by kernel_rfl
theorem v_42 : F36_beadrolllaw19_one 300 4 2 = some t42 := by kernel_rfl
theorem v_50 : F36_beadrolllaw19_one 300 5 0 = some t50 := by kernel_rfl
theorem v_al : F37_tx_Sign 300 (⟨((List.replicate 32 (0 : Int)).set 0 (1 : Int)), (List.replicate 32 (0 : Int)), (0 : Int), (0 : Int), (0 : Int), (List.replicate 32 (0 : Int))⟩ : GTx) = some tal := by kernel_rfl
theorem v_put1 : F34_queue_Put 300 ⟨qk, [t31, t41, t61]⟩ t41 = some (⟨qz, []⟩, [], 190) := by kernel_rfl
theorem v_put2 : F34_queue_Put 300 ⟨qk, [t31, t41, t61]⟩ t42 = some (⟨qk, [t31, t42, t61]⟩, [t41], 0) := by kernel_rfl
theorem v_put3 : F34_queue_Put 300 ⟨qk, [t31, t41, t61]⟩ tal = some (⟨qz, []⟩, [], 2) := by kernel_rfl
theorem v_put4 : F34_queue_Put 300 ⟨qk, [t31, t41, t61]⟩ t50 = some (⟨qk, [t31, t41, t50, t61]⟩, [], 0) := by kernel_rfl
theorem v_ready : F16_queue_Ready 300 ⟨qk, [t31, t41, t50, t61]⟩ 3 = some ([t31, t41, t50, t61], 0) := by kernel_rfl
theorem v_same : F20_beadrollref19_SameTxs 300 [t41] [t41] = some true := by kernel_rfl
theorem v_bad : F18_queue_Check 300 (⟨(List.replicate 32 (0 : Int)), ([(⟨(List.replicate 32 (0 : Int)), (List.replicate 32 (0 : Int)), (0 : Int), (0 : Int), (0 : Int), (List.replicate 32 (0 : Int))⟩ : GTx)] : List GTx)⟩ : GLine) = some 8 := by kernel_rfl

theorem names_val : F5_beadrolllaw19_QueueNames 300 = some true := by
  unfold F5_beadrolllaw19_QueueNames
  simp only [v_line, v_41, v_42, v_50, v_al, v_put1, v_put2, v_put3, v_put4, v_ready, v_same, v_bad, alive_val, Option.bind_some]
  rfl
end Go.Proofs.YtonfljoibcnlgaaDoor
