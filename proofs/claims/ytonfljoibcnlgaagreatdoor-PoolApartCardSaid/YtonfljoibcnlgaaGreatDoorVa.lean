import Derived.Test.YtonfljoibcnlgaaGreatDoorXz
import Derived.KernelRfl
namespace Go.Proofs.YtonfljoibcnlgaaGreatDoor
open Bd Go
theorem v_pa7 : F26_pool_At 1000 ((List.replicate 32 (0 : Int)).set 31 (7 : Int)) 4 = some ((3), (0)) := by kernel_rfl
def pn2_0 : List GShard := [⟨[]⟩, ⟨[]⟩]
theorem v_pn2 : F60_pool_New 1000 2 = some (pn2_0, (0)) := by kernel_rfl
def ps1 : GTx := ⟨[(0), (0), (0), (0), (0), (0), (0), (0), (0), (0), (0), (0), (0), (0), (0), (0), (0), (0), (0), (0), (0), (0), (0), (0), (0), (0), (0), (0), (0), (0), (0), (0)], [(0), (0), (0), (0), (0), (0), (0), (0), (0), (0), (0), (0), (0), (0), (0), (0), (0), (0), (0), (0), (0), (0), (0), (0), (0), (0), (0), (0), (0), (0), (0), (0)], (0), (0), (1), [(76), (2), (123), (146), (193), (248), (159), (249), (16), (160), (34), (48), (131), (75), (243), (81), (85), (47), (29), (245), (231), (170), (43), (27), (226), (104), (68), (54), (228), (255), (198), (2)]⟩
theorem v_ps1 : F61_tx_Sign 1000 (⟨(List.replicate 32 (0 : Int)), (List.replicate 32 (0 : Int)), (0 : Int), (0 : Int), (1 : Int), (List.replicate 32 (0 : Int))⟩ : GTx) = some ps1 := by kernel_rfl
def pm_0 : List GShard := [⟨[]⟩, ⟨[⟨[(56), (166), (70), (70), (228), (206), (210), (25), (143), (66), (248), (228), (137), (122), (78), (206), (204), (41), (118), (186), (208), (208), (216), (143), (75), (173), (95), (202), (98), (120), (149), (113)], [⟨[(0), (0), (0), (0), (0), (0), (0), (0), (0), (0), (0), (0), (0), (0), (0), (0), (0), (0), (0), (0), (0), (0), (0), (0), (0), (0), (0), (0), (0), (0), (0), (0)], [(0), (0), (0), (0), (0), (0), (0), (0), (0), (0), (0), (0), (0), (0), (0), (0), (0), (0), (0), (0), (0), (0), (0), (0), (0), (0), (0), (0), (0), (0), (0), (0)], (0), (0), (1), [(76), (2), (123), (146), (193), (248), (159), (249), (16), (160), (34), (48), (131), (75), (243), (81), (85), (47), (29), (245), (231), (170), (43), (27), (226), (104), (68), (54), (228), (255), (198), (2)]⟩]⟩]⟩]
def pm_1 : List GTx := []
theorem v_pm : F18_pool_Submit 1000 pn2_0 4 (⟨[], (0 : Int)⟩ : GTree) ps1 = some (pm_0, pm_1, (0)) := by kernel_rfl
theorem v_cm : F62_pool_Count 1000 pm_0 = some (1) := by kernel_rfl
theorem v_cl : F62_pool_Count 1000 pn2_0 = some (0) := by kernel_rfl
theorem poalive_val : F25_beadrolllaw21_alive 1000 = some true := by
  unfold F25_beadrolllaw21_alive
  simp only [v_pa7, v_pn2, v_ps1, v_pm, v_cm, v_cl, Option.bind_some]
  rfl
end Go.Proofs.YtonfljoibcnlgaaGreatDoor
