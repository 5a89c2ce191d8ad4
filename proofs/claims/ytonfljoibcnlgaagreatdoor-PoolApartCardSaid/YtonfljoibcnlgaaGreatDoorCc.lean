import Derived.Test.YtonfljoibcnlgaaGreatDoorCb
namespace Bd
open Go
def idxs (k : Nat) : List D → List (Nat × AV)
 | [] => []
 | v :: vs => (k, .d v) :: idxs (k + 1) vs
section
variable {P₀ : Program} {ns : Nat} {C : Ctx P₀ ns} {ops : Array Oper} {d ty : Nat} {ps : String} {af : Array Edge} {gd : Option (Nat × Bool)}
end
end Bd
