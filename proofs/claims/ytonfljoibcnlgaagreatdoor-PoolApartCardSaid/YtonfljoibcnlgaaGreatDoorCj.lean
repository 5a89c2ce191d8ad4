import Derived.Test.YtonfljoibcnlgaaGreatDoorCi
namespace Bd
open Go
section
variable {P₀ : Program} {ns : Nat} {C : Ctx P₀ ns} {ops : Array Oper} {os : List Oper} {Q : Exit → Act → World → Prop} {K : AS → Prop} {acc : List FD} {e : Env} {h : Heap} {ds : List Nat} {d ty : Nat} {ps : String} {af : Array Edge} {x y : Operand} {u : AV}
theorem R.m (hx : evalA C e x = some u) (k : R C ops os ⟨(d, u) :: e, h, ds⟩ Q) (hlt : Nat.blt d C.n = true := by rfl) : R C ops (⟨some d, .move x, ty, ps, af, none⟩ :: os) ⟨e, h, ds⟩ Q := .mv hx hlt k
theorem R.a (hx : evalA C e x = some u) (k : R C ops os ⟨(d, u) :: e, h, ds⟩ Q) (hlt : Nat.blt d C.n = true := by rfl) : R C ops (⟨some d, .assign x, ty, ps, af, none⟩ :: os) ⟨e, h, ds⟩ Q := .as hx hlt k
theorem R.b {op : BinOp} {k : IntKind} {a b : Int} {t t' : TypeId} {r : Value} (hx : evalA C e x = some (.d (.val (.int k a)))) (hy : evalA C e y = some (.d (.val (.int k b)))) (hr : binI op k a b = some r)
  (kk : R C ops os ⟨(d, .d (.val r)) :: e, h, ds⟩ Q) (hl : leafV r = true := by rfl) (hlt : Nat.blt d C.n = true := by rfl) : R C ops (⟨some d, .binOp op t x y t', ty, ps, af, none⟩ :: os) ⟨e, h, ds⟩ Q := .bi hx hy hr hl hlt kk
theorem R.l {t : TypeId} (o off : Nat) (p : List Nat) (c z : AV) (ht : tyB C.P t = some (z.isAgg, z.size)) (k : R C ops os ⟨(d, z) :: e, h, ds⟩ Q) (hx : evalA C e x = some (.ptr o off p) := by exact rfl) (hh : Heap.get h o = some (.av c) := by exact rfl)
  (ha : c.at p = some (off, z) := by exact rfl) (hm : z.mem = true := by rfl) (hlt : Nat.blt d C.n = true := by rfl) : R C ops (⟨some d, .load t x, ty, ps, af, none⟩ :: os) ⟨e, h, ds⟩ Q :=
 .v (f_load (n := 0) hlt ha ht hm) rfl (.c hx .nil) (.cons hh .nil) k
theorem R.z {s : AS} {rid : Nat} {ops2 : Array Oper} {y2 : Code} (k : R C ops2 ops2.toList s (Exit.then (y2.wpIn C.fence 0 C.P Q) Q)) : R C ops [] s (Exit.then ((Code.seq (.region rid ops2 false) y2).wpIn C.fence 0 C.P Q) Q) := .nil (aq_then (aw_rs k))
end
end Bd
