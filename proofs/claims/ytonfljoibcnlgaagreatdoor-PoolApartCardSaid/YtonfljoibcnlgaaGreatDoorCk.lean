import Derived.Test.YtonfljoibcnlgaaGreatDoorCj
namespace Bd
open Go
theorem RenEnv.k {e : Env} (t : Nat) {x : AV} {l : Env} (h : e.get t = some x) (k : RenEnv id e l) : RenEnv id e ((t, x) :: l) := .keep h k
theorem RenHp.k {e : Heap} (t : Nat) {x : HO} {l : Heap} (h : e.get t = some x) (k : RenHp id e l) : RenHp id e ((t, x) :: l) := .keepH h k
theorem aq_k {P₀ : Program} {ns : Nat} {C : Ctx P₀ ns} {env env' : Env} {hp hp' : Heap} {ds : List Nat} {e : Exit} {Q : Exit → Act → World → Prop} {hp0 : Heap} (hb : ∀ o, hp0.get o = none → C.base o = none) (hE : RenEnv id env env') (hH : RenHp id hp hp')
    (h : AQ C Q e ⟨env', hp', ds⟩) (hc : weakB id hp0 ⟨env', hp', ds⟩ = true := by rfl) : AQ C Q e ⟨env, hp, ds⟩ := aq_weak (s' := ⟨env', hp', ds⟩) id hb hE hH rfl hc h
@[reducible] def AV.I (x : Int) : AV := .d (.val (.int .i64 x))
@[reducible] def AV.U (x : Int) : AV := .d (.val (.int .u64 x))
@[reducible] def AV.N : AV := .d (.val (.slice none 0 0))
@[reducible] def AV.B (x : Bool) : AV := .d (.val (.bool x))
theorem aw_k {P₀ : Program} {ns : Nat} {C : Ctx P₀ ns} {env env' : Env} {hp hp' : Heap} {ds : List Nat} {c : Code} {Q : Exit → Act → World → Prop} {hp0 : Heap} (hb : ∀ o, hp0.get o = none → C.base o = none) (hE : RenEnv id env env') (hH : RenHp id hp hp')
    (h : AW C c Q ⟨env', hp', ds⟩) (hc : weakB id hp0 ⟨env', hp', ds⟩ = true := by rfl) : AW C c Q ⟨env, hp, ds⟩ := aw_weak (s' := ⟨env', hp', ds⟩) id hb hE hH rfl hc h
section
variable {P₀ : Program} {ns : Nat} {C : Ctx P₀ ns} {ops : Array Oper} {os : List Oper} {Q : Exit → Act → World → Prop} {e : Env} {h : Heap} {ds : List Nat} {d j g : Nat} {o : Oper} {x u v : AV} {y z : Operand} {b want : Bool}
theorem R.v1 (f : Fact C o { er := [(y, u)], d := some (d, x) }) (hg : o.guard = none) (hy : evalA C e y = some u) (k : R C ops os ⟨(d, x) :: e, h, ds⟩ Q) : R C ops (o :: os) ⟨e, h, ds⟩ Q := .v f hg (.c hy .nil) .nil k
theorem R.v2 (f : Fact C o { er := [(y, u), (z, v)], d := some (d, x) }) (hg : o.guard = none) (hy : evalA C e y = some u) (hz : evalA C e z = some v) (k : R C ops os ⟨(d, x) :: e, h, ds⟩ Q) : R C ops (o :: os) ⟨e, h, ds⟩ Q := .v f hg (.c hy (.c hz .nil)) .nil k
theorem R.q (hg : o.guard = some (j, want)) (hj : ((ops[j]?).bind (·.dst)) = some g) (hgv : evalA C e (.tmp g) = some (.d (.val (.bool b)))) (hb : b = !want) (hd : o.dst = some d) (k : R C ops os ⟨(d, .res []) :: e, h, ds⟩ Q) (hlt : Nat.blt d C.n = true := by rfl) : R C ops (o :: os) ⟨e, h, ds⟩ Q := .off hg hj hgv hb hd hlt k
theorem R.g1 (f : Fact C o { er := [(y, u)], d := some (d, x) }) (hg : o.guard = some (j, want)) (hj : ((ops[j]?).bind (·.dst)) = some g) (hgv : evalA C e (.tmp g) = some (.d (.val (.bool b)))) (hb : b = want) (hy : evalA C e y = some u) (k : R C ops os ⟨(d, x) :: e, h, ds⟩ Q) : R C ops (o :: os) ⟨e, h, ds⟩ Q := .gv f hg hj hgv hb (.c hy .nil) .nil k
theorem R.g2 (f : Fact C o { er := [(y, u), (z, v)], d := some (d, x) }) (hg : o.guard = some (j, want)) (hj : ((ops[j]?).bind (·.dst)) = some g) (hgv : evalA C e (.tmp g) = some (.d (.val (.bool b)))) (hb : b = want) (hy : evalA C e y = some u) (hz : evalA C e z = some v) (k : R C ops os ⟨(d, x) :: e, h, ds⟩ Q) :
    R C ops (o :: os) ⟨e, h, ds⟩ Q := .gv f hg hj hgv hb (.c hy (.c hz .nil)) .nil k
variable {K : AS → Prop} {acc : List FD}
theorem RD.v1 (f : Fact C o { er := [(y, u)], d := some (d, x) }) (hg : o.guard = none) (hy : evalA C e y = some u) (k : RD C ops os ({ er := [(y, u)], d := some (d, x) } :: acc) ⟨(d, x) :: e, h, ds⟩ K) : RD C ops (o :: os) acc ⟨e, h, ds⟩ K := .v f hg (.c hy .nil) .nil k
theorem RD.v2 (f : Fact C o { er := [(y, u), (z, v)], d := some (d, x) }) (hg : o.guard = none) (hy : evalA C e y = some u) (hz : evalA C e z = some v) (k : RD C ops os ({ er := [(y, u), (z, v)], d := some (d, x) } :: acc) ⟨(d, x) :: e, h, ds⟩ K) : RD C ops (o :: os) acc ⟨e, h, ds⟩ K := .v f hg (.c hy (.c hz .nil)) .nil k
theorem RD.q (hg : o.guard = some (j, want)) (hj : ((ops[j]?).bind (·.dst)) = some g) (hgv : evalA C e (.tmp g) = some (.d (.val (.bool b)))) (hb : b = !want) (hd : o.dst = some d) (k : RD C ops os ({ er := [(.tmp g, .d (.val (.bool b)))], d := some (d, .res []) } :: acc) ⟨(d, .res []) :: e, h, ds⟩ K) (hlt : Nat.blt d C.n = true := by rfl) : RD C ops (o :: os) acc ⟨e, h, ds⟩ K := .off hg hj hgv hb hd hlt k
theorem RD.g1 (f : Fact C o { er := [(y, u)], d := some (d, x) }) (hg : o.guard = some (j, want)) (hj : ((ops[j]?).bind (·.dst)) = some g) (hgv : evalA C e (.tmp g) = some (.d (.val (.bool b)))) (hb : b = want) (hy : evalA C e y = some u) (k : RD C ops os ({ er := (.tmp g, .d (.val (.bool b))) :: [(y, u)], d := some (d, x) } :: acc) ⟨(d, x) :: e, h, ds⟩ K) : RD C ops (o :: os) acc ⟨e, h, ds⟩ K := .gv f hg hj hgv hb (.c hy .nil) .nil k
theorem RD.g2 (f : Fact C o { er := [(y, u), (z, v)], d := some (d, x) }) (hg : o.guard = some (j, want)) (hj : ((ops[j]?).bind (·.dst)) = some g) (hgv : evalA C e (.tmp g) = some (.d (.val (.bool b)))) (hb : b = want) (hy : evalA C e y = some u) (hz : evalA C e z = some v) (k : RD C ops os ({ er := (.tmp g, .d (.val (.bool b))) :: [(y, u), (z, v)], d := some (d, x) } :: acc) ⟨(d, x) :: e, h, ds⟩ K) :
    RD C ops (o :: os) acc ⟨e, h, ds⟩ K := .gv f hg hj hgv hb (.c hy (.c hz .nil)) .nil k
end
end Bd
