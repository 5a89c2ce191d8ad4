import Derived.Test.YtonfljoibcnlgaaGreatDoorCd
import Derived.Lib.Overlaps
import Derived.Lib.AppendZeros
namespace Bd
open Go
abbrev xS (b off len cap : Nat) : AV := .d (.val (.slice (some ⟨b, off, none⟩) len cap))
theorem obj_place {F : Nat → Prop} {μ : Mu} {may : Nat → Prop} {hp : Heap} {w : World} {o : Nat} {c : HO} (hi : Inv F μ may hp w) (h : hp.get o = some c) : ∃ p, μ o = some p := by
 have := hi.obj o c h
 cases c with
 | av x =>
  rcases this with ⟨k, _⟩ | ⟨b, ba, tt, _, _, k, _⟩
  ·exact ⟨_, k⟩
  ·exact ⟨_, k⟩
 | raw ob => obtain ⟨b, ba, tt, k, _⟩ := this; exact ⟨_, k⟩
 | dead => exact this
theorem acall_of_body1 {P : Program} {gs : List (Nat × D)} {f : FuncId} {fn : Func} {c : Code} {args : List AV} {hp : Heap} {K : AV → Heap → Prop} (hm : P.follows .mixedOrders = true)
  (hf : P.funcs[f]? = some fn) (hb : fn.body = some c) (hn : Nat.ble args.length fn.ntmps = true)
  (h : ∀ C : Ctx P fn.ntmps, C.round = none → C.globs = gs → (∀ o, hp.get o = none → C.base o = none) → (∀ o c, hp.get o = some c → ∃ p, C.base o = some p) → AW C c (Fin C fn K) ⟨argEnv args 0, hp, []⟩) : ACall P gs f args hp K := by
 intro F μ may w vs hinv hargs hgl hnew hap
 let C : Ctx P fn.ntmps := { w0 := w, F0 := F, base := μ, may, round := none, globs := gs, new := hnew, apart := hap, mixed := hm }
 have hlen := rac_length hargs
 have hle : args.length ≤ fn.ntmps := Nat.le_of_ble_eq_true hn
 refine callsIn_of_wp_marks hf hb trivial (h C rfl rfl hinv.dom (fun o c hc => obj_place hinv hc) _ _ ⟨F, μ, hinv, ?_, ?_, rfl, Fr.refl _ _, fun _ h => h, fun _ _ h => h, hgl, fun _ h => .inl h⟩)
 ·intro i x hi
  obtain ⟨_, hx⟩ := argEnv_get hi
  simp only [Nat.sub_zero] at hx
  obtain ⟨v, h1, h2, h3⟩ := rac_get hargs hx
  have hvi : i < vs.length := (List.getElem?_eq_some_iff.1 h1).1
  have hg : (vs.toArray ++ Array.replicate (fn.ntmps - vs.toArray.size) undef).getD i undef = v := by
   have : vs[i] = v := by rw [List.getElem?_eq_getElem hvi] at h1; simpa using h1
   rw [Array.getD_eq_getD_getElem?, Array.getElem?_append_left (by simpa using hvi)]
   simp [hvi, this]
  simp only [hg]
  cases x with
  | res xs => simp only [RA] at h2
  | junk => simp only [RA] at h2
  | _ => exact ⟨h2, h3⟩
 ·show _ = fn.ntmps
  simp; omega
section
variable {P₀ : Program} {ns : Nat} {C : Ctx P₀ ns} {Q : Exit → Act → World → Prop} {s : AS}
theorem aw_exact {c : Code} (t : Nat) {o n sz : Nat} (he : s.env.get t = some (.slc o 0 n sz)) (hb : ∃ p, C.base o = some p) (hn : 0 < n)
  (h : ∀ b base tot cap, C.base o = some (.at b base tot) → n ≤ cap → base + cap * sz ≤ tot → AW C c Q ⟨(t, xS b base n cap) :: s.env, s.hp, s.dfs⟩) : AW C c Q s := by
 rintro a w ⟨F, μ, hs⟩
 obtain ⟨h1, h2⟩ := hs.env t _ he
 simp only [RA] at h1
 have hc := cells_single h2
 rcases h1 with ⟨_, e0, _⟩ | ⟨b, base, tot, cap, hm, hcap, htot, hv⟩
 ·omega
 ·obtain ⟨p, hp⟩ := hb
  have := hs.base o p hp
  rw [hm] at this; cases this
  have hval : a.tmps.getD t undef = .slice (some ⟨b, base, none⟩) n cap := by
   rw [hv] at hc; simpa using hc.symm
  refine h b base tot cap hp hcap (by simpa using htot) a w ⟨F, μ, ⟨hs.inv, ?_, hs.size, hs.dfs, hs.fr, hs.f0, hs.base, hs.globs, hs.fm⟩⟩
  intro i x hi
  rw [env_get_cons] at hi
  by_cases e : t = i
  ·subst e
   rw [if_pos rfl] at hi; cases hi
   rw [hval]
   exact rv_val_mk rfl
  ·rw [if_neg e] at hi; exact hs.env i x hi
theorem sat_unexact {a : Act} {w : World} (t : Nat) {o n sz b base tot off cap : Nat} (he : s.env.get t = some (xS b (base + off * sz) n cap)) (hb : C.base o = some (.at b base tot)) (hle : n ≤ cap) (ht : base + (off + cap) * sz ≤ tot)
  (hs : Sat C s a w) : Sat C ⟨(t, .slc o off n sz) :: s.env, s.hp, s.dfs⟩ a w := by
 obtain ⟨F, μ, hs⟩ := hs
 refine ⟨F, μ, ⟨hs.inv, ?_, hs.size, hs.dfs, hs.fr, hs.f0, hs.base, hs.globs, hs.fm⟩⟩
 intro i x hi
 rw [env_get_cons] at hi
 by_cases e : t = i
 ·subst e
  rw [if_pos rfl] at hi; cases hi
  have hv := rv_val (hs.env t _ he)
  rw [hv]
  refine ⟨?_, rfl⟩
  simp only [RA]
  exact .inr ⟨b, base, tot, cap, hs.base o _ hb, hle, ht, rfl⟩
 ·rw [if_neg e] at hi; exact hs.env i x hi
theorem aw_unexact {c : Code} (t : Nat) {o n sz b base tot cap : Nat} (he : s.env.get t = some (xS b base n cap)) (hb : C.base o = some (.at b base tot)) (hle : n ≤ cap) (ht : base + cap * sz ≤ tot)
  (h : AW C c Q ⟨(t, .slc o 0 n sz) :: s.env, s.hp, s.dfs⟩) : AW C c Q s := fun a w hs => h a w (sat_unexact (off := 0) t (by simpa using he) hb hle (by simpa using ht) hs)
theorem aq_unexact {ex : Exit} (t : Nat) {o n sz b base tot cap : Nat} (he : s.env.get t = some (xS b base n cap)) (hb : C.base o = some (.at b base tot)) (hle : n ≤ cap) (ht : base + cap * sz ≤ tot)
  (h : AQ C Q ex ⟨(t, .slc o 0 n sz) :: s.env, s.hp, s.dfs⟩) : AQ C Q ex s := fun a w hs => h a w (sat_unexact (off := 0) t (by simpa using he) hb hle (by simpa using ht) hs)
theorem aq_kill {ex : Exit} (o : Nat) {x : D} (ho : s.hp.get o = some (.av (.d x))) (h : AQ C Q ex ⟨s.env, (o, .dead) :: s.hp, s.dfs⟩) : AQ C Q ex s := fun a w ⟨_, _, hs⟩ =>
 h a w ⟨_, _, sat_deads (zs := [(o, x)]) hs (by intro p hp; simp at hp; subst hp; exact ho)⟩
end
theorem run_sliceW {P : Program} {t : TypeId} {sz len cap : Nat} {a : Option Addr} {lo hi : Option Value} {i j : Int} {w : World} (ht : slB P t = some sz) (hl : lo = none ∧ i = 0 ∨ ∃ k, lo = some (.int k i)) (hh : hi = none ∧ j = len ∨ ∃ k, hi = some (.int k j))
  (h0 : 0 ≤ i) (h1 : i ≤ j) (h2 : j ≤ cap) :
  (Instr.sliceAt t (.slice a len cap) lo hi none).run P w = .ok (.slice (if cap = i.toNat then a else a.map (·.add (i.toNat * sz))) (j.toNat - i.toNat) (cap - i.toNat)) w := by
 obtain ⟨e, ag, hu, he⟩ := slB_some ht
 have hj : (j.toNat : Int) = j := Int.toNat_of_nonneg (by omega)
 rcases hl with ⟨rfl, rfl⟩ | ⟨k, rfl⟩ <;> rcases hh with ⟨rfl, rfl⟩ | ⟨k', rfl⟩
 ·simp [Instr.sliceAt, Instr.slice, underlying, program, Sem.run, hu, Instr.sliceBounds, run_sizeOf he]
 ·simp [Instr.sliceAt, Instr.slice, underlying, program, Sem.run, hu, Instr.sliceBounds, run_sizeOf he, run_sliceBound, h1, (by omega : j ≤ (cap : Int)), hj]
 ·simp [Instr.sliceAt, Instr.slice, underlying, program, Sem.run, hu, Instr.sliceBounds, run_sizeOf he, run_sliceBound, h0, h1]
 ·simp [Instr.sliceAt, Instr.slice, underlying, program, Sem.run, hu, Instr.sliceBounds, run_sizeOf he, run_sliceBound, h0, h1, (by omega : 0 ≤ j), (by omega : j ≤ (cap : Int)), hj]
theorem run_append_zerosG {P : Program} (w : World) (t tn ty e : TypeId) (i : TypeInfo) (z : Value) (k kn : IntKind) (ht : P.underlying t = some (.slice e)) (htn : P.underlying tn = some (.int kn)) (hi : P.info? e = some i) (hz : i.zero = some z)
  (b : Addr) (sLen sCap : Nat) (olds : List Value) (hlo : olds.length = sLen * i.size) (holds : ∀ j v, olds[j]? = some v → w.cell? (b.add j) = some v)
  (n : Nat) (h0 : 0 < n) (hs : 0 < i.size) (hg : sCap < sLen + n) (h63 : ((sLen + n : Nat) : Int) ≤ 9223372036854775807) (h48i : n * i.bytes ≤ 281474976710656) (hfit : Builtin.nextslicecap (sLen + n) sCap * i.bytes ≤ 281474976710656) :
  (Builtin.append_ #[t, tn] ty #[.slice (some b) sLen sCap, .int k n]).run P w =
   .ok (.slice (some ⟨w.heap.size, 0, none⟩) (sLen + n) (grownCap w (sLen + n) sCap e))
    (w.drew.alloc (.cells (olds.toArray ++ Builtin.zeroCells z.cells n ++ Builtin.zeroCells z.cells (grownCap w (sLen + n) sCap e - (sLen + n))) e)) := by
 have hn : n ≠ 0 := by omega
 have hw : IntKind.i64.wrap (n : Int) = n := by rw [IntKind.wrap_i64]; omega
 have hnr : ¬ (sLen + n ≤ sCap) := by omega
 have h63' : ¬ (9223372036854775807 < ((sLen : Int) + (n : Int))) := by omega
 have h48' : ¬ (281474976710656 < Builtin.nextslicecap (sLen + n) sCap * i.bytes) := by omega
 have h48j : ¬ (281474976710656 < (n : Int) * (i.bytes : Int)) := by
  rw [← Int.natCast_mul]
  omega
 have hneg : ¬ ((n : Int) < 0) := by omega
 have hns : ¬ (n * i.size = 0) := Nat.mul_ne_zero hn (by omega)
 have hfo := run_firstCells_some (P := P) w.drew i.size sLen b sLen sCap olds hlo (by simpa using holds)
 simp [Builtin.append_, run_underlying ht, run_underlying htn, Go.sizeOf, typeInfo, zeroValue, hi, hz, asInt, asIntOf, hw, hn, hneg, hns, hnr, h63', h48', h48j, Question.forced, hfo, newRow, grownCap]
theorem run_copy_list {P : Program} {w : World} {dT sT ty : TypeId} {sz : Nat} {b o dLen dCap : Nat} {a : Addr} {sLen sCap n : Nat} {news : List Value} {cur : Array Value} {e2 : TypeId} (ht : slB P dT = some sz) (hn : n = Nat.min sLen dLen) (hl : news.length = n * sz)
  (hsrc : ∀ j v, news[j]? = some v → w.cell? (a.add j) = some v) (hg : w.heap[b]? = some (.cells cur e2 (0, 0))) (hfit : o + news.length ≤ cur.size) (h1 : ∀ v ∈ news, leafV v = true) :
  ∃ w', (Builtin.copy_ #[dT, sT] ty #[.slice (some ⟨b, o, none⟩) dLen dCap, .slice (some a) sLen sCap]).run P w = .ok (goInt n) w' ∧
   w'.heap[b]? = some (.cells (cur.toList.take o ++ news ++ cur.toList.drop (o + news.length)).toArray e2 (0, 0)) ∧
   (∀ b', b' ≠ b → w'.heap[b']? = w.heap[b']?) ∧ w'.heap.size = w.heap.size ∧ w'.os = w.os ∧ w'.tape = w.tape ∧ w'.output = w.output := by
 obtain ⟨e, ag, hu, he⟩ := slB_some ht
 have hf := run_firstCells_some (P := P) w sz n a sLen sCap news hl hsrc
 obtain ⟨w', g1, g2⟩ := run_storeCells (P := P) news (w := w) (b := b) (off := o) (i := 0) hg (by simpa using hfit) h1
 refine ⟨w', ?_, by simpa using g2⟩
 simp [Builtin.copy_, run_underlying hu, Builtin.lenOf, run_sizeOf he, ← hn, hf, g1]
theorem run_copy_zero {P : Program} {w : World} {dT sT ty : TypeId} {sz : Nat} {d s : Option Addr} {dLen dCap sLen sCap : Nat} (ht : slB P dT = some sz) (hn : Nat.min sLen dLen = 0) :
  (Builtin.copy_ #[dT, sT] ty #[.slice d dLen dCap, .slice s sLen sCap]).run P w = .ok (goInt 0) w := by
 obtain ⟨e, ag, hu, he⟩ := slB_some ht
 have hf : (Builtin.firstCells sz 0 (.slice s sLen sCap)).run P w = .ok #[] w := by
  cases s with
  | none => exact run_firstCells_none w sz 0 sLen sCap
  | some a => simpa using run_firstCells_some (P := P) w sz 0 a sLen sCap [] (by simp) (by simp)
 cases d with
 | none => simp [Builtin.copy_, run_underlying hu, Builtin.lenOf, run_sizeOf he, hn, hf]
 | some a => simp [Builtin.copy_, run_underlying hu, Builtin.lenOf, run_sizeOf he, hn, hf, storeCells]
section
variable {P₀ : Program} {ns : Nat} {C : Ctx P₀ ns} {ops : Array Oper} {d ty : Nat} {ps : String} {af : Array Edge} {gd : Option (Nat × Bool)} {x y : Operand} {s : AS} {a : Act} {w : World} {F : Nat → Prop} {μ : Mu}
theorem f_lenX {t : TypeId} {ats : Array TypeId} {m b off len cap : Nat} (hlt : Nat.blt d C.n = true) (ht : slB C.P t = some m) (ha : ats[0]? = some t) :
  Fact C ⟨some d, .call ⟨.builtin .len, #[x], ats⟩, ty, ps, af, gd⟩ { er := [(x, xS b off len cap)], d := some (d, .d (.val (.int .i64 len))) } :=
 fact_pure rfl hlt (by intro c h; cases h) fun s a w F μ he hh hs => by
  cases he with
  | cons h1 _ =>
   have hv := rv_val (evalE_ok hs h1)
   obtain ⟨e, ag, hu, he⟩ := slB_some ht
   refine ⟨.int .i64 len, ?_, rv_val_mk rfl⟩
   simp [execOp, resolve, Deferred.ofValue, invoke, builtin, Builtin.len_, ha, hv, underlying, program, Sem.run, hu, goInt]
theorem f_capX {t : TypeId} {ats : Array TypeId} {m b off len cap : Nat} (hlt : Nat.blt d C.n = true) (ht : slB C.P t = some m) (ha : ats[0]? = some t) :
  Fact C ⟨some d, .call ⟨.builtin .cap, #[x], ats⟩, ty, ps, af, gd⟩ { er := [(x, xS b off len cap)], d := some (d, .d (.val (.int .i64 cap))) } :=
 fact_pure rfl hlt (by intro c h; cases h) fun s a w F μ he hh hs => by
  cases he with
  | cons h1 _ =>
   have hv := rv_val (evalE_ok hs h1)
   obtain ⟨e, ag, hu, he⟩ := slB_some ht
   refine ⟨.int .i64 cap, ?_, rv_val_mk rfl⟩
   simp [execOp, resolve, Deferred.ofValue, invoke, builtin, Builtin.cap_, ha, hv, underlying, program, Sem.run, hu, goInt]
theorem f_sliceX {t : TypeId} {lo hi : Option Operand} {k1 k2 : IntKind} {i j : Int} {b off len cap sz : Nat} (hlt : Nat.blt d C.n = true) (ht : slB C.P t = some sz) (hl : lo = none → i = 0) (hh : hi = none → j = len)
  (h0 : 0 ≤ i) (h1 : i ≤ j) (h2 : j ≤ cap) (h3 : i < cap) :
  Fact C ⟨some d, .slice t x lo hi none, ty, ps, af, gd⟩ { er := (x, xS b off len cap) :: (bnd lo k1 i ++ bnd hi k2 j), d := some (d, xS b (off + i.toNat * sz) (j.toNat - i.toNat) (cap - i.toNat)) } :=
 fact_pure rfl hlt (by intro c h; cases h) fun s a w F μ he _ hs => by
  cases he with
  | cons hx he =>
   obtain ⟨e1, e2⟩ := envHas_app he
   have hv := rv_val (evalE_ok hs hx)
   have hrun := run_sliceW (P := C.P) (w := w) (a := some ⟨b, off, none⟩) ht (bnd_ok hs e1 hl) (bnd_ok hs e2 hh) h0 h1 h2
   rw [if_neg (by omega)] at hrun
   simp only [Option.map_some, addr_add] at hrun
   exact ⟨.slice (some ⟨b, off + i.toNat * sz, none⟩) (j.toNat - i.toNat) (cap - i.toNat), by simp only [execOp, hv, Option.map_none, Sem.run_bind, hrun, Result.andThen_ok, Sem.run_pure], rv_val_mk rfl⟩
theorem f_sliceXE {t : TypeId} {lo hi : Option Operand} {k1 k2 : IntKind} {i j : Int} {b off len cap sz : Nat} (off' len' cap' : Nat) (hlt : Nat.blt d C.n = true) (ht : slB C.P t = some sz) (hl : lo = none → i = 0) (hh : hi = none → j = len)
  (h0 : 0 ≤ i) (h1 : i ≤ j) (h2 : j ≤ cap) (h3 : i < cap) (e1 : off + i.toNat * sz = off') (e2 : j.toNat - i.toNat = len') (e3 : cap - i.toNat = cap') :
  Fact C ⟨some d, .slice t x lo hi none, ty, ps, af, gd⟩ { er := (x, xS b off len cap) :: (bnd lo k1 i ++ bnd hi k2 j), d := some (d, xS b off' len' cap') } := by
 subst e1; subst e2; subst e3; exact f_sliceX hlt ht hl hh h0 h1 h2 h3
theorem f_copyX {t t2 : TypeId} {o b base tot sz n p q dl dc sl sc c n' : Nat} {xs zs : List D} (p1 p2 : Nat) (hlt : Nat.blt d C.n = true) (ht : slB C.P t = some sz) (hb : C.base o = some (.at b base tot)) (hxn : xs.length = n) (hc : c = Nat.min sl dl)
  (hp1 : p1 = base + p * sz) (hp2 : p2 = base + q * sz) (hp : p ≤ n) (hq : q + c ≤ n) (hpn : n ≤ p + c) (hroom : base + (p + c) * sz ≤ tot) (hn' : p + c = n') (hzs : xs.take p ++ (xs.drop q).take c = zs) :
  Fact C ⟨some d, .call ⟨.builtin .copy, #[x, y], #[t, t2]⟩, ty, ps, af, gd⟩ { er := [(x, xS b p1 dl dc), (y, xS b p2 sl sc)], hr := [(o, .av (.d (.arr sz n xs)))], d := some (d, .d (.val (.int .i64 c))), hw := [(o, .av (.d (.arr sz n' zs)))] } := by
 subst hp1; subst hp2; subst hn'; subst hzs
 intro s hpre a w nx Q hs k
 obtain ⟨F, μ, hs⟩ := hs
 cases hpre.er with
 | cons hx her => cases her with
  | cons hy _ => cases hpre.hr with
   | cons ho _ =>
    have hxv := rv_val (evalE_ok hs hx)
    have hyv := rv_val (evalE_ok hs hy)
    have hmo := hs.base o _ hb
    rcases hs.inv.obj o _ ho with ⟨k1, _⟩ | ⟨b1, ba1, tt1, el, cs, k1, k2, k3, k4, k5, k6, k7⟩
    ·rw [hmo] at k1; cases k1
    rw [hmo] at k1; cases k1
    simp only [RA, Rep, AV.size, D.size] at k6 k7
    obtain ⟨k7, k8⟩ := k7
    have hblk : blk w b = some cs.toList := by simp [blk, k4]
    have hqn : (q + c) * sz ≤ n * sz := Nat.mul_le_mul_right _ hq
    have hpn' : p * sz ≤ n * sz := Nat.mul_le_mul_right _ hp
    rw [Nat.add_mul] at hqn hroom
    have hnr := (repEach_split c (repEach_split q k8).1).2
    have hpr := (repEach_split p k8).2
    rw [List.take_take, Nat.min_eq_left hpn'] at hpr
    have hnl : ((((cs.toList.drop base).take (n * sz)).drop (q * sz)).take (c * sz)).length = c * sz := by
     simp only [List.length_take, List.length_drop, Array.length_toList]; omega
    obtain ⟨w', hrun, g1, g2, g3, g4, g5, g6⟩ := run_copy_list (P := C.P) (w := w) (dT := t) (sT := t2) (ty := ty) (b := b) (o := base + p * sz) (dLen := dl) (dCap := dc) (a := ⟨b, base + q * sz, none⟩) (sLen := sl) (sCap := sc) ht hc hnl (fun j v hj => by
     rw [addr_add, blk_cell hblk]
     rw [List.getElem?_take] at hj
     split at hj
     ·rw [List.getElem?_drop, List.getElem?_take] at hj
      split at hj
      ·rw [List.getElem?_drop] at hj; rw [← hj]; congr 1; omega
      ·cases hj
     ·cases hj) k4 (by rw [hnl]; omega) (repEach_leaf hnr)
    have h1 := sat_turn (c' := .d (.arr sz (p + c) (xs.take p ++ (xs.drop q).take c))) hs ho hmo k2 k3 g1 (by
      simp only [List.size_toArray, List.length_append, List.length_take, List.length_drop, Array.length_toList] at hnl ⊢; omega) (by simp only [AV.size, D.size, Nat.add_mul]; omega) (fun F' μ' hext => by
     simp only [RA, Rep, AV.size, D.size]
     refine ⟨by simp only [List.length_append, List.length_take, List.length_drop]; omega, ?_⟩
     generalize hnews : ((((cs.toList.drop base).take (n * sz)).drop (q * sz)).take (c * sz)) = news at *
     have e5 : ((cs.toList.take (base + p * sz) ++ news ++ cs.toList.drop (base + p * sz + news.length)).drop base).take ((p + c) * sz) = (cs.toList.drop base).take (p * sz) ++ news := by
      have hcl : cs.toList.length = cs.size := by simp
      rw [List.append_assoc, List.drop_append_of_le_length (by simp only [List.length_take]; omega), List.drop_take, show base + p * sz - base = p * sz from by omega, ← List.append_assoc,
       List.take_append_of_le_length (by simp only [List.length_append, List.length_take, List.length_drop, hnl, Nat.add_mul]; omega), List.take_of_length_le (by simp only [List.length_append, List.length_take, List.length_drop, hnl, Nat.add_mul]; omega)]
     rw [e5]
     exact repEach_append (repEach_mono hext.fro hext.kept hpr) (repEach_mono hext.fro hext.kept hnr)) g2 g3 g4 g5 g6
    exact wpIn_value (v := goInt c) (w' := w') (by intro c h; cases h) (by simp [execOp, resolve, Deferred.ofValue, invoke, builtin, hxv, hyv, hrun]) (k _ _ ⟨F, μ, sat_put h1 (by simpa [Nat.blt_eq] using hlt) (rv_val_mk rfl)⟩)
theorem sat_rewrite {o : Nat} {c : HO} (ho : s.hp.get o = some c) (hs : SatW C s a w F μ) : SatW C ⟨s.env, (o, c) :: s.hp, s.dfs⟩ a w F μ :=
 ⟨inv_same (fun j => by
  rw [heap_get_cons]
  split
  ·next e => subst e; exact ho.symm
  ·rfl) hs.inv, hs.env, hs.size, hs.dfs, hs.fr, hs.f0, hs.base, hs.globs, hs.fm⟩
theorem f_copyO {t t2 : TypeId} {o off len sz n c : Nat} {xs ys zs : List D} {er2 : List (Operand × AV)} {hr2 : List (Nat × HO)} (hlt : Nat.blt d C.n = true) (ht : slB C.P t = some sz) (hle : off + len ≤ n) (hxn : xs.length = n) (hc : c = Nat.min ys.length len)
  (hzs : xs.take off ++ ys.take c ++ xs.drop (off + c) = zs) (hsrc : Src C y sz ys er2 hr2) :
  Fact C ⟨some d, .call ⟨.builtin .copy, #[x, y], #[t, t2]⟩, ty, ps, af, gd⟩ { er := (x, .slc o off len sz) :: er2, hr := (o, .av (.d (.arr sz n xs))) :: hr2, d := some (d, .d (.val (.int .i64 c))), hw := [(o, .av (.d (.arr sz n zs)))] } := by
 subst hzs
 intro s hpre a w nx Q hs k
 obtain ⟨F, μ, hs⟩ := hs
 cases hpre.er with
 | cons hx her => cases hpre.hr with
  | cons ho hho =>
   obtain ⟨hx1, hx2⟩ := evalE_ok hs hx
   simp only [RA] at hx1
   have hxc := cells_single (v := a.eval x) hx2
   obtain ⟨ad, cap2, news, hyv, hnl, hnr, hna⟩ := hsrc s a w F μ hs her hho
   by_cases h0 : c = 0
   ·have hxs : ∃ ad0 cap0, a.eval x = .slice ad0 len cap0 := by
     rcases hx1 with ⟨_, rfl, ad0, hxv⟩ | ⟨b, base, tot, cap, _, _, _, hxv⟩
     ·exact ⟨ad0, 0, by rw [hxv] at hxc; simpa using hxc.symm⟩
     ·exact ⟨_, cap, by rw [hxv] at hxc; simpa using hxc.symm⟩
    obtain ⟨ad0, cap0, hxv⟩ := hxs
    subst h0
    have hrun := run_copy_zero (P := C.P) (w := w) (dT := t) (sT := t2) (ty := ty) (d := ad0) (s := ad) (dLen := len) (dCap := cap0) (sLen := ys.length) (sCap := cap2) ht hc.symm
    have h1 : SatW C ⟨s.env, (o, .av (.d (.arr sz n (xs.take off ++ ys.take 0 ++ xs.drop (off + 0))))) :: s.hp, s.dfs⟩ a w F μ := by simpa using sat_rewrite ho hs
    exact wpIn_value (v := goInt 0) (w' := w) (by intro c h; cases h) (by simp [execOp, resolve, Deferred.ofValue, invoke, builtin, hxv, hyv, hrun]) (k _ _ ⟨F, μ, sat_put h1 (by simpa [Nat.blt_eq] using hlt) (rv_val_mk rfl)⟩)
   ·have hmin : c ≤ ys.length ∧ c ≤ len := by subst hc; exact ⟨Nat.min_le_left _ _, Nat.min_le_right _ _⟩
    rcases hx1 with ⟨_, e0, _⟩ | ⟨b, base, tot, cap, hmo, hcap, htot, hxv⟩
    ·omega
    have hxv : a.eval x = .slice (some ⟨b, base + off * sz, none⟩) len cap := by rw [hxv] at hxc; simpa using hxc.symm
    obtain ⟨b2, off2, rfl, hcell⟩ := hna (by intro e; subst e; simp at hmin; omega)
    rcases hs.inv.obj o _ ho with ⟨k1, _⟩ | ⟨b1, ba1, tt1, el, cs, k1, k2, k3, k4, k5, k6, k7⟩
    ·rw [hmo] at k1; cases k1
    rw [hmo] at k1; cases k1
    simp only [RA, Rep, AV.size, D.size] at k6 k7
    obtain ⟨k7, k8⟩ := k7
    have hcy : c * sz ≤ ys.length * sz := Nat.mul_le_mul_right _ hmin.1
    have hcl' : (off + len) * sz ≤ n * sz := Nat.mul_le_mul_right _ hle
    have hcl2 : c * sz ≤ len * sz := Nat.mul_le_mul_right _ hmin.2
    rw [Nat.add_mul] at hcl'
    have hnr2 := (repEach_split c hnr).2
    have hnl2 : (news.take (c * sz)).length = c * sz := by rw [List.length_take]; omega
    obtain ⟨w', hrun, g1, g2, g3, g4, g5, g6⟩ := run_copy_list (P := C.P) (w := w) (dT := t) (sT := t2) (ty := ty) (b := b) (o := base + off * sz) (dLen := len) (dCap := cap) (a := ⟨b2, off2, none⟩) (sLen := ys.length) (sCap := cap2) ht hc hnl2 (fun j v hj => by
     rw [List.getElem?_take] at hj
     split at hj
     ·exact hcell j v hj
     ·cases hj) k4 (by rw [hnl2]; omega) (repEach_leaf hnr2)
    have hpr := (repEach_split off k8).2
    rw [List.take_take, Nat.min_eq_left (by omega)] at hpr
    have hdr := (repEach_split (off + c) k8).1
    rw [Nat.add_mul] at hdr
    generalize hnews : news.take (c * sz) = news2 at *
    have h1 := sat_turn (c' := .d (.arr sz n (xs.take off ++ ys.take c ++ xs.drop (off + c)))) hs ho hmo k2 k3 g1 (by
      simp only [List.size_toArray, List.length_append, List.length_take, List.length_drop, Array.length_toList, hnl2]; omega) (by simp only [AV.size, D.size]; omega) (fun F' μ' hext => by
     simp only [RA, Rep, AV.size, D.size]
     refine ⟨by simp only [List.length_append, List.length_take, List.length_drop]; omega, ?_⟩
     have e5 : ((cs.toList.take (base + off * sz) ++ news2 ++ cs.toList.drop (base + off * sz + news2.length)).drop base).take (n * sz) = (cs.toList.drop base).take (off * sz) ++ news2 ++ ((cs.toList.drop base).take (n * sz)).drop (off * sz + c * sz) := by
      have hcl : cs.toList.length = cs.size := by simp
      rw [List.append_assoc, List.drop_append_of_le_length (by simp only [List.length_take]; omega), List.drop_take, show base + off * sz - base = off * sz from by omega, ← List.append_assoc,
       List.take_append, List.take_of_length_le (by simp only [List.length_append, List.length_take, List.length_drop, hnl2]; omega), List.drop_take, List.drop_drop]
      congr 1
      simp only [List.length_append, List.length_take, List.length_drop, hnl2]
      rw [show min (off * sz) (cs.toList.length - base) = off * sz from by omega, show base + (off * sz + c * sz) = base + off * sz + c * sz from by omega]
     rw [e5]
     exact repEach_append (repEach_append (repEach_mono hext.fro hext.kept hpr) (repEach_mono hext.fro hext.kept hnr2)) (repEach_mono hext.fro hext.kept hdr)) g2 g3 g4 g5 g6
    exact wpIn_value (v := goInt c) (w' := w') (by intro c h; cases h) (by simp [execOp, resolve, Deferred.ofValue, invoke, builtin, hxv, hyv, hrun]) (k _ _ ⟨F, μ, sat_put h1 (by simpa [Nat.blt_eq] using hlt) (rv_val_mk rfl)⟩)
theorem f_appendZG {t tn : TypeId} {o b base tot n sz bts i cap kz m : Nat} {kk kn : IntKind} {z : D} {xs : List D} (o' : Nat) (hlt : Nat.blt d C.n = true) (ht : elB C.P t = some (sz, bts)) (htn : C.P.underlying tn = some (.int kn)) (hz : zelB C.P t = some z.cells) (hf : z.flat = true)
  (hb : C.base o = some (.at b base tot)) (hxn : xs.length = n) (hi : i ≤ n) (h0 : 0 < kz) (hcap : cap < i + kz) (hm : i + kz = m) (hby : m * bts ≤ 140737488355328) (h63 : m ≤ maxLen) :
  Fact C ⟨some d, .call ⟨.builtin .append, #[x, y], #[t, tn]⟩, ty, ps, af, gd⟩ { er := [(x, xS b base i cap), (y, .d (.val (.int kk (kz : Int))))], hr := [(o, .av (.d (.arr sz n xs)))], hn := [o'], d := some (d, .slc o' 0 m sz), hw := [(o', .av (.d (.arr sz m (xs.take i ++ List.replicate kz z))))] } := by
 obtain ⟨e, inf, zv, hu, hif, hzv, hisz, hibt, hzsz, hpos⟩ := elB_some ht
 subst hisz; subst hibt
 have hcells : zv.cells.toList = z.cells := by
  unfold zelB at hz
  simpa [hu, zeroB, hif, hzv] using hz
 intro s hpre a w nx Q hs k
 obtain ⟨F, μ, hs⟩ := hs
 cases hpre.er with
 | cons hx her => cases her with
  | cons hy _ => cases hpre.hr with
   | cons ho _ => cases hpre.hn with
    | cons hn _ =>
     have hxv := rv_val (evalE_ok hs hx)
     have hyv := rv_val (evalE_ok hs hy)
     have hmo := hs.base o _ hb
     rcases hs.inv.obj o _ ho with ⟨k1, _⟩ | ⟨b1, ba1, tt1, el, cs, k1, k2, k3, k4, k5, k6, k7⟩
     ·rw [hmo] at k1; cases k1
     rw [hmo] at k1; cases k1
     simp only [RA, Rep, AV.size, D.size] at k6 k7
     obtain ⟨k7, k8⟩ := k7
     have hblk : blk w b = some cs.toList := by simp [blk, k4]
     have hin : i * inf.size ≤ n * inf.size := Nat.mul_le_mul_right _ hi
     have hol := (repEach_split i k8).2
     rw [List.take_take, Nat.min_eq_left hin] at hol
     have hcl : cs.toList.length = cs.size := by simp
     have holl : ((cs.toList.drop base).take (i * inf.size)).length = i * inf.size := by rw [List.length_take, List.length_drop]; omega
     have hkb : kz * inf.bytes ≤ m * inf.bytes := Nat.mul_le_mul_right _ (by omega)
     have hrun := run_append_zerosG (P := C.P) w t tn ty e inf zv kk kn hu htn hif hzv ⟨b, base, none⟩ i cap _ holl (fun j v hj => by
      rw [addr_add, blk_cell hblk]
      rw [List.getElem?_take] at hj
      split at hj
      ·rwa [List.getElem?_drop] at hj
      ·cases hj) kz h0 hpos hcap (by simp only [maxLen] at h63; omega) (by omega) (growslice_fits hcap (by rw [hm]; exact hby))
     generalize ((cs.toList.drop base).take (i * inf.size)) = olds at *
     have hge := grownCap_ge w (i + kz) cap e
     have hs2 := satW_drew hs
     have hsize : (olds.toArray ++ Builtin.zeroCells zv.cells kz ++ Builtin.zeroCells zv.cells (grownCap w (i + kz) cap e - (i + kz))).size = grownCap w (i + kz) cap e * inf.size := by
      simp only [Array.size_append, List.size_toArray, size_zeroCells, hzsz, holl, ← Nat.add_mul]
      congr 1; omega
     have hmle : m * inf.size ≤ grownCap w (i + kz) cap e * inf.size := Nat.mul_le_mul_right _ (by omega)
     have hzl : (Builtin.zeroCells zv.cells kz).toList = (List.replicate kz z.cells).flatten := by
      rw [← hcells, ← zeros_flat zv.cells hzsz kz]
      simp [Builtin.zeroCells, Array.toList_range, hzsz]
     have hzr : RepEach F w inf.size (List.replicate kz z) (List.replicate kz z.cells).flatten := repEach_replicate (rep_flat hf) (by rw [← hcells]; simpa using hzsz) kz
     have hzlen : (List.replicate kz z.cells).flatten.length = kz * inf.size := by rw [repEach_length hzr]; simp
     obtain ⟨h3, h4⟩ := sat_new (e := e) (cs := olds.toArray ++ Builtin.zeroCells zv.cells kz ++ Builtin.zeroCells zv.cells (grownCap w (i + kz) cap e - (i + kz))) (c := .d (.arr inf.size m (xs.take i ++ List.replicate kz z))) hs2 hn
      (by simp only [AV.size, D.size]; rw [hsize]; exact hmle) (by
       simp only [RA, Rep, AV.size, D.size]
       refine ⟨by simp only [List.length_append, List.length_take, List.length_replicate]; omega, ?_⟩
       have e3 : (olds.toArray ++ Builtin.zeroCells zv.cells kz ++ Builtin.zeroCells zv.cells (grownCap w (i + kz) cap e - (i + kz))).toList.take (m * inf.size) = olds ++ (List.replicate kz z.cells).flatten := by
        simp only [Array.toList_append, hzl]
        rw [List.take_append_of_le_length (by rw [List.length_append, holl, hzlen, ← Nat.add_mul, hm]; exact Nat.le_refl _), List.take_of_length_le (by rw [List.length_append, holl, hzlen, ← Nat.add_mul, hm]; exact Nat.le_refl _)]
       rw [e3]
       exact repEach_append (repEach_mono (fun _ h => h) kept_drew hol) (repEach_mono (fun _ h => h) kept_drew hzr))
     refine wpIn_value (by intro c h; cases h) (by simp only [execOp, resolve, Deferred.ofValue, invoke, builtin, List.map_toArray, List.map_cons, List.map_nil, hxv, hyv, hrun, Sem.run_bind, Result.andThen_ok, Sem.run_pure]; rfl) (k _ _ ⟨F, _, sat_put h3 (by simpa [Nat.blt_eq] using hlt) ⟨?_, rfl⟩⟩)
     simp only [RA]
     exact .inr ⟨w.heap.size, 0, _, grownCap w (i + kz) cap e, by simp only [if_true]; rfl, by omega, by rw [hsize]; simp, by simp [Value.cells, hm]⟩
theorem f_overlaps {f : FuncId} {fn : Func} {ats : Array TypeId} {tS tR : TypeId} {o o1 off1 len1 sz1 b base tot off len cap : Nat} {c0 c1 : AV} (hlt : Nat.blt d C.n = true) (hf : C.P.funcs[f]? = some fn) (hname : (fn.name == "runtime.NumGoroutine") = false)
  (hbd : fn.body.isNone = true) (hnx : Extern.findNext fn = none) (hex : Extern.find fn = some (Extern.SlicesOverlaps.overlaps #[tS, tS] #[tR])) {size : Nat} (hS : slB C.P tS = some size)
  (hb : C.base o = some (.at b base tot)) (h1 : 0 < len1) (h0 : 0 < tot) (hne : o1 ≠ o) :
  Fact C ⟨some d, .call ⟨.value (.func f), #[x, y], ats⟩, ty, ps, af, gd⟩ { er := [(x, .slc o1 off1 len1 sz1), (y, xS b off len cap)], hr := [(o1, .av c1), (o, .av c0)], d := some (d, .d (.val (.bool false))) } :=
 fact_pure rfl hlt (by intro c h; cases h) fun s a w F μ he hh hs => by
  cases he with
  | cons hx he => cases he with
   | cons hy _ => cases hh with
    | cons ho1 hh => cases hh with
     | cons ho _ =>
      obtain ⟨hx1, hx2⟩ := evalE_ok hs hx
      simp only [RA] at hx1
      have hxc := cells_single (v := a.eval x) hx2
      have hyv := rv_val (evalE_ok hs hy)
      have hmo := hs.base o _ hb
      rcases hx1 with ⟨_, e0, _⟩ | ⟨b1, base1, tot1, cap1, hm1, _, _, hxv⟩
      ·omega
      have hxv : a.eval x = .slice (some ⟨b1, base1 + off1 * sz1, none⟩) len1 cap1 := by rw [hxv] at hxc; simpa using hxc.symm
      rcases hs.inv.obj o _ ho with ⟨k1, _⟩ | ⟨b2, ba2, tt2, el, cs, k1, k2, k3, k4, k5, k6, k7⟩
      ·rw [hmo] at k1; cases k1
      rw [hmo] at k1; cases k1
      rcases hs.inv.obj o1 _ ho1 with ⟨j1, _⟩ | ⟨b3, ba3, tt3, el1, cs1, j1, j2, j3, j4, j5, j6, j7⟩
      ·rw [hm1] at j1; cases j1
      rw [hm1] at j1; cases j1
      have hbb : b1 ≠ b := fun e' => by
       subst e'
       exact hne (hs.inv.apart o1 o b1 base1 tot1 base tot _ _ ho1 ho (by simp) (by simp) hm1 hmo)
      obtain ⟨e, ag, hu, hty⟩ := slB_some hS
      have hrun := Lib.run_overlaps_apart (P := C.P) w tS tR e hu size (fun w => run_sizeOf hty) ⟨b1, base1 + off1 * sz1, none⟩ ⟨b, off, none⟩ len1 cap1 len cap hbb el1 el cs1.size cs.size (by simp [World.shape?, j4]) (by simp [World.shape?, k4]) (by omega)
       (by simp [World.frozen?, j4]) (by simp [World.frozen?, j4])
      refine ⟨.bool false, ?_, rv_val_mk rfl⟩
      have ev : a.eval (.func f) = .func (.func f) #[] #[] := rfl
      have er : (execOp a.eval ⟨some d, .call ⟨.value (.func f), #[x, y], ats⟩, ty, ps, af, gd⟩).run C.P w = (callFunc f (#[] ++ #[a.eval x, a.eval y] ++ #[])).run C.P w := by
       simp only [execOp, resolve, ev, Deferred.ofValue, Sem.run_bind, Sem.run_pure, Result.andThen_ok, invoke, List.map_toArray, List.map_cons, List.map_nil]
      rw [er, run_callFunc_extern hf hname hbd hnx hex, hxv, hyv]
      simp only [Array.empty_append, Array.append_empty, hrun, Result.andThen_ok]
theorem bi_add {a b r : Int} (h : a + b = r) (h0 : -9223372036854775808 ≤ r) (h1 : r ≤ 9223372036854775807) : binI .add .i64 a b = some (.int .i64 r) := by
 simp only [binI, h]; rw [IntKind.wrap_i64]; congr 2; omega
theorem bi_sub {a b r : Int} (h : a - b = r) (h0 : -9223372036854775808 ≤ r) (h1 : r ≤ 9223372036854775807) : binI .sub .i64 a b = some (.int .i64 r) := by
 simp only [binI, h]; rw [IntKind.wrap_i64]; congr 2; omega
end
theorem allval_flat : ∀ {cs : List Value}, cs.all leafV = true → flats (cs.map D.val) = true ∧ cellss (cs.map D.val) = cs
 | [], _ => ⟨rfl, rfl⟩
 | c :: cs, h => by
  simp only [List.all_cons, Bool.and_eq_true] at h
  have := allval_flat h.2
  simp only [List.map_cons, flats, cellss, D.flat, D.cells, h.1, this.1, this.2, Bool.and_self, List.cons_append, List.nil_append, and_self]
theorem zel_ex {P : Program} {t : TypeId} (h : ((zelB P t).map fun cs => cs.all leafV) = some true) : ∃ z : D, zelB P t = some z.cells ∧ z.flat = true := by
 cases hz : zelB P t with
 | none => rw [hz] at h; cases h
 | some cs =>
  rw [hz] at h
  have := allval_flat (by simpa using h : cs.all leafV = true)
  exact ⟨.st (cs.map D.val), by simp [D.cells, this.2], by simp [D.flat, this.1]⟩
section
variable {α : Type}
theorem ins1 {E V : List α} {z : α} {i : Nat} (hi : i ≤ E.length) : (E.take i ++ List.replicate (E.length + V.length - i) z).take i ++ V.take V.length ++ (E.take i ++ List.replicate (E.length + V.length - i) z).drop (i + V.length) = E.take i ++ V ++ List.replicate (E.length - i) z := by
 have h1 : (E.take i).length = i := by rw [List.length_take]; omega
 rw [List.take_append_of_le_length (by omega), List.take_take, Nat.min_self, List.take_length, List.drop_append, List.drop_eq_nil_of_le (by omega), List.nil_append, List.drop_replicate, h1]
 congr 2; omega
theorem ins2 {E V : List α} {z : α} {i : Nat} (hi : i ≤ E.length) : (E.take i ++ V ++ List.replicate (E.length - i) z).take (i + V.length) ++ (E.drop i).take (E.length - i) ++ (E.take i ++ V ++ List.replicate (E.length - i) z).drop (i + V.length + (E.length - i)) = E.take i ++ V ++ E.drop i := by
 have h1 : (E.take i ++ V).length = i + V.length := by rw [List.length_append, List.length_take]; omega
 have h2 : (E.drop i).take (E.length - i) = E.drop i := List.take_of_length_le (by rw [List.length_drop]; exact Nat.le_refl _)
 have h3 : (E.take i ++ V ++ List.replicate (E.length - i) z).take (i + V.length) = E.take i ++ V := by rw [List.take_append_of_le_length (by omega), List.take_of_length_le (by omega)]
 have h4 : (E.take i ++ V ++ List.replicate (E.length - i) z).drop (i + V.length + (E.length - i)) = [] := List.drop_eq_nil_of_le (by rw [List.length_append, h1, List.length_replicate]; exact Nat.le_refl _)
 rw [h2, h3, h4, List.append_nil]
theorem ins3 {E V : List α} {i : Nat} (hi : i + V.length ≤ E.length) : (E.take (i + V.length) ++ E.drop i).take i ++ V.take V.length ++ (E.take (i + V.length) ++ E.drop i).drop (i + V.length) = E.take i ++ V ++ E.drop i := by
 have h1 : (E.take (i + V.length)).length = i + V.length := by rw [List.length_take]; omega
 rw [List.take_append_of_le_length (by omega), List.take_take, Nat.min_eq_left (by omega), List.take_length, List.drop_append, List.drop_eq_nil_of_le (by omega), List.nil_append, h1, Nat.sub_self, List.drop_zero]
end
end Bd
