import Derived.WalkKit
import Derived.WalkSpells
import Derived.RangeFuncIn
import Derived.Orders
namespace Bd
open Go
inductive D where
 | val (v : Value)
 | st (fs : List D)
 | arr (sz n : Nat) (xs : List D)
 | sl (sz : Nat) (xs : List D)
 deriving Inhabited
@[reducible] def D.int (k : IntKind) (n : Int) : D := .val (.int k n)
@[reducible] def D.bool (b : Bool) : D := .val (.bool b)
@[reducible] def D.str (s : ByteArray) : D := .val (.string s)
def leafV : Value → Bool
 | .agg _ => false
 | .tuple _ => false
 | _ => true
mutual
def D.size : D → Nat
 | .val _ => 1
 | .st fs => sizes fs
 | .arr sz n _ => n * sz
 | .sl _ _ => 1
def sizes : List D → Nat
 | [] => 0
 | x :: xs => x.size + sizes xs
end
def blk (w : World) (b : Nat) : Option (List Value) := match w.heap[b]? with | some (.cells c _ _) => some c.toList | _ => none
mutual
def Rep (F : Nat → Prop) (w : World) : D → List Value → Prop
 | .val v, cs => cs = [v] ∧ leafV v = true
 | .st fs, cs => RepAll F w fs cs
 | .arr sz n xs, cs => xs.length = n ∧ RepEach F w sz xs cs
 | .sl sz xs, cs => ∃ a cap, cs = [.slice a xs.length cap] ∧ xs.length ≤ cap ∧
   (xs = [] ∨ ∃ b off c, a = some ⟨b, off, none⟩ ∧ F b ∧ blk w b = some c ∧ off + xs.length * sz ≤ c.length ∧ RepEach F w sz xs ((c.drop off).take (xs.length * sz)))
def RepAll (F : Nat → Prop) (w : World) : List D → List Value → Prop
 | [], cs => cs = []
 | x :: xs, cs => ∃ c1 c2, cs = c1 ++ c2 ∧ Rep F w x c1 ∧ RepAll F w xs c2
def RepEach (F : Nat → Prop) (w : World) (sz : Nat) : List D → List Value → Prop
 | [], cs => cs = []
 | x :: xs, cs => ∃ c1 c2, cs = c1 ++ c2 ∧ c1.length = sz ∧ Rep F w x c1 ∧ RepEach F w sz xs c2
end
theorem repEach_length {F w sz} : ∀ {xs : List D} {cs : List Value}, RepEach F w sz xs cs → cs.length = xs.length * sz
 | [], cs, h => by simp [RepEach] at h; simp [h]
 | x :: xs, cs, h => by
  simp only [RepEach] at h
  obtain ⟨c1, c2, rfl, h1, _, h3⟩ := h
  have := repEach_length h3
  simp [h1, this, Nat.add_mul, Nat.add_comm]
mutual
theorem rep_length {F w} : ∀ {d : D} {cs : List Value}, Rep F w d cs → cs.length = d.size
 | .val v, cs, h => by simp only [Rep] at h; simp [h.1, D.size]
 | .st fs, cs, h => by simp only [Rep] at h; simpa [D.size] using repAll_length h
 | .arr sz n xs, cs, h => by simp only [Rep] at h; simpa [D.size, h.1] using repEach_length h.2
 | .sl sz xs, cs, h => by simp only [Rep] at h; obtain ⟨a, cap, rfl, _⟩ := h; simp [D.size]
theorem repAll_length {F w} : ∀ {fs : List D} {cs : List Value}, RepAll F w fs cs → cs.length = sizes fs
 | [], cs, h => by simp [RepAll] at h; simp [h, sizes]
 | x :: xs, cs, h => by
  simp only [RepAll] at h
  obtain ⟨c1, c2, rfl, h1, h2⟩ := h
  have e1 := rep_length h1
  have e2 := repAll_length h2
  simp [sizes, e1, e2]
end
def Kept (F : Nat → Prop) (w w' : World) : Prop := ∀ b c, F b → blk w b = some c → blk w' b = some c
theorem Kept.refl (F w) : Kept F w w := fun _ _ _ h => h
theorem Kept.trans {F w w' w''} (h : Kept F w w') (k : Kept F w' w'') : Kept F w w'' := fun b c hb hc => k b c hb (h b c hb hc)
theorem Kept.mono {F F' : Nat → Prop} {w w'} (hF : ∀ b, F b → F' b) (h : Kept F' w w') : Kept F w w' := fun b c hb hc => h b c (hF b hb) hc
mutual
theorem rep_mono {F F' : Nat → Prop} {w w' : World} (hF : ∀ b, F b → F' b) (hw : Kept F w w') : ∀ {d : D} {cs : List Value}, Rep F w d cs → Rep F' w' d cs
 | .val v, cs, h => h
 | .st fs, cs, h => by simp only [Rep] at *; exact repAll_mono hF hw h
 | .arr sz n xs, cs, h => by simp only [Rep] at *; exact ⟨h.1, repEach_mono hF hw h.2⟩
 | .sl sz xs, cs, h => by
  simp only [Rep] at *
  obtain ⟨a, cap, h1, h2, h3⟩ := h
  refine ⟨a, cap, h1, h2, ?_⟩
  rcases h3 with h3 | ⟨b, off, c, h4, h5, h6, h7, h8⟩
  ·exact .inl h3
  ·exact .inr ⟨b, off, c, h4, hF b h5, hw b c h5 h6, h7, repEach_mono hF hw h8⟩
theorem repAll_mono {F F' : Nat → Prop} {w w' : World} (hF : ∀ b, F b → F' b) (hw : Kept F w w') : ∀ {fs : List D} {cs : List Value}, RepAll F w fs cs → RepAll F' w' fs cs
 | [], cs, h => h
 | x :: xs, cs, h => by
  simp only [RepAll] at *
  obtain ⟨c1, c2, h0, h1, h2⟩ := h
  exact ⟨c1, c2, h0, rep_mono hF hw h1, repAll_mono hF hw h2⟩
theorem repEach_mono {F F' : Nat → Prop} {w w' : World} (hF : ∀ b, F b → F' b) (hw : Kept F w w') {sz : Nat} : ∀ {xs : List D} {cs : List Value}, RepEach F w sz xs cs → RepEach F' w' sz xs cs
 | [], cs, h => h
 | x :: xs, cs, h => by
  simp only [RepEach] at *
  obtain ⟨c1, c2, h0, h0', h1, h2⟩ := h
  exact ⟨c1, c2, h0, h0', rep_mono hF hw h1, repEach_mono hF hw h2⟩
end
theorem repEach_append {F w sz} : ∀ {xs ys : List D} {cs ds : List Value}, RepEach F w sz xs cs → RepEach F w sz ys ds → RepEach F w sz (xs ++ ys) (cs ++ ds)
 | [], ys, cs, ds, h, k => by simp [RepEach] at h; simpa [h] using k
 | x :: xs, ys, cs, ds, h, k => by
  simp only [RepEach] at h
  obtain ⟨c1, c2, rfl, h1, h2, h3⟩ := h
  exact ⟨c1, c2 ++ ds, by simp, h1, h2, repEach_append h3 k⟩
theorem repEach_get {F w sz} : ∀ {xs : List D} {cs : List Value} {i : Nat} {x : D}, RepEach F w sz xs cs → xs[i]? = some x → Rep F w x ((cs.drop (i * sz)).take sz) ∧ i * sz + sz ≤ cs.length
 | [], cs, i, x, h, hi => by simp at hi
 | y :: xs, cs, 0, x, h, hi => by
  simp only [RepEach] at h
  obtain ⟨c1, c2, rfl, h1, h2, h3⟩ := h
  simp at hi; subst hi
  rw [Nat.zero_mul, List.drop_zero, ← h1, List.take_left]
  exact ⟨h2, by simp⟩
 | y :: xs, cs, i + 1, x, h, hi => by
  simp only [RepEach] at h
  obtain ⟨c1, c2, rfl, h1, h2, h3⟩ := h
  simp at hi
  have := repEach_get h3 hi
  rw [Nat.succ_mul, Nat.add_comm, ← h1, ← List.drop_drop, List.drop_left, h1]
  exact ⟨this.1, by simp; omega⟩
theorem repEach_set {F w sz} : ∀ {xs : List D} {cs : List Value} {i : Nat} {x : D} {vs : List Value}, RepEach F w sz xs cs → i < xs.length → Rep F w x vs → vs.length = sz →
  RepEach F w sz (xs.set i x) (cs.take (i * sz) ++ vs ++ cs.drop (i * sz + sz))
 | [], cs, i, x, vs, h, hi, _, _ => by simp at hi
 | y :: xs, cs, 0, x, vs, h, hi, hx, hv => by
  simp only [RepEach] at h
  obtain ⟨c1, c2, rfl, h1, h2, h3⟩ := h
  rw [List.set_cons_zero, Nat.zero_mul, List.take_zero, List.nil_append, Nat.zero_add, ← h1, List.drop_left]
  exact ⟨vs, c2, rfl, by rw [hv, h1], hx, h1 ▸ h3⟩
 | y :: xs, cs, i + 1, x, vs, h, hi, hx, hv => by
  simp only [RepEach] at h
  obtain ⟨c1, c2, rfl, h1, h2, h3⟩ := h
  have := repEach_set (i := i) h3 (by simpa using hi) hx hv
  rw [List.set_cons_succ]
  refine ⟨c1, _, ?_, h1, h2, this⟩
  have e1 : (c1 ++ c2).take ((i + 1) * sz) = c1 ++ c2.take (i * sz) := by
   rw [Nat.succ_mul, Nat.add_comm, ← h1, List.take_length_add_append]
  have e2 : (c1 ++ c2).drop ((i + 1) * sz + sz) = c2.drop (i * sz + sz) := by
   rw [show (i + 1) * sz + sz = sz + (i * sz + sz) from by rw [Nat.succ_mul]; omega, ← List.drop_drop]
   congr 1; rw [← h1, List.drop_left]
  rw [e1, e2]; simp
theorem repAll_get {F w} : ∀ {fs : List D} {cs : List Value} {i : Nat} {x : D}, RepAll F w fs cs → fs[i]? = some x →
  Rep F w x ((cs.drop (sizes (fs.take i))).take x.size) ∧ sizes (fs.take i) + x.size ≤ cs.length
 | [], cs, i, x, h, hi => by simp at hi
 | y :: fs, cs, 0, x, h, hi => by
  simp only [RepAll] at h
  obtain ⟨c1, c2, rfl, h1, h2⟩ := h
  simp at hi; subst hi
  have := rep_length h1
  simp only [List.take_zero, sizes, List.drop_zero]
  rw [← this, List.take_left]
  exact ⟨h1, by simp⟩
 | y :: fs, cs, i + 1, x, h, hi => by
  simp only [RepAll] at h
  obtain ⟨c1, c2, rfl, h1, h2⟩ := h
  simp at hi
  have hl := rep_length h1
  have := repAll_get h2 hi
  simp only [List.take_succ_cons, sizes]
  rw [← hl, ← List.drop_drop, List.drop_left]
  exact ⟨this.1, by simp; omega⟩
theorem repAll_set {F w} : ∀ {fs : List D} {cs : List Value} {i : Nat} {y x : D} {vs : List Value}, RepAll F w fs cs → fs[i]? = some y → y.size = x.size → Rep F w x vs →
  RepAll F w (fs.set i x) (cs.take (sizes (fs.take i)) ++ vs ++ cs.drop (sizes (fs.take i) + x.size))
 | [], cs, i, y, x, vs, h, hi, _, _ => by simp at hi
 | z :: fs, cs, 0, y, x, vs, h, hi, hs, hx => by
  simp only [RepAll] at h
  obtain ⟨c1, c2, rfl, h1, h2⟩ := h
  simp at hi; subst hi
  have hl := rep_length h1
  simp only [List.take_zero, sizes, List.nil_append, Nat.zero_add, List.set_cons_zero]
  rw [← hs, ← hl, List.drop_left]
  exact ⟨vs, c2, rfl, hx, h2⟩
 | z :: fs, cs, i + 1, y, x, vs, h, hi, hs, hx => by
  simp only [RepAll] at h
  obtain ⟨c1, c2, rfl, h1, h2⟩ := h
  simp at hi
  have hl := rep_length h1
  have := repAll_set h2 hi hs hx
  simp only [List.take_succ_cons, sizes, List.set_cons_succ]
  refine ⟨c1, _, ?_, h1, this⟩
  rw [← hl, List.take_length_add_append, Nat.add_assoc, ← List.drop_drop, List.drop_left]
  simp
mutual
theorem rep_leaf {F w} : ∀ {d : D} {cs : List Value}, Rep F w d cs → ∀ v ∈ cs, leafV v = true
 | .val v, cs, h => by simp only [Rep] at h; rw [h.1]; simp [h.2]
 | .st fs, cs, h => by simp only [Rep] at h; exact repAll_leaf h
 | .arr sz n xs, cs, h => by simp only [Rep] at h; exact repEach_leaf h.2
 | .sl sz xs, cs, h => by simp only [Rep] at h; obtain ⟨a, cap, rfl, _⟩ := h; simp [leafV]
theorem repAll_leaf {F w} : ∀ {fs : List D} {cs : List Value}, RepAll F w fs cs → ∀ v ∈ cs, leafV v = true
 | [], cs, h => by simp [RepAll] at h; simp [h]
 | x :: xs, cs, h => by
  simp only [RepAll] at h
  obtain ⟨c1, c2, rfl, h1, h2⟩ := h
  intro v hv
  rcases List.mem_append.1 hv with hv | hv
  ·exact rep_leaf h1 v hv
  ·exact repAll_leaf h2 v hv
theorem repEach_leaf {F w sz} : ∀ {fs : List D} {cs : List Value}, RepEach F w sz fs cs → ∀ v ∈ cs, leafV v = true
 | [], cs, h => by simp [RepEach] at h; simp [h]
 | x :: xs, cs, h => by
  simp only [RepEach] at h
  obtain ⟨c1, c2, rfl, _, h1, h2⟩ := h
  intro v hv
  rcases List.mem_append.1 hv with hv | hv
  ·exact rep_leaf h1 v hv
  ·exact repEach_leaf h2 v hv
end
end Bd
