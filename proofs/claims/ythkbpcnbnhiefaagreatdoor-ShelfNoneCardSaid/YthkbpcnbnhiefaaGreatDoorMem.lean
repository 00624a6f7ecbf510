/- Words for memory: what a step keeps, what a fact hangs on, blocks known whole; no program. -/
import Derived.Below
import Derived.Laws.OwnMore
import Derived.Deep.AppendLies
import Derived.Deep.Draws
import Derived.Laws.Rows
import Derived.Laws.CopyOwn
import Derived.Maps.AppendAt
namespace Go.Proofs.Sg
open Go.RowKit

/-- A fact that the walk's simp doesn't look into. -/
structure Hd (p : Prop) : Prop where mk :: (out : p)

/-- Blocks outside S are as they were; none has gone; the streams are as they were. -/
structure Keeps (S : Nat → Prop) (w w' : World) : Prop where
  os : w'.os = w.os
  tape : w'.tape = w.tape
  output : w'.output = w.output
  size : w.heap.size ≤ w'.heap.size
  block : ∀ k, k < w.heap.size → ¬ S k → w'.heap[k]? = w.heap[k]?

theorem Keeps.refl (S : Nat → Prop) (w : World) : Keeps S w w := ⟨rfl, rfl, rfl, Nat.le_refl _, fun _ _ _ => rfl⟩
theorem Keeps.trans {S T U : Nat → Prop} {a b c : World} (h : Keeps S a b) (k : Keeps T b c) (hS : ∀ i, i < a.heap.size → S i → U i) (hT : ∀ i, i < a.heap.size → T i → U i) : Keeps U a c :=
  ⟨k.os.trans h.os, k.tape.trans h.tape, k.output.trans h.output, Nat.le_trans h.size k.size,
    fun i hi hn => (k.block i (Nat.lt_of_lt_of_le hi h.size) (fun ht => hn (hT i hi ht))).trans (h.block i hi (fun hs => hn (hS i hi hs)))⟩
theorem Keeps.mono {S T : Nat → Prop} {a b : World} (h : Keeps S a b) (hS : ∀ i, i < a.heap.size → S i → T i) : Keeps T a b :=
  ⟨h.os, h.tape, h.output, h.size, fun i hi hn => h.block i hi (fun hs => hn (hS i hi hs))⟩
theorem Keeps.of_below {S : Nat → Prop} {a b : World} (h : Below a.heap.size a b) : Keeps S a b := ⟨h.os, h.tape, h.output, h.size, fun i hi _ => h.block i hi⟩
theorem Keeps.below {S : Nat → Prop} {a b : World} {B : Nat} (h : Keeps S a b) (hB : B ≤ a.heap.size) (hS : ∀ i, i < B → ¬ S i) : Below B a b :=
  ⟨h.os, h.tape, h.output, h.size, fun i hi => h.block i (Nat.lt_of_lt_of_le hi hB) (hS i hi)⟩
theorem Keeps.drew {S : Nat → Prop} {a b : World} (h : Keeps S a b) : Keeps S a b.drew := ⟨h.os, h.tape, h.output, h.size, h.block⟩
theorem Keeps.drewN {S : Nat → Prop} {a b : World} (h : Keeps S a b) (n : Nat) : Keeps S a (b.drewN n) := ⟨h.os, h.tape, h.output, h.size, h.block⟩
theorem Keeps.alloc {S : Nat → Prop} {a b : World} (h : Keeps S a b) (o : Obj) : Keeps S a (b.alloc o) :=
  h.trans (T := S) (Keeps.of_below ((Below.refl _ _).alloc (Nat.le_refl _) o)) (fun _ _ h => h) (fun _ _ h => h)
theorem Keeps.setCell {S : Nat → Prop} {a b : World} (h : Keeps S a b) {p : Addr} (hp : p.block < a.heap.size → S p.block) (u : Value) : Keeps S a (b.setCell p u) :=
  ⟨h.os, h.tape, h.output, by simpa [World.setCell] using h.size, fun i hi hn => by
    rw [Below.heap_setCell _ _ _ _ (by rintro rfl; exact hn (hp hi))]; exact h.block i hi hn⟩
theorem Keeps.grown {S : Nat → Prop} {a b c : World} {row : Option Nat} (h : Keeps S a b) (hg : b.grownBy c row) (hr : ∀ k, row = some k → k < a.heap.size → S k) : Keeps S a c :=
  ⟨hg.os.trans h.os, hg.tape.trans h.tape, hg.output.trans h.output, Nat.le_trans h.size hg.size, fun i hi hn => by
    rw [hg.block i (Nat.lt_of_lt_of_le hi h.size) (fun e => hn (hr i e.symm hi))]; exact h.block i hi hn⟩

/-- A block that is known whole. -/
def Blk (w : World) (g : Nat) (t : TypeId) (cs : Array Value) : Prop := w.heap[g]? = some (.cells cs t (0, 0))
section
variable {w w' : World} {g : Nat} {t : TypeId} {cs : Array Value}
theorem Blk.lt (h : Blk w g t cs) : g < w.heap.size := by
  rcases Nat.lt_or_ge g w.heap.size with hlt | hge
  · exact hlt
  · unfold Blk at h; rw [Array.getElem?_eq_none hge] at h; cases h
theorem Blk.cell (h : Blk w g t cs) (i : Nat) : w.cell? ⟨g, i, none⟩ = cs[i]? := cell_of_row w g i cs t (0, 0) h
theorem Blk.frozen (h : Blk w g t cs) (i : Nat) : w.frozen? ⟨g, i, none⟩ = false := by
  unfold Blk at h
  simp [World.frozen?, h]
theorem Blk.new (w : World) (t : TypeId) (cs : Array Value) : Blk (w.alloc (.cells cs t)) w.heap.size t cs := heap_alloc_new w _
theorem Blk.drew (h : Blk w g t cs) : Blk w.drew g t cs := h
theorem Blk.drewN (h : Blk w g t cs) (n : Nat) : Blk (w.drewN n) g t cs := h
theorem Blk.alloc (h : Blk w g t cs) (o : Obj) : Blk (w.alloc o) g t cs := (Below.heap_alloc w o g h.lt).trans h
theorem Blk.set_ (h : Blk w g t cs) (i : Nat) (u : Value) : Blk (w.setCell ⟨g, i, none⟩ u) g t (cs.setIfInBounds i u) := by
  unfold Blk at h ⊢
  simp [World.setCell, Array.getElem?_modify, h]
theorem Blk.far (h : Blk w g t cs) {p : Addr} (hp : g ≠ p.block) (u : Value) : Blk (w.setCell p u) g t cs := (Below.heap_setCell w p u g hp).trans h
theorem Blk.below {B : Nat} (h : Blk w g t cs) (hb : Below B w w') (hg : g < B) : Blk w' g t cs := (hb.block g hg).trans h
theorem Blk.keep {S : Nat → Prop} (h : Blk w g t cs) (hk : Keeps S w w') (hg : ¬ S g) : Blk w' g t cs := (hk.block g h.lt hg).trans h
theorem Blk.grown {row : Option Nat} (h : Blk w g t cs) (hb : w.grownBy w' row) (hg : some g ≠ row) : Blk w' g t cs := (hb.block g h.lt hg).trans h
theorem Blk.ne_ {g' : Nat} {t' : TypeId} {cs' : Array Value} (h : Blk w g t cs) (h' : Blk w g' t' cs') (hne : t ≠ t') : g ≠ g' := by
  rintro rfl
  unfold Blk at h h'
  rw [h] at h'
  injection h' with h'
  injection h' with _ ht
  exact hne ht
end

/-- P holds wherever the blocks of 'ok' are as they are in w. -/
def Foot (P : World → Prop) (w : World) (ok : Nat → Prop) : Prop := ∀ w' : World, (∀ k, ok k → k < w.heap.size → w'.heap[k]? = w.heap[k]?) → P w'
theorem Foot.here {P : World → Prop} {w : World} {ok : Nat → Prop} (h : Foot P w ok) : P w := h w fun _ _ _ => rfl
theorem Foot.mono {P : World → Prop} {w : World} {ok ok' : Nat → Prop} (h : Foot P w ok) (hk : ∀ k, k < w.heap.size → ok k → ok' k) : Foot P w ok' :=
  fun w' e => h w' fun k hok hlt => e k (hk k hlt hok) hlt
theorem Foot.keep {P : World → Prop} {w w' : World} {ok ok' S : Nat → Prop} (h : Foot P w ok) (hk : Keeps S w w') (hS : ∀ k, k < w.heap.size → ok k → ¬ S k ∧ ok' k) : Foot P w' ok' :=
  fun w2 e => h w2 fun k hok hlt => by
    rw [e k (hS k hlt hok).2 (Nat.lt_of_lt_of_le hlt hk.size)]
    exact hk.block k hlt (hS k hlt hok).1
theorem Foot.imp {P Q : World → Prop} {w : World} {ok : Nat → Prop} (h : Foot P w ok) (hi : ∀ w', P w' → Q w') : Foot Q w ok := fun w' e => hi w' (h w' e)
theorem Foot.and {P Q : World → Prop} {w : World} {ok : Nat → Prop} (h : Foot P w ok) (h' : Foot Q w ok) : Foot (fun w => P w ∧ Q w) w ok := fun w' e => ⟨h w' e, h' w' e⟩


/-- A row of m records of sz cells each. -/
def grid (sz m : Nat) (f : Nat → Nat → Value) : Array Value := ((List.range (m * sz)).map fun k => f (k / sz) (k % sz)).toArray
theorem grid_size (sz m : Nat) (f : Nat → Nat → Value) : (grid sz m f).size = m * sz := by simp [grid]
theorem grid_at {sz m : Nat} (f : Nat → Nat → Value) {j r : Nat} (hj : j < m) (hr : r < sz) : (grid sz m f)[j * sz + r]? = some (f j r) := by
  have h1 : j * sz + r < m * sz := by
    have : (j + 1) * sz ≤ m * sz := Nat.mul_le_mul_right sz hj
    rw [Nat.add_mul] at this; omega
  have h2 : (j * sz + r) / sz = j := by
    rw [Nat.mul_comm, Nat.mul_add_div (by omega), Nat.div_eq_of_lt hr]; omega
  have h3 : (j * sz + r) % sz = r := by
    rw [Nat.mul_comm, Nat.mul_add_mod]; exact Nat.mod_eq_of_lt hr
  simp [grid, h1, h2, h3]
theorem grid_congr {sz m : Nat} {f g : Nat → Nat → Value} (h : ∀ j r, j < m → r < sz → f j r = g j r) : grid sz m f = grid sz m g := by
  unfold grid
  congr 1
  apply List.map_congr_left
  intro k hk
  have hk' : k < m * sz := by simpa using hk
  have hs : 0 < sz := by
    rcases Nat.eq_zero_or_pos sz with h0 | h0
    · subst h0; simp at hk'
    · exact h0
  exact h _ _ ((Nat.div_lt_iff_lt_mul hs).2 hk') (Nat.mod_lt _ hs)
theorem grid_set {sz m : Nat} (f : Nat → Nat → Value) {j r : Nat} (_hj : j < m) (hr : r < sz) (v : Value) :
    (grid sz m f).setIfInBounds (j * sz + r) v = grid sz m (fun a b => if a = j ∧ b = r then v else f a b) := by
  apply Array.ext_getElem?
  intro k
  rw [Array.getElem?_setIfInBounds]
  by_cases hk : k < m * sz
  · have e1 : (grid sz m f)[k]? = some (f (k / sz) (k % sz)) := by simp [grid, hk]
    have e2 : (grid sz m (fun a b => if a = j ∧ b = r then v else f a b))[k]? = some (if k / sz = j ∧ k % sz = r then v else f (k / sz) (k % sz)) := by simp [grid, hk]
    rw [e1, e2, grid_size]
    by_cases e : j * sz + r = k
    · subst e
      have h2 : (j * sz + r) / sz = j := by
        rw [Nat.mul_comm, Nat.mul_add_div (by omega), Nat.div_eq_of_lt hr]; omega
      have h3 : (j * sz + r) % sz = r := by
        rw [Nat.mul_comm, Nat.mul_add_mod]; exact Nat.mod_eq_of_lt hr
      simp [hk, h2, h3]
    · rw [if_neg e, if_neg]
      rintro ⟨h1, h2⟩
      apply e
      rw [← h1, ← h2, Nat.mul_comm]
      exact Nat.div_add_mod k sz
  · have e1 : (grid sz m f)[k]? = none := by rw [Array.getElem?_eq_none]; rw [grid_size]; omega
    have e2 : (grid sz m (fun a b => if a = j ∧ b = r then v else f a b))[k]? = none := by rw [Array.getElem?_eq_none]; rw [grid_size]; omega
    rw [e1, e2, grid_size]
    split
    · rename_i h; rw [if_neg (by omega)]
    · rfl


/-- A whole record laid over. -/
theorem grid_row {sz m : Nat} (f : Nat → Nat → Value) {i : Nat} (hi : i < m) (cs : List Value) (hc : cs.length = sz) (g : Nat → Value) (hg : ∀ j, j < sz → cs[j]? = some (g j)) :
    ((grid sz m f).toList.take (i * sz) ++ (cs ++ (grid sz m f).toList.drop (i * sz + cs.length))).toArray = grid sz m (fun a b => if a = i then g b else f a b) := by
  have hle : i * sz + sz ≤ m * sz := by
    have : (i + 1) * sz ≤ m * sz := Nat.mul_le_mul_right sz hi
    rw [Nat.add_mul] at this; omega
  apply Array.ext_getElem?
  intro k
  simp only [List.getElem?_toArray]
  have hlen : (grid sz m f).toList.length = m * sz := by rw [Array.length_toList, grid_size]
  have hF : ∀ f : Nat → Nat → Value, k < m * sz → (grid sz m f)[k]? = some (f (k / sz) (k % sz)) := fun f hk => by simp [grid, hk]
  by_cases hk : k < m * sz
  · have hs : 0 < sz := by
      rcases Nat.eq_zero_or_pos sz with h0 | h0
      · subst h0; simp at hk
      · exact h0
    rw [hF _ hk]
    have hdm := Nat.div_add_mod k sz
    by_cases h1 : k < i * sz
    · rw [List.getElem?_append_left (by rw [List.length_take]; omega), List.getElem?_take, if_pos h1, Array.getElem?_toList, hF _ hk, if_neg]
      intro e
      have : i * sz ≤ k := by rw [← e, Nat.mul_comm]; exact Nat.mul_div_le k sz
      omega
    · rw [List.getElem?_append_right (by rw [List.length_take]; omega)]
      have e0 : (List.take (i * sz) (grid sz m f).toList).length = i * sz := by rw [List.length_take]; omega
      rw [e0]
      by_cases h2 : k < i * sz + sz
      · have hd : k / sz = i := by
          obtain ⟨d, rfl⟩ : ∃ d, k = i * sz + d := ⟨k - i * sz, by omega⟩
          have hdl : d < sz := by omega
          rw [Nat.mul_comm, Nat.mul_add_div hs, Nat.div_eq_of_lt hdl]; omega
        have hm : k % sz = k - i * sz := by
          obtain ⟨d, rfl⟩ : ∃ d, k = i * sz + d := ⟨k - i * sz, by omega⟩
          have hdl : d < sz := by omega
          rw [Nat.add_sub_cancel_left, Nat.mul_comm, Nat.mul_add_mod]; exact Nat.mod_eq_of_lt hdl
        rw [List.getElem?_append_left (by omega), hg _ (by omega), if_pos hd, hm]
      · rw [List.getElem?_append_right (by omega), List.getElem?_drop]
        have e1 : i * sz + cs.length + (k - i * sz - cs.length) = k := by omega
        rw [e1, Array.getElem?_toList, hF _ hk, if_neg]
        intro e
        have : k < i * sz + sz := by
          have := Nat.mod_lt k hs
          rw [e, Nat.mul_comm] at hdm; omega
        omega
  · have e1 : (grid sz m (fun a b => if a = i then g b else f a b))[k]? = none := by rw [Array.getElem?_eq_none]; rw [grid_size]; omega
    rw [e1, List.getElem?_eq_none]
    simp only [List.length_append, List.length_take, List.length_drop, hlen]
    omega

/-- copy into a block that is known whole: nothing else turns. -/
theorem wpList_copy_to {P : Program} {w : World} {ops : Array Oper} {rest : List Oper} {o : Oper} {a : Act} {Q : Exit → Act → World → Prop} (hgd : o.guard = none) (d s : Operand) (dT sT : TypeId)
    (ho : o.op = .call { callee := .builtin .copy, args := #[d, s], argTypes := #[dT, sT] }) (elem : TypeId) (hu : P.underlying dT = some (.slice elem)) (hsz : (P.info? elem).map (·.size) = some 1)
    (g off dLen dCap : Nat) (ad : Addr) (sLen sCap : Nat) (hd : a.eval d = .slice (some ⟨g, off, none⟩) dLen dCap) (hs : a.eval s = .slice (some ad) sLen sCap)
    (cur : Array Value) (t : TypeId) (hg : Blk w g t cur) (cs : List Value) (hn : cs.length = Nat.min sLen dLen)
    (hsrc : ∀ j v, cs[j]? = some v → w.cell? (ad.add j) = some v) (hfit : off + cs.length ≤ cur.size) (h1 : ∀ v ∈ cs, v.oneCell' = true)
    (new : Array Value) (hnew : (cur.toList.take off ++ (cs ++ cur.toList.drop (off + cs.length))).toArray = new)
    (h : ∀ w', Blk w' g t new → Keeps (fun k => k = g) w w' → wpList P ops Q rest (a.put o.dst (goInt cs.length)) w') : wpList P ops Q (o :: rest) a w := by
  refine wpList_copy_own hgd d s dT sT ho elem hu hsz g off dLen dCap ad sLen sCap hd hs cur t hg cs hn hsrc hfit h1 (h _ ?_ ?_)
  · rw [hnew]; exact setRow_heap w g _ _ t _ hg
  · exact ⟨rfl, rfl, rfl, by simp [World.setRow], fun k _ hk => setRow_other w g k _ hk⟩

theorem cell_one_at {W : World} {g : Nat} {x : Value} {t : TypeId} (hg : W.heap.size = g) : ∀ j u, [x][j]? = some u → (W.alloc (.cells #[x] t)).cell? ((⟨g, 0, none⟩ : Addr).add j) = some u := by
  subst hg
  exact cell_one_new W x t

theorem ret_int {k : IntKind} {a b : Int} (h : a = b) : Ending.returned (.int k a) = .returned (.int k b) := by rw [h]

end Go.Proofs.Sg
