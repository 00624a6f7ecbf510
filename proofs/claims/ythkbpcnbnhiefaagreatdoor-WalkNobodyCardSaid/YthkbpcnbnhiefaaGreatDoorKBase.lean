/- Mem · Dev0 · Clone · Dev · Map · Ring · Chain, in one. -/
import Derived.Below
import Derived.Laws.OwnMore
import Derived.Deep.AppendLies
import Derived.Deep.Draws
import Derived.Laws.Rows
import Derived.Laws.CopyOwn
import Derived.Maps.AppendAt
import Derived.Test.YthkbpcnbnhiefaaGreatDoorProg
import Derived.WalkKit
import Derived.Deep.QuietTactic
import Derived.BigQuiet
import Derived.Lib.Walk
import Derived.Lib.SliceRun
import Derived.WalkSpells
import Derived.Handy
import Derived.Deep.OwnRows
import Derived.Maps.OwnSet
import Derived.Maps.Range
/-! Words for memory: what a step keeps, what a fact hangs on, blocks known whole; no program. -/
namespace Go.Proofs.Sg
open Go.RowKit

/-- A fact that the walk's simp doesn't look into. -/
structure Hd (p : Prop) : Prop where mk :: (out : p)

/-- Blocks outside S are as they were; none has gone; the streams are as they were. -/
structure Keeps (S : Nat → Prop) (w w' : World) : Prop where
  os : w'.os = w.os
  tape : w'.tape = w.tape
  output : w'.output = w.output
  size : w.heap.size ≤ w'.heap.size
  block : ∀ k, k < w.heap.size → ¬ S k → w'.heap[k]? = w.heap[k]?

theorem Keeps.refl (S : Nat → Prop) (w : World) : Keeps S w w := ⟨rfl, rfl, rfl, Nat.le_refl _, fun _ _ _ => rfl⟩
theorem Keeps.trans {S T U : Nat → Prop} {a b c : World} (h : Keeps S a b) (k : Keeps T b c) (hS : ∀ i, i < a.heap.size → S i → U i) (hT : ∀ i, i < a.heap.size → T i → U i) : Keeps U a c :=
  ⟨k.os.trans h.os, k.tape.trans h.tape, k.output.trans h.output, Nat.le_trans h.size k.size,
    fun i hi hn => (k.block i (Nat.lt_of_lt_of_le hi h.size) (fun ht => hn (hT i hi ht))).trans (h.block i hi (fun hs => hn (hS i hi hs)))⟩
theorem Keeps.mono {S T : Nat → Prop} {a b : World} (h : Keeps S a b) (hS : ∀ i, i < a.heap.size → S i → T i) : Keeps T a b :=
  ⟨h.os, h.tape, h.output, h.size, fun i hi hn => h.block i hi (fun hs => hn (hS i hi hs))⟩
theorem Keeps.of_below {S : Nat → Prop} {a b : World} (h : Below a.heap.size a b) : Keeps S a b := ⟨h.os, h.tape, h.output, h.size, fun i hi _ => h.block i hi⟩
theorem Keeps.below {S : Nat → Prop} {a b : World} {B : Nat} (h : Keeps S a b) (hB : B ≤ a.heap.size) (hS : ∀ i, i < B → ¬ S i) : Below B a b :=
  ⟨h.os, h.tape, h.output, h.size, fun i hi => h.block i (Nat.lt_of_lt_of_le hi hB) (hS i hi)⟩
theorem Keeps.drew {S : Nat → Prop} {a b : World} (h : Keeps S a b) : Keeps S a b.drew := ⟨h.os, h.tape, h.output, h.size, h.block⟩
theorem Keeps.drewN {S : Nat → Prop} {a b : World} (h : Keeps S a b) (n : Nat) : Keeps S a (b.drewN n) := ⟨h.os, h.tape, h.output, h.size, h.block⟩
theorem Keeps.alloc {S : Nat → Prop} {a b : World} (h : Keeps S a b) (o : Obj) : Keeps S a (b.alloc o) :=
  h.trans (T := S) (Keeps.of_below ((Below.refl _ _).alloc (Nat.le_refl _) o)) (fun _ _ h => h) (fun _ _ h => h)
theorem Keeps.setCell {S : Nat → Prop} {a b : World} (h : Keeps S a b) {p : Addr} (hp : p.block < a.heap.size → S p.block) (u : Value) : Keeps S a (b.setCell p u) :=
  ⟨h.os, h.tape, h.output, by simpa [World.setCell] using h.size, fun i hi hn => by
    rw [Below.heap_setCell _ _ _ _ (by rintro rfl; exact hn (hp hi))]; exact h.block i hi hn⟩
theorem Keeps.grown {S : Nat → Prop} {a b c : World} {row : Option Nat} (h : Keeps S a b) (hg : b.grownBy c row) (hr : ∀ k, row = some k → k < a.heap.size → S k) : Keeps S a c :=
  ⟨hg.os.trans h.os, hg.tape.trans h.tape, hg.output.trans h.output, Nat.le_trans h.size hg.size, fun i hi hn => by
    rw [hg.block i (Nat.lt_of_lt_of_le hi h.size) (fun e => hn (hr i e.symm hi))]; exact h.block i hi hn⟩

/-- A block that is known whole. -/
def Blk (w : World) (g : Nat) (t : TypeId) (cs : Array Value) : Prop := w.heap[g]? = some (.cells cs t (0, 0))
section
variable {w w' : World} {g : Nat} {t : TypeId} {cs : Array Value}
theorem Blk.lt (h : Blk w g t cs) : g < w.heap.size := by
  rcases Nat.lt_or_ge g w.heap.size with hlt | hge
  · exact hlt
  · unfold Blk at h; rw [Array.getElem?_eq_none hge] at h; cases h
theorem Blk.cell (h : Blk w g t cs) (i : Nat) : w.cell? ⟨g, i, none⟩ = cs[i]? := cell_of_row w g i cs t (0, 0) h
theorem Blk.frozen (h : Blk w g t cs) (i : Nat) : w.frozen? ⟨g, i, none⟩ = false := by
  unfold Blk at h
  simp [World.frozen?, h]
theorem Blk.new (w : World) (t : TypeId) (cs : Array Value) : Blk (w.alloc (.cells cs t)) w.heap.size t cs := heap_alloc_new w _
theorem Blk.drew (h : Blk w g t cs) : Blk w.drew g t cs := h
theorem Blk.drewN (h : Blk w g t cs) (n : Nat) : Blk (w.drewN n) g t cs := h
theorem Blk.alloc (h : Blk w g t cs) (o : Obj) : Blk (w.alloc o) g t cs := (Below.heap_alloc w o g h.lt).trans h
theorem Blk.set_ (h : Blk w g t cs) (i : Nat) (u : Value) : Blk (w.setCell ⟨g, i, none⟩ u) g t (cs.setIfInBounds i u) := by
  unfold Blk at h ⊢
  simp [World.setCell, Array.getElem?_modify, h]
theorem Blk.far (h : Blk w g t cs) {p : Addr} (hp : g ≠ p.block) (u : Value) : Blk (w.setCell p u) g t cs := (Below.heap_setCell w p u g hp).trans h
theorem Blk.below {B : Nat} (h : Blk w g t cs) (hb : Below B w w') (hg : g < B) : Blk w' g t cs := (hb.block g hg).trans h
theorem Blk.keep {S : Nat → Prop} (h : Blk w g t cs) (hk : Keeps S w w') (hg : ¬ S g) : Blk w' g t cs := (hk.block g h.lt hg).trans h
theorem Blk.grown {row : Option Nat} (h : Blk w g t cs) (hb : w.grownBy w' row) (hg : some g ≠ row) : Blk w' g t cs := (hb.block g h.lt hg).trans h
theorem Blk.ne_ {g' : Nat} {t' : TypeId} {cs' : Array Value} (h : Blk w g t cs) (h' : Blk w g' t' cs') (hne : t ≠ t') : g ≠ g' := by
  rintro rfl
  unfold Blk at h h'
  rw [h] at h'
  injection h' with h'
  injection h' with _ ht
  exact hne ht
end

/-- P holds wherever the blocks of 'ok' are as they are in w. -/
def Foot (P : World → Prop) (w : World) (ok : Nat → Prop) : Prop := ∀ w' : World, (∀ k, ok k → k < w.heap.size → w'.heap[k]? = w.heap[k]?) → P w'
theorem Foot.here {P : World → Prop} {w : World} {ok : Nat → Prop} (h : Foot P w ok) : P w := h w fun _ _ _ => rfl
theorem Foot.mono {P : World → Prop} {w : World} {ok ok' : Nat → Prop} (h : Foot P w ok) (hk : ∀ k, k < w.heap.size → ok k → ok' k) : Foot P w ok' :=
  fun w' e => h w' fun k hok hlt => e k (hk k hlt hok) hlt
theorem Foot.keep {P : World → Prop} {w w' : World} {ok ok' S : Nat → Prop} (h : Foot P w ok) (hk : Keeps S w w') (hS : ∀ k, k < w.heap.size → ok k → ¬ S k ∧ ok' k) : Foot P w' ok' :=
  fun w2 e => h w2 fun k hok hlt => by
    rw [e k (hS k hlt hok).2 (Nat.lt_of_lt_of_le hlt hk.size)]
    exact hk.block k hlt (hS k hlt hok).1
theorem Foot.imp {P Q : World → Prop} {w : World} {ok : Nat → Prop} (h : Foot P w ok) (hi : ∀ w', P w' → Q w') : Foot Q w ok := fun w' e => hi w' (h w' e)
theorem Foot.and {P Q : World → Prop} {w : World} {ok : Nat → Prop} (h : Foot P w ok) (h' : Foot Q w ok) : Foot (fun w => P w ∧ Q w) w ok := fun w' e => ⟨h w' e, h' w' e⟩


/-- A row of m records of sz cells each. -/
def grid (sz m : Nat) (f : Nat → Nat → Value) : Array Value := ((List.range (m * sz)).map fun k => f (k / sz) (k % sz)).toArray
theorem grid_size (sz m : Nat) (f : Nat → Nat → Value) : (grid sz m f).size = m * sz := by simp [grid]
theorem grid_at {sz m : Nat} (f : Nat → Nat → Value) {j r : Nat} (hj : j < m) (hr : r < sz) : (grid sz m f)[j * sz + r]? = some (f j r) := by
  have h1 : j * sz + r < m * sz := by
    have : (j + 1) * sz ≤ m * sz := Nat.mul_le_mul_right sz hj
    rw [Nat.add_mul] at this; omega
  have h2 : (j * sz + r) / sz = j := by
    rw [Nat.mul_comm, Nat.mul_add_div (by omega), Nat.div_eq_of_lt hr]; omega
  have h3 : (j * sz + r) % sz = r := by
    rw [Nat.mul_comm, Nat.mul_add_mod]; exact Nat.mod_eq_of_lt hr
  simp [grid, h1, h2, h3]
theorem grid_congr {sz m : Nat} {f g : Nat → Nat → Value} (h : ∀ j r, j < m → r < sz → f j r = g j r) : grid sz m f = grid sz m g := by
  unfold grid
  congr 1
  apply List.map_congr_left
  intro k hk
  have hk' : k < m * sz := by simpa using hk
  have hs : 0 < sz := by
    rcases Nat.eq_zero_or_pos sz with h0 | h0
    · subst h0; simp at hk'
    · exact h0
  exact h _ _ ((Nat.div_lt_iff_lt_mul hs).2 hk') (Nat.mod_lt _ hs)
theorem grid_set {sz m : Nat} (f : Nat → Nat → Value) {j r : Nat} (_hj : j < m) (hr : r < sz) (v : Value) :
    (grid sz m f).setIfInBounds (j * sz + r) v = grid sz m (fun a b => if a = j ∧ b = r then v else f a b) := by
  apply Array.ext_getElem?
  intro k
  rw [Array.getElem?_setIfInBounds]
  by_cases hk : k < m * sz
  · have e1 : (grid sz m f)[k]? = some (f (k / sz) (k % sz)) := by simp [grid, hk]
    have e2 : (grid sz m (fun a b => if a = j ∧ b = r then v else f a b))[k]? = some (if k / sz = j ∧ k % sz = r then v else f (k / sz) (k % sz)) := by simp [grid, hk]
    rw [e1, e2, grid_size]
    by_cases e : j * sz + r = k
    · subst e
      have h2 : (j * sz + r) / sz = j := by
        rw [Nat.mul_comm, Nat.mul_add_div (by omega), Nat.div_eq_of_lt hr]; omega
      have h3 : (j * sz + r) % sz = r := by
        rw [Nat.mul_comm, Nat.mul_add_mod]; exact Nat.mod_eq_of_lt hr
      simp [hk, h2, h3]
    · rw [if_neg e, if_neg]
      rintro ⟨h1, h2⟩
      apply e
      rw [← h1, ← h2, Nat.mul_comm]
      exact Nat.div_add_mod k sz
  · have e1 : (grid sz m f)[k]? = none := by rw [Array.getElem?_eq_none]; rw [grid_size]; omega
    have e2 : (grid sz m (fun a b => if a = j ∧ b = r then v else f a b))[k]? = none := by rw [Array.getElem?_eq_none]; rw [grid_size]; omega
    rw [e1, e2, grid_size]
    split
    · rename_i h; rw [if_neg (by omega)]
    · rfl


/-- A whole record laid over. -/
theorem grid_row {sz m : Nat} (f : Nat → Nat → Value) {i : Nat} (hi : i < m) (cs : List Value) (hc : cs.length = sz) (g : Nat → Value) (hg : ∀ j, j < sz → cs[j]? = some (g j)) :
    ((grid sz m f).toList.take (i * sz) ++ (cs ++ (grid sz m f).toList.drop (i * sz + cs.length))).toArray = grid sz m (fun a b => if a = i then g b else f a b) := by
  have hle : i * sz + sz ≤ m * sz := by
    have : (i + 1) * sz ≤ m * sz := Nat.mul_le_mul_right sz hi
    rw [Nat.add_mul] at this; omega
  apply Array.ext_getElem?
  intro k
  simp only [List.getElem?_toArray]
  have hlen : (grid sz m f).toList.length = m * sz := by rw [Array.length_toList, grid_size]
  have hF : ∀ f : Nat → Nat → Value, k < m * sz → (grid sz m f)[k]? = some (f (k / sz) (k % sz)) := fun f hk => by simp [grid, hk]
  by_cases hk : k < m * sz
  · have hs : 0 < sz := by
      rcases Nat.eq_zero_or_pos sz with h0 | h0
      · subst h0; simp at hk
      · exact h0
    rw [hF _ hk]
    have hdm := Nat.div_add_mod k sz
    by_cases h1 : k < i * sz
    · rw [List.getElem?_append_left (by rw [List.length_take]; omega), List.getElem?_take, if_pos h1, Array.getElem?_toList, hF _ hk, if_neg]
      intro e
      have : i * sz ≤ k := by rw [← e, Nat.mul_comm]; exact Nat.mul_div_le k sz
      omega
    · rw [List.getElem?_append_right (by rw [List.length_take]; omega)]
      have e0 : (List.take (i * sz) (grid sz m f).toList).length = i * sz := by rw [List.length_take]; omega
      rw [e0]
      by_cases h2 : k < i * sz + sz
      · have hd : k / sz = i := by
          obtain ⟨d, rfl⟩ : ∃ d, k = i * sz + d := ⟨k - i * sz, by omega⟩
          have hdl : d < sz := by omega
          rw [Nat.mul_comm, Nat.mul_add_div hs, Nat.div_eq_of_lt hdl]; omega
        have hm : k % sz = k - i * sz := by
          obtain ⟨d, rfl⟩ : ∃ d, k = i * sz + d := ⟨k - i * sz, by omega⟩
          have hdl : d < sz := by omega
          rw [Nat.add_sub_cancel_left, Nat.mul_comm, Nat.mul_add_mod]; exact Nat.mod_eq_of_lt hdl
        rw [List.getElem?_append_left (by omega), hg _ (by omega), if_pos hd, hm]
      · rw [List.getElem?_append_right (by omega), List.getElem?_drop]
        have e1 : i * sz + cs.length + (k - i * sz - cs.length) = k := by omega
        rw [e1, Array.getElem?_toList, hF _ hk, if_neg]
        intro e
        have : k < i * sz + sz := by
          have := Nat.mod_lt k hs
          rw [e, Nat.mul_comm] at hdm; omega
        omega
  · have e1 : (grid sz m (fun a b => if a = i then g b else f a b))[k]? = none := by rw [Array.getElem?_eq_none]; rw [grid_size]; omega
    rw [e1, List.getElem?_eq_none]
    simp only [List.length_append, List.length_take, List.length_drop, hlen]
    omega

/-- copy into a block that is known whole: nothing else turns. -/
theorem wpList_copy_to {P : Program} {w : World} {ops : Array Oper} {rest : List Oper} {o : Oper} {a : Act} {Q : Exit → Act → World → Prop} (hgd : o.guard = none) (d s : Operand) (dT sT : TypeId)
    (ho : o.op = .call { callee := .builtin .copy, args := #[d, s], argTypes := #[dT, sT] }) (elem : TypeId) (hu : P.underlying dT = some (.slice elem)) (hsz : (P.info? elem).map (·.size) = some 1)
    (g off dLen dCap : Nat) (ad : Addr) (sLen sCap : Nat) (hd : a.eval d = .slice (some ⟨g, off, none⟩) dLen dCap) (hs : a.eval s = .slice (some ad) sLen sCap)
    (cur : Array Value) (t : TypeId) (hg : Blk w g t cur) (cs : List Value) (hn : cs.length = Nat.min sLen dLen)
    (hsrc : ∀ j v, cs[j]? = some v → w.cell? (ad.add j) = some v) (hfit : off + cs.length ≤ cur.size) (h1 : ∀ v ∈ cs, v.oneCell' = true)
    (new : Array Value) (hnew : (cur.toList.take off ++ (cs ++ cur.toList.drop (off + cs.length))).toArray = new)
    (h : ∀ w', Blk w' g t new → Keeps (fun k => k = g) w w' → wpList P ops Q rest (a.put o.dst (goInt cs.length)) w') : wpList P ops Q (o :: rest) a w := by
  refine wpList_copy_own hgd d s dT sT ho elem hu hsz g off dLen dCap ad sLen sCap hd hs cur t hg cs hn hsrc hfit h1 (h _ ?_ ?_)
  · rw [hnew]; exact setRow_heap w g _ _ t _ hg
  · exact ⟨rfl, rfl, rfl, by simp [World.setRow], fun k _ hk => setRow_other w g k _ hk⟩

theorem cell_one_at {W : World} {g : Nat} {x : Value} {t : TypeId} (hg : W.heap.size = g) : ∀ j u, [x][j]? = some u → (W.alloc (.cells #[x] t)).cell? ((⟨g, 0, none⟩ : Addr).add j) = some u := by
  subst hg
  exact cell_one_new W x t

theorem ret_int {k : IntKind} {a b : Int} (h : a = b) : Ending.returned (.int k a) = .returned (.int k b) := by rw [h]

end Go.Proofs.Sg
/-! Bytes in memory, and a device: words. -/
namespace Go.Proofs.Sg
open Go.RowKit

/-- A value of a byte. -/
abbrev bv (b : UInt8) : Value := .int .u8 b.toNat

/-- The cells of a block from a place on are these bytes. -/
def BytesAt (w : World) (b off : Nat) (xs : List UInt8) : Prop := ∀ j, j < xs.length → w.cell? ⟨b, off + j, none⟩ = some (bv (xs.getD j 0))
theorem BytesAt.keep {w w' : World} {b off : Nat} {xs : List UInt8} (h : BytesAt w b off xs) (e : w'.heap[b]? = w.heap[b]?) : BytesAt w' b off xs := fun j hj => (World.cell?_of_block e).trans (h j hj)

/-- All blocks' bytes, one behind the other. -/
def dgrid (bytes blocks : Nat) (D : Nat → List UInt8) : Array Value := grid bytes blocks fun i j => bv ((D i).getD j 0)
def updD (D : Nat → List UInt8) (i : Nat) (bs : List UInt8) : Nat → List UInt8 := fun j => if j = i then bs else D j
theorem dgrid_row {bytes blocks i : Nat} (D : Nat → List UInt8) (hi : i < blocks) (bs : List UInt8) (hl : bs.length = bytes) :
    ((dgrid bytes blocks D).toList.take (i * bytes) ++ (bs.map bv ++ (dgrid bytes blocks D).toList.drop (i * bytes + (bs.map bv).length))).toArray = dgrid bytes blocks (updD D i bs) := by
  refine (grid_row _ hi (bs.map bv) (by simpa using hl) (fun j => bv (bs.getD j 0)) (fun j hj => by simp [show j < bs.length by omega])).trans ?_
  unfold dgrid
  apply grid_congr
  intro a b _ _
  unfold updD
  by_cases h : a = i <;> simp [h]

/-- A count, as its 64 digits tell it. -/
def u64 (r : Nat) : Int := ((r % 18446744073709551616 : Nat) : Int)
theorem u64_step (r : Nat) : IntKind.u64.wrap (u64 r + 1) = u64 (r + 1) := by unfold u64; rw [IntKind.wrap_u64]; omega

/-- A device's two blocks: its struct, and its image; D: each block's bytes. -/
def IsDev (w : World) (gd gi blocks bytes : Nat) (D : Nat → List UInt8) (r s : Nat) : Prop :=
  Blk w gd 147 #[.int .i64 bytes, .slice (some ⟨gi, 0, none⟩) (blocks * bytes) (blocks * bytes), .int .u64 (u64 r), .int .u64 (u64 s)] ∧
  Blk w gi 5 (dgrid bytes blocks D) ∧ 5 ≤ blocks ∧ blocks ≤ 65536 ∧ 1 ≤ bytes ∧ bytes ≤ 65536 ∧ (∀ i, i < blocks → (D i).length = bytes)

theorem IsDev.bytes_at {w : World} {gd gi blocks bytes : Nat} {D : Nat → List UInt8} {r s : Nat} (h : IsDev w gd gi blocks bytes D r s) {i : Nat} (hi : i < blocks) : BytesAt w gi (i * bytes) (D i) := by
  intro j hj
  obtain ⟨_, hg, _, _, _, _, hD⟩ := h
  rw [hD i hi] at hj
  exact (hg.cell _).trans (grid_at (fun i j => bv ((D i).getD j 0)) hi hj)


end Go.Proofs.Sg
/-! slices.Clone, of bytes, numbers, texts, messages and pairs. -/
namespace Go.Proofs.Sg
open Go.RowKit Go.Lib

theorem info_parts' {P : Program} {e : TypeId} {z : Value} {size bytes : Nat} (h : (P.info? e).map (fun i => (i.zero, i.size, i.bytes)) = some (some z, size, bytes)) : ∃ i0, P.info? e = some i0 ∧ i0.zero = some z ∧ i0.size = size ∧ i0.bytes = bytes := by
  obtain ⟨i0, h1, h2⟩ := Option.map_eq_some_iff.1 h
  simp only [Prod.mk.injEq] at h2
  exact ⟨i0, h1, h2.1, h2.2.1, h2.2.2⟩

/-- What an owned row is, not nil: its block, new, and its first cells. -/
theorem own_at {w0 w : World} {e size n : Nat} {v : Value} {xs : List Value} (h : w.ownsRow w0.heap.size e size v n xs) (hne : v ≠ .slice none 0 0) :
    ∃ g c, v = .slice (some ⟨g, 0, none⟩) n c ∧ w0.heap.size ≤ g ∧ g < w.heap.size ∧ n ≤ c ∧ (∃ cs, Blk w g e cs) ∧ (∀ k, w.frozen? ⟨g, k, none⟩ = false) ∧ ∀ j, j < xs.length → w.cell? ⟨g, j, none⟩ = xs[j]? := by
  have h0 := h
  rcases h.2 with ⟨rfl, _⟩ | ⟨g, cap, cur, rfl, hb, hh, hnc, h5⟩
  · exact absurd rfl hne
  · have hlt : g < w.heap.size := (Array.getElem?_eq_some_iff.1 hh).1
    refine ⟨g, cap, rfl, hb, hlt, ?_, ⟨_, hh⟩, fun k => Blk.frozen hh k, fun j hj => ?_⟩
    · omega
    · have := h0.cells (g := g) rfl j xs[j] (List.getElem?_eq_getElem hj)
      have e : (⟨g, 0, none⟩ : Addr).add j = ⟨g, j, none⟩ := by unfold Addr.add; split <;> simp_all
      rw [e] at this
      rw [this, List.getElem?_eq_getElem hj]

theorem own_at_ne {w : World} {base e size n : Nat} {v : Value} {xs : List Value} (h : w.ownsRow base e size v n xs) (hne : xs ≠ []) :
    ∃ g c, v = .slice (some ⟨g, 0, none⟩) n c ∧ base ≤ g ∧ g < w.heap.size ∧ n ≤ c ∧ (∃ cs, Blk w g e cs) ∧ ∀ j, j < xs.length → w.cell? ⟨g, j, none⟩ = xs[j]? := by
  have h0 := h
  rcases h.2 with ⟨rfl, h1⟩ | ⟨g, cap, cur, rfl, hb, hh, hnc, h5⟩
  · exact absurd (List.eq_nil_of_length_eq_zero (by rw [h.1, h1, Nat.zero_mul])) hne
  · have hlt : g < w.heap.size := (Array.getElem?_eq_some_iff.1 hh).1
    refine ⟨g, cap, rfl, hb, hlt, ?_, ⟨_, hh⟩, fun j hj => ?_⟩
    · omega
    · have := h0.cells (g := g) rfl j xs[j] (List.getElem?_eq_getElem hj)
      have e : (⟨g, 0, none⟩ : Addr).add j = ⟨g, j, none⟩ := by unfold Addr.add; split <;> simp_all
      rw [e] at this
      rw [this, List.getElem?_eq_getElem hj]

theorem Tryz.infoU8 : (Tryz.prog.info? 5).map (fun i => (i.zero, i.size, i.bytes)) = some (some (.int .u8 0), 1, 1) := by kernel_rfl

set_option maxHeartbeats 1000000 in
theorem clone_u8 {w : World} (b off n c : Nat) (news : List Value) (hl : news.length = n) (hbig : n ≤ 140737488355328)
    (hc : ∀ j, j < n → w.cell? ⟨b, off + j, none⟩ = news[j]?) (h1 : ∀ u ∈ news, u.oneCell' = true) :
    Calls Tryz.prog 86 #[.slice (some ⟨b, off, none⟩) n c] w fun e w' => ∃ v', e = .returned v' ∧ w'.ownsRow w.heap.size 5 1 v' n news ∧ v' ≠ .slice none 0 0 ∧ Below w.heap.size w w' := by
  obtain ⟨i0, hi, hz0, hz1, hz2⟩ := info_parts' Tryz.infoU8
  have q22 : ∀ (w : World) (a : Option Addr) (n c n' c' : Nat), (binOp .eql 26 (.slice a n c) (.slice none n' c')).run Tryz.prog w = .ok (.bool a.isNone) w := fun w a n c n' c' => Lib.run_eql_slice_nil w _ _ a n c n' c' Tryz.underlying26
  have A : Hd (∀ j, j < n → w.cell? ⟨b, off + j, none⟩ = news[j]?) := ⟨hc⟩
  clear hc
  go_enter Tryz.func86, Tryz.ntmps86
  go_wp2_with (at_builtin; refine wpList_append_own _ rfl _ _ 26 rfl w.heap.size 5 i0 (.int .u8 0) 1 1 Tryz.underlying26 hi hz0 hz1 hz2 rfl (by decide) _ _ _ rfl (World.ownsRow_made w #[] 0 (Nat.le_refl _) (Nat.zero_le _) (by simp)) ⟨b, off, none⟩ n c news rfl ?qc1 ?qc2 ?qc3 ?qc4 ?qc5 ?qc6 ?_)
  case qc1 => simpa using hl
  case qc2 =>
    intro j u hj
    rw [Addr.add_lit]
    have hjl : j < n := by rw [← hl]; exact (List.getElem?_eq_some_iff.1 hj).1
    exact Lib.cell?_alloc_some _ ((A.out j hjl).trans hj)
  case qc3 => exact h1
  case qc4 => rw [Nat.zero_add]; unfold maxLen; omega
  case qc5 => rw [Nat.zero_add]; omega
  case qc6 => simp
  intro v' w1 hown hgrow hnil
  go_wp2
  go_ret
  refine ⟨v', rfl, by simpa using hown, ?_, ?_⟩
  · exact hnil
  · exact ((Below.refl _ w).alloc (Nat.le_refl _) _).grown hgrow (by simp) (by intro k hk; simp [Value.ownBlock] at hk; omega)


theorem clone_bytes {w : World} {b off : Nat} {xs : List UInt8} (h : BytesAt w b off xs) (c : Nat) (hbig : xs.length ≤ 140737488355328) :
    Calls Tryz.prog 86 #[.slice (some ⟨b, off, none⟩) xs.length c] w fun e w' => ∃ g c', e = .returned (.slice (some ⟨g, 0, none⟩) xs.length c') ∧ w.heap.size ≤ g ∧ g < w'.heap.size ∧ xs.length ≤ c' ∧ (∃ cs, Blk w' g 5 cs) ∧ BytesAt w' g 0 xs ∧ Below w.heap.size w w' := by
  refine (clone_u8 b off xs.length c (xs.map bv) (by simp) hbig (fun j hj => ?_) (fun u hu => ?_)).mono ?_
  · rw [h j hj]; simp [hj]
  · obtain ⟨x, _, rfl⟩ := List.mem_map.1 hu; rfl
  · rintro e w' ⟨v, rfl, hown, hne, hb⟩
    obtain ⟨g, c', rfl, h1, h2, h3, h4, _, h6⟩ := own_at hown hne
    refine ⟨g, c', rfl, h1, h2, h3, h4, fun j hj => ?_, hb⟩
    rw [Nat.zero_add, h6 j (by simpa using hj)]; simp [hj]

end Go.Proofs.Sg
/-! The device: each of its methods. -/
namespace Go.Proofs.Sg
open Go.RowKit

theorem mul_div64 {a b : Nat} (h2 : a ≤ 65536) (h3 : 1 ≤ b) : wrap64 (((a : Int) * (b : Int)).tdiv (b : Int)) = a := by
  rw [Int.mul_tdiv_cancel _ (by omega)]; unfold wrap64; omega

theorem dev_blocks {w : World} {gd gi blocks bytes : Nat} {D : Nat → List UInt8} {r s : Nat} (h : IsDev w gd gi blocks bytes D r s) :
    Calls Tryz.prog 53 #[.pointer (some ⟨gd, 0, none⟩)] w fun e w' => e = .returned (.int .i64 blocks) ∧ ∃ q, w' = w.drewN q := by
  obtain ⟨hd, hg, h1, h2, h3, h4, hD⟩ := h
  have c0 : w.cell? ⟨gd, 0, none⟩ = some (.int .i64 bytes) := hd.cell 0
  have c1 : w.cell? ⟨gd, 1, none⟩ = some (.slice (some ⟨gi, 0, none⟩) (blocks * bytes) (blocks * bytes)) := hd.cell 1
  have hb : ((bytes : Int) == 0) = false := by simp; omega
  go_enter Tryz.func53, Tryz.ntmps53
  go_wp2
  go_quiet (fail)
  go_wp2
  go_ret
  exact ⟨ret_int (mul_div64 h2 h3), nq, rfl⟩

theorem dev_bytes {w : World} {gd gi blocks bytes : Nat} {D : Nat → List UInt8} {r s : Nat} (h : IsDev w gd gi blocks bytes D r s) :
    Calls Tryz.prog 54 #[.pointer (some ⟨gd, 0, none⟩)] w fun e w' => e = .returned (.int .i64 bytes) ∧ w = w' := by
  obtain ⟨hd, hg, h1, h2, h3, h4, hD⟩ := h
  have c0 : w.cell? ⟨gd, 0, none⟩ = some (.int .i64 bytes) := hd.cell 0
  go_enter Tryz.func54, Tryz.ntmps54
  go_wp2
  go_ret
  exact ⟨rfl, rfl⟩

theorem IsDev.drewN {w : World} {gd gi blocks bytes : Nat} {D : Nat → List UInt8} {r s : Nat} (h : IsDev w gd gi blocks bytes D r s) (q : Nat) : IsDev (w.drewN q) gd gi blocks bytes D r s := h

theorem dev_at {w : World} {gd gi blocks bytes : Nat} {D : Nat → List UInt8} {r s : Nat} (h : IsDev w gd gi blocks bytes D r s) (i : Nat) (hi : i < blocks) :
    Calls Tryz.prog 85 #[.pointer (some ⟨gd, 0, none⟩), .int .u32 i] w fun e w' => e = .returned (.tuple #[.slice (some ⟨gi, i * bytes, none⟩) bytes (blocks * bytes - i * bytes), .int .i64 0]) ∧ ∃ q, w' = w.drewN q := by
  have h0 := h
  obtain ⟨hd, hg, h1, h2, h3, h4, hD⟩ := h
  have c0 : w.cell? ⟨gd, 0, none⟩ = some (.int .i64 bytes) := hd.cell 0
  have c1 : w.cell? ⟨gd, 1, none⟩ = some (.slice (some ⟨gi, 0, none⟩) (blocks * bytes) (blocks * bytes)) := hd.cell 1
  have m1 : 0 ≤ (i : Int) * (bytes : Int) := Int.mul_nonneg (by omega) (by omega)
  have m2 : (i : Int) * (bytes : Int) + bytes ≤ (blocks : Int) * (bytes : Int) := by
    have : ((i + 1 : Nat) : Int) * (bytes : Int) ≤ (blocks : Int) * (bytes : Int) := Int.mul_le_mul_of_nonneg_right (by omega) (by omega)
    rw [Int.natCast_add, Int.add_mul] at this; omega
  have m3 : (blocks : Int) * (bytes : Int) ≤ 4294967296 := by
    have : (blocks : Int) * (bytes : Int) ≤ 65536 * 65536 := Int.mul_le_mul (by omega) (by omega) (by omega) (by omega)
    omega
  go_enter Tryz.func85, Tryz.ntmps85
  go_wp2_with fail
  refine (dev_blocks h0).mono ?_
  rintro e w' ⟨rfl, q, rfl⟩
  go_wp2_with fail
  refine (dev_blocks (h0.drewN q)).mono ?_
  rintro e w' ⟨rfl, q2, rfl⟩
  go_wp2_with fail
  go_quiet (fail)
  go_wp2
  go_ret2
  exact ⟨by simp, _, World.drewN_drewN ..⟩


theorem IsDev.keep {w w' : World} {S : Nat → Prop} {gd gi blocks bytes : Nat} {D : Nat → List UInt8} {r s : Nat} (h : IsDev w gd gi blocks bytes D r s) (hk : Keeps S w w') (h1 : ¬ S gd) (h2 : ¬ S gi) : IsDev w' gd gi blocks bytes D r s := by
  obtain ⟨hd, hg, h3⟩ := h
  exact ⟨hd.keep hk h1, hg.keep hk h2, h3⟩
theorem IsDev.ne {w : World} {gd gi blocks bytes : Nat} {D : Nat → List UInt8} {r s : Nat} (h : IsDev w gd gi blocks bytes D r s) : gd ≠ gi := h.1.ne_ h.2.1 (by decide)

theorem dev_read {w : World} {gd gi blocks bytes : Nat} {D : Nat → List UInt8} {r s : Nat} (h : IsDev w gd gi blocks bytes D r s) (i : Nat) (hi : i < blocks) :
    Calls Tryz.prog 34 #[.pointer (some ⟨gd, 0, none⟩), .int .u32 i] w fun e w' => ∃ g c, e = .returned (.tuple #[.slice (some ⟨g, 0, none⟩) bytes c, .int .i64 0]) ∧
      w.heap.size ≤ g ∧ g < w'.heap.size ∧ (∃ cs, Blk w' g 5 cs) ∧ BytesAt w' g 0 (D i) ∧ IsDev w' gd gi blocks bytes D (r + 1) s ∧ Keeps (fun k => k = gd) w w' := by
  have h0 := h
  have hne := h.ne
  obtain ⟨hd, hg, h1, h2, h3, h4, hD⟩ := h
  have c2 : w.cell? ⟨gd, 2, none⟩ = some (.int .u64 (u64 r)) := hd.cell 2
  have f2 := hd.frozen 2
  have hst := u64_step r
  go_enter Tryz.func34, Tryz.ntmps34
  go_wp2_with fail
  refine (dev_at h0 i hi).mono ?_
  rintro e w' ⟨rfl, q, rfl⟩
  go_wp2_with fail
  have hB : BytesAt ((w.drewN q).setCell ⟨gd, 2, none⟩ (.int .u64 (u64 (r + 1)))) gi (i * bytes) (D i) := (h0.bytes_at hi).keep (Below.heap_setCell _ _ _ _ hne.symm)
  have hC := clone_bytes hB (blocks * bytes - i * bytes) (by rw [hD i hi]; omega)
  rw [hD i hi] at hC
  refine hC.mono ?_
  rintro e w1 ⟨g, c, rfl, hg1, hg2, _, hg3, hg4, hb1⟩
  have hgd : gd < w.heap.size := hd.lt
  have hgi : gi < w.heap.size := hg.lt
  go_wp2_with fail
  go_ret2
  have hk : Keeps (fun k => k = gd) w w1 := (((Keeps.refl (fun k => k = gd) w).drewN q).setCell (p := ⟨gd, 2, none⟩) (fun _ => rfl) (.int .u64 (u64 (r + 1)))).trans (T := fun _ => False) (Keeps.of_below hb1) (fun _ _ h => h) (fun _ _ h => h.elim)
  refine ⟨g, c, rfl, by simpa using hg1, hg2, hg3, hg4, ⟨?_, hg.keep hk (fun e => hne e.symm), h1, h2, h3, h4, hD⟩, hk⟩
  have hd2 := ((hd.drewN q).set_ 2 (.int .u64 (u64 (r + 1)))).below hb1 (by simpa using hgd)
  simpa using hd2


theorem size_u8 : (Tryz.prog.info? 5).map (·.size) = some 1 := by kernel_rfl

theorem dev_write {w : World} {gd gi blocks bytes : Nat} {D : Nat → List UInt8} {r s : Nat} (h : IsDev w gd gi blocks bytes D r s) (i : Nat) (hi : i < blocks)
    (g off c : Nat) (bs : List UInt8) (hb : BytesAt w g off bs) (hl : bs.length = bytes) :
    Calls Tryz.prog 203 #[.pointer (some ⟨gd, 0, none⟩), .int .u32 i, .slice (some ⟨g, off, none⟩) bytes c] w fun e w' => e = .returned (.int .i64 0) ∧
      IsDev w' gd gi blocks bytes (updD D i bs) r (s + 1) ∧ Keeps (fun k => k = gd ∨ k = gi) w w' := by
  have h0 := h
  have hne := h.ne
  obtain ⟨hd, hg, h1, h2, h3, h4, hD⟩ := h
  have c0 : w.cell? ⟨gd, 0, none⟩ = some (.int .i64 bytes) := hd.cell 0
  have c3 : w.cell? ⟨gd, 3, none⟩ = some (.int .u64 (u64 s)) := hd.cell 3
  have f3 := hd.frozen 3
  have hst := u64_step s
  have B : Hd (BytesAt w g off bs) := ⟨hb⟩
  clear hb
  go_enter Tryz.func203, Tryz.ntmps203
  go_wp2_with fail
  refine (dev_at h0 i hi).mono ?_
  rintro e w' ⟨rfl, q, rfl⟩
  go_wp2_with (with_reducible refine wpList_copy_to rfl _ _ _ _ rfl 5 Tryz.underlying26 size_u8 gi (i * bytes) bytes (blocks * bytes - i * bytes) ⟨g, off, none⟩ bytes c rfl rfl _ 5 (hg.drewN q) (bs.map bv) ?c1 ?c2 ?c3 ?c4 _ (dgrid_row D hi bs hl) ?_)
  case c1 => simp [hl]
  case c2 =>
    intro j v hj
    rw [Addr.add_lit]
    have hjl : j < bs.length := by simpa using (List.getElem?_eq_some_iff.1 hj).1
    have e := B.out j hjl
    rw [List.getElem?_map, List.getElem?_eq_getElem hjl] at hj
    simp only [Option.map_some, Option.some.injEq] at hj
    subst hj
    refine e.trans ?_
    simp [hjl]
  case c3 =>
    have : (i + 1) * bytes ≤ blocks * bytes := Nat.mul_le_mul_right bytes hi
    rw [Nat.add_mul] at this
    rw [dgrid, grid_size, List.length_map, hl]; omega
  case c4 =>
    intro v hv
    obtain ⟨x, _, rfl⟩ := List.mem_map.1 hv; rfl
  intro w1 hg1 hk1
  have c3' : w1.cell? ⟨gd, 3, none⟩ = some (.int .u64 (u64 s)) := (World.cell?_of_block (hk1.block gd hd.lt hne)).trans c3
  have f3' : w1.frozen? ⟨gd, 3, none⟩ = false := ((hd.drewN q).keep hk1 hne).frozen 3
  go_wp2
  go_ret
  have hk : Keeps (fun k => k = gd ∨ k = gi) w (w1.setCell ⟨gd, 3, none⟩ (.int .u64 (u64 (s + 1)))) :=
    (((Keeps.refl (fun k => k = gd ∨ k = gi) w).drewN q).trans hk1 (fun _ _ h => h) (fun _ _ h => .inr h)).setCell (p := ⟨gd, 3, none⟩) (fun _ => .inl rfl) _
  refine ⟨rfl, ⟨?_, hg1.far (p := ⟨gd, 3, none⟩) hne.symm _, h1, h2, h3, h4, fun j hj => ?_⟩, hk⟩
  · have hd2 := ((hd.drewN q).keep hk1 hne).set_ 3 (.int .u64 (u64 (s + 1)))
    simpa using hd2
  · unfold updD; split
    · exact hl
    · exact hD j hj

theorem dev_stats {w : World} {gd gi blocks bytes : Nat} {D : Nat → List UInt8} {r s : Nat} (h : IsDev w gd gi blocks bytes D r s) :
    Calls Tryz.prog 43 #[.pointer (some ⟨gd, 0, none⟩)] w fun e w' => e = .returned (.agg #[.int .u64 (u64 r), .int .u64 (u64 s)]) ∧ Below w.heap.size w w' := by
  obtain ⟨hd, hg, h1, h2, h3, h4, hD⟩ := h
  have c2 : w.cell? ⟨gd, 2, none⟩ = some (.int .u64 (u64 r)) := hd.cell 2
  have c3 : w.cell? ⟨gd, 3, none⟩ = some (.int .u64 (u64 s)) := hd.cell 3
  have hgd := hd.lt
  go_enter Tryz.func43, Tryz.ntmps43
  go_wp2
  exact bodyPost_ret (v := .agg #[.int .u64 (u64 r), .int .u64 (u64 s)]) (by simp [results, Tryz.results43, go_sem]) rfl ⟨rfl, by go_grown⟩

theorem dev_right {w : World} (blocks bytes : Nat) (h1 : 5 ≤ blocks) (h2 : blocks ≤ 65536) (h3 : 1 ≤ bytes) (h4 : bytes ≤ 65536) :
    Calls Tryz.prog 102 #[.int .i64 blocks, .int .i64 bytes] w fun e w' => e = .returned (.bool true) ∧ w = w' := by
  go_enter Tryz.func102, Tryz.ntmps102
  go_wp2
  go_ret
  exact ⟨by simp; omega, rfl⟩

theorem made_zeros (bytes blocks : Nat) : madeCells #[.int .u8 0] (blocks * bytes) = dgrid bytes blocks (fun _ => List.replicate bytes 0) := by
  unfold dgrid
  apply Array.ext_getElem?
  intro k
  by_cases hk : k < blocks * bytes
  · have hs : 0 < bytes := by
      rcases Nat.eq_zero_or_pos bytes with h0 | h0
      · subst h0; simp at hk
      · exact h0
    have hm := Nat.mod_lt k hs
    simp [grid, madeCells, hk, hm, Nat.mod_one]
  · simp [grid, madeCells, hk]

theorem dev_new {w : World} (blocks bytes : Nat) (h1 : 5 ≤ blocks) (h2 : blocks ≤ 65536) (h3 : 1 ≤ bytes) (h4 : bytes ≤ 65536) :
    Calls Tryz.prog 50 #[.int .i64 blocks, .int .i64 bytes] w fun e w' => ∃ gd gi, e = .returned (.tuple #[.pointer (some ⟨gd, 0, none⟩), .int .i64 0]) ∧
      IsDev w' gd gi blocks bytes (fun _ => List.replicate bytes 0) 0 0 ∧ Below w.heap.size w w' ∧ w.heap.size ≤ gd ∧ w.heap.size ≤ gi := by
  have m0 : 0 ≤ (blocks : Int) * (bytes : Int) := Int.mul_nonneg (by omega) (by omega)
  have m3 : (blocks : Int) * (bytes : Int) ≤ 4294967296 := by
    have : (blocks : Int) * (bytes : Int) ≤ 65536 * 65536 := Int.mul_le_mul (by omega) (by omega) (by omega) (by omega)
    omega
  have m4 : blocks * bytes ≤ 4294967296 := by
    have : ((blocks * bytes : Nat) : Int) ≤ 4294967296 := by rw [Int.natCast_mul]; exact m3
    omega
  have hmk : ∀ W : World, (Instr.makeSlice 26 (.int .i64 ((blocks : Int) * (bytes : Int))) (.int .i64 ((blocks : Int) * (bytes : Int)))).run Tryz.prog W = .ok (.slice (some ⟨W.heap.size, 0, none⟩) (blocks * bytes) (blocks * bytes)) (W.alloc (.cells (dgrid bytes blocks (fun _ => List.replicate bytes 0)) 5)) := by
    intro W
    rw [← Int.natCast_mul, ← made_zeros]
    exact run_make_row' 26 5 (.int .u8 0) 1 Tryz.underlying26 Tryz.infoU8 rfl .i64 .i64 (blocks * bytes) (by omega) (by omega) W
  clear m4
  go_enter Tryz.func50, Tryz.ntmps50
  go_wp2_with (go_at_call 102; refine (dev_right blocks bytes h1 h2 h3 h4).mono ?_; rintro e w' ⟨rfl, rfl⟩)
  go_ret2
  refine ⟨w.heap.size + 1, w.heap.size, rfl, ⟨?_, (Blk.new w _ _).alloc _, h1, h2, h3, h4, fun i _ => by simp⟩, by go_grown, by omega, Nat.le_refl _⟩
  have := Blk.new (w.alloc (.cells (dgrid bytes blocks fun x => List.replicate bytes 0) 5)) 147 #[.int .i64 bytes, .slice (some ⟨w.heap.size, 0, none⟩) (blocks * bytes) (blocks * bytes), .int .u64 (u64 0), .int .u64 (u64 0)]
  have e0 : u64 0 = 0 := rfl
  simpa [e0] using this

end Go.Proofs.Sg
/-! The map of blocks to frames: its operations, by what it says of each block. -/
namespace Go.Proofs.Sg
open Go.RowKit Go.Maps

theorem Tryz.lawU32 : Keyed Tryz.prog 30 := int_keyed Tryz.underlying30
theorem Tryz.zeroInt (w : World) : (zeroValue 3).run Tryz.prog w = .ok (.int .i64 0) w := by kernel_rfl

/-- A block's number as a key's datum; a frame's as an element's. -/
def kl (i : Nat) : Lit := .int .u32 (i : Nat)
def fl (f : Nat) : DataW Unit := .lit (.int .i64 (f : Nat))

theorem wfk (i : Nat) (hi : i < 65536) : (Lit.int .u32 (i : Nat)).wf = true := WalkArith.wf_u32 (by omega)
theorem wff (f : Nat) (hf : f < 65536) : (Lit.int .i64 (f : Nat)).wf = true := WalkArith.wf_i64 (by omega)
theorem keyk (i : Nat) (hi : i < 65536) : keyOf Tryz.prog 30 (.int .u32 (i : Nat)) = some (kl i) := keyOf_int_mk Tryz.underlying30 (wfk i hi)
theorem kl_inj {i j : Nat} (h : kl i = kl j) : i = j := by unfold kl at h; injection h with _ h; omega

/-- Block b is a map: block i is in the frame that 'at_ i' says, if it is in one. -/
def IsMap32 (w : World) (b : Nat) (at_ : Nat → Option Nat) : Prop :=
  ∃ D : DataW Unit, w.ownsMap Tryz.prog 30 (plainElem Tryz.prog 3) b 65536 D ∧ (∀ i, i < 65536 → Maps.has D (kl i) = (at_ i).isSome ∧ ∀ f, at_ i = some f → D.atKey (kl i) (fl 0) = fl f) ∧ (∀ k, Maps.has D k = true → ∃ i, i < 65536 ∧ k = kl i)

theorem IsMap32.keep {w w' : World} {b : Nat} {at_ : Nat → Option Nat} (h : IsMap32 w b at_) (e : w'.heap[b]? = w.heap[b]?) : IsMap32 w' b at_ := by
  obtain ⟨D, ⟨es, clock, h1, h2⟩, h3⟩ := h
  exact ⟨D, ⟨es, clock, e.trans h1, h2⟩, h3⟩
theorem IsMap32.lt {w : World} {b : Nat} {at_ : Nat → Option Nat} (h : IsMap32 w b at_) : b < w.heap.size := by
  obtain ⟨D, ⟨es, clock, h1, _⟩, _⟩ := h
  exact (Array.getElem?_eq_some_iff.1 h1).1
theorem IsMap32.ne_blk {w : World} {b g : Nat} {t : TypeId} {cs : Array Value} {at_ : Nat → Option Nat} (h : IsMap32 w b at_) (hg : Blk w g t cs) : b ≠ g := by
  obtain ⟨D, ⟨es, clock, h1, _⟩, _⟩ := h
  rintro rfl
  unfold Blk at hg
  rw [h1] at hg
  cases hg

theorem tidy_length {D : DataW Unit} (ht : ∃ es, D = .map es ∧ es.Pairwise (fun p q => p.1 ≠ q.1) ∧ ∀ p ∈ es, WideAt.IsKeyLit p.1) (hk : ∀ k, Maps.has D k = true → ∃ i, i < 65536 ∧ k = kl i) : Maps.size D ≤ 65536 := by
  obtain ⟨es, rfl, hp, hkl⟩ := ht
  have hall : ∀ p ∈ es, ∃ i, i < 65536 ∧ p.1 = kl i := fun p hp => hk p.1 (by
    rw [has_eq, List.any_eq_true]
    exact ⟨p, hp, WideAt.sameKey_self (hkl p hp)⟩)
  rw [size_eq]
  have : ∀ l : List (Lit × DataW Unit), l.Pairwise (fun p q => p.1 ≠ q.1) → (∀ p ∈ l, ∃ i, i < 65536 ∧ p.1 = kl i) → ∃ ns : List Nat, ns.length = l.length ∧ ns.Nodup ∧ (∀ i ∈ ns, i < 65536 ∧ ∃ p ∈ l, p.1 = kl i) := by
    intro l
    induction l with
    | nil => intro _ _; exact ⟨[], rfl, List.nodup_nil, by simp⟩
    | cons a t ih =>
      intro hpw ha
      obtain ⟨h1, h2⟩ := List.pairwise_cons.1 hpw
      obtain ⟨ns, e1, e2, e3⟩ := ih h2 (fun p hp => ha p (List.mem_cons_of_mem _ hp))
      obtain ⟨i, hi, hai⟩ := ha a (List.mem_cons_self ..)
      refine ⟨i :: ns, by simp [e1], List.nodup_cons.2 ⟨fun hm => ?_, e2⟩, ?_⟩
      · obtain ⟨_, p, hp, hpe⟩ := e3 i hm
        exact h1 p hp (by rw [hai, hpe])
      · intro j hj
        rcases List.mem_cons.1 hj with rfl | hj
        · exact ⟨hi, a, List.mem_cons_self .., hai⟩
        · obtain ⟨e4, p, hp, e5⟩ := e3 j hj
          exact ⟨e4, p, List.mem_cons_of_mem _ hp, e5⟩
  obtain ⟨ns, e1, e2, e3⟩ := this es hp hall
  rw [← e1]
  have hsub := List.Nodup.length_le_of_subset e2 (l₂ := List.range 65536) (fun x hx => by simpa using (e3 x hx).1)
  rwa [List.length_range] at hsub

theorem retight {w : World} {b n : Nat} {D : DataW Unit} (h : w.ownsMap Tryz.prog 30 (plainElem Tryz.prog 3) b n D) (hk : ∀ k, Maps.has D k = true → ∃ i, i < 65536 ∧ k = kl i) :
    w.ownsMap Tryz.prog 30 (plainElem Tryz.prog 3) b 65536 D := by
  have ht := tidy_length (h.entries Tryz.lawU32) hk
  obtain ⟨es, clock, h1, h2, _, rfl⟩ := h
  refine ⟨es, clock, h1, h2, ?_, rfl⟩
  rw [size_eq, length_read] at ht
  exact ht

section
variable {w : World} {ops : Array Oper} {rest : List Oper} {o : Oper} {a : Act} {Q : Exit → Act → World → Prop}

theorem wpList_look_some (hg : o.guard = none) (m x : Operand) (hop : o.op = Op.lookup 184 m x true) (b : Nat) (at_ : Nat → Option Nat) (hown : IsMap32 w b at_) (i : Nat) (hi : i < 65536) (f : Nat) (hf : at_ i = some f)
    (hm : a.eval m = .map (some b)) (hx : a.eval x = .int .u32 (i : Nat))
    (hK : wpList Tryz.prog ops Q rest (a.put o.dst (.tuple #[.int .i64 (f : Nat), .bool true])) w) : wpList Tryz.prog ops Q (o :: rest) a w := by
  obtain ⟨D, h1, h2, _⟩ := hown
  refine wpList_lookup_own_ok_int w hg m x _ hop 30 3 .i64 Tryz.lawU32 Tryz.underlying184 Tryz.underlying3 (Tryz.zeroInt w) b _ D hm h1 _ _ hx (keyk i hi) ?_
  intro c hat _
  have e := (h2 i hi).2 f hf
  have e2 : c = (f : Nat) := by
    have : (DataW.lit (.int .i64 c) : DataW Unit) = fl f := hat.symm.trans e
    injection this with this
    injection this
  rw [(h2 i hi).1, hf, e2]
  exact hK
theorem wpList_look_none (hg : o.guard = none) (m x : Operand) (hop : o.op = Op.lookup 184 m x true) (b : Nat) (at_ : Nat → Option Nat) (hown : IsMap32 w b at_) (i : Nat) (hi : i < 65536) (hf : at_ i = none)
    (hm : a.eval m = .map (some b)) (hx : a.eval x = .int .u32 (i : Nat))
    (hK : wpList Tryz.prog ops Q rest (a.put o.dst (.tuple #[.int .i64 0, .bool false])) w) : wpList Tryz.prog ops Q (o :: rest) a w := by
  obtain ⟨D, h1, h2, _⟩ := hown
  refine wpList_lookup_own_ok_int w hg m x _ hop 30 3 .i64 Tryz.lawU32 Tryz.underlying184 Tryz.underlying3 (Tryz.zeroInt w) b _ D hm h1 _ _ hx (keyk i hi) ?_
  intro c hat _
  have hh : Maps.has D (kl i) = false := by rw [(h2 i hi).1, hf]; rfl
  have e2 : c = 0 := by
    have h3 := atKey_of_not_has hh (.lit (.int .i64 0))
    have : (DataW.lit (.int .i64 c) : DataW Unit) = .lit (.int .i64 0) := hat.symm.trans h3
    injection this with this
    injection this
  rw [hh, e2]
  exact hK
theorem wpList_look_at (hg : o.guard = none) (m x : Operand) (hop : o.op = Op.lookup 184 m x false) (b : Nat) (at_ : Nat → Option Nat) (hown : IsMap32 w b at_) (i : Nat) (hi : i < 65536) (f : Nat) (hf : at_ i = some f)
    (hm : a.eval m = .map (some b)) (hx : a.eval x = .int .u32 (i : Nat))
    (hK : wpList Tryz.prog ops Q rest (a.put o.dst (.int .i64 (f : Nat))) w) : wpList Tryz.prog ops Q (o :: rest) a w := by
  obtain ⟨D, h1, h2, _⟩ := hown
  refine wpList_lookup_own_int w hg m x _ hop 30 3 .i64 Tryz.lawU32 Tryz.underlying184 Tryz.underlying3 (Tryz.zeroInt w) b _ D hm h1 _ _ hx (keyk i hi) ?_
  intro c hat _
  have e := (h2 i hi).2 f hf
  have e2 : c = (f : Nat) := by
    have : (DataW.lit (.int .i64 c) : DataW Unit) = fl f := hat.symm.trans e
    injection this with this
    injection this
  rw [e2]
  exact hK

set_option maxRecDepth 100000 in
theorem look_run {w : World} {b : Nat} {at_ : Nat → Option Nat} (hown : IsMap32 w b at_) {i f : Nat} (hi : i < 65536) (hf : at_ i = some f) :
    (Instr.lookup 184 (.map (some b)) (.int .u32 (i : Nat)) false).run Tryz.prog w = .ok (.int .i64 (f : Nat)) w := by
  obtain ⟨D, h1, h2, _⟩ := hown
  obtain ⟨c, hrun, hat, _⟩ := h1.lookup_int Tryz.lawU32 Tryz.underlying184 Tryz.underlying3 (Tryz.zeroInt w) (keyk i hi)
  have e := (h2 i hi).2 f hf
  have e2 : c = (f : Nat) := by
    have : (DataW.lit (.int .i64 c) : DataW Unit) = fl f := hat.symm.trans e
    injection this with this
    injection this
  rw [hrun, e2]

theorem turned_keeps {w w' : World} {b : Nat} (h : w.mapTurned w' b) : Keeps (fun k => k = b) w w' :=
  ⟨h.grown.os, h.grown.tape, h.grown.output, h.grown.size, fun k hk hn => h.grown.block k hk (fun e => hn (by injection e))⟩

def setAt (at_ : Nat → Option Nat) (i : Nat) (v : Option Nat) : Nat → Option Nat := fun j => if j = i then v else at_ j

theorem wpList_map_put (hg : o.guard = none) (m x v : Operand) (hop : o.op = Op.mapUpdate 184 m x v) (b : Nat) (at_ : Nat → Option Nat) (hown : IsMap32 w b at_) (i : Nat) (hi : i < 65536) (f : Nat) (hf : f < 65536)
    (hm : a.eval m = .map (some b)) (hx : a.eval x = .int .u32 (i : Nat)) (hv : a.eval v = .int .i64 (f : Nat))
    (hK : ∀ w', IsMap32 w' b (setAt at_ i (some f)) → Keeps (fun k => k = b) w w' → wpList Tryz.prog ops Q rest (a.put o.dst undef) w') : wpList Tryz.prog ops Q (o :: rest) a w := by
  obtain ⟨D, h1, h2, h3⟩ := hown
  have him := (h1.tidy Tryz.lawU32).isMap
  refine wpList_mapUpdate_in w hg m x v _ hop 30 3 Tryz.lawU32 Tryz.underlying184 _ b _ D hm h1 (by unfold maxLen; omega) _ _ (kl i) hx hv (keyk i hi) (fl f) [] (plainElem_int Tryz.underlying3 (wff f hf)) ?_
  intro w' hown' hturn
  have hkl : WideAt.IsKeyLit (kl i) := by unfold kl; trivial
  have hkeys : ∀ k, Maps.has (D.put (kl i) (fl f)) k = true → ∃ j, j < 65536 ∧ k = kl j := by
    intro k hk
    by_cases e : k = kl i
    · exact ⟨i, hi, e⟩
    · rw [has_put_other e] at hk; exact h3 k hk
  refine hK w' ⟨_, retight hown' hkeys, fun j hj => ?_, hkeys⟩ (turned_keeps hturn)
  unfold setAt
  by_cases e : j = i
  · subst e
    rw [if_pos rfl]
    exact ⟨has_put_same him hkl _, fun g hg => by injection hg with hg; subst hg; exact atKey_put_same him hkl _ _⟩
  · have e' : kl j ≠ kl i := fun h => e (kl_inj h)
    rw [if_neg e, has_put_other e', atKey_put_other e']
    exact h2 j hj

theorem wpList_map_del (hg : o.guard = none) (m x : Operand) (hop : o.op = Op.call { callee := Callee.builtin Builtin.delete, args := #[m, x], argTypes := #[184, 30] }) (b : Nat) (at_ : Nat → Option Nat) (hown : IsMap32 w b at_) (i : Nat) (hi : i < 65536)
    (hm : a.eval m = .map (some b)) (hx : a.eval x = .int .u32 (i : Nat))
    (hK : ∀ w', IsMap32 w' b (setAt at_ i none) → Keeps (fun k => k = b) w w' → wpList Tryz.prog ops Q rest (a.put o.dst (.tuple #[])) w') : wpList Tryz.prog ops Q (o :: rest) a w := by
  obtain ⟨D, h1, h2, h3⟩ := hown
  refine wpList_delete_own w hg m x _ _ hop 3 Tryz.lawU32 Tryz.underlying184 _ b _ D hm h1 _ (kl i) hx (keyk i hi) ?_
  intro w' hown' hturn
  have hkeys : ∀ k, Maps.has (D.del (kl i)) k = true → ∃ j, j < 65536 ∧ k = kl j := by
    intro k hk
    by_cases e : k = kl i
    · exact ⟨i, hi, e⟩
    · rw [has_del_other e] at hk; exact h3 k hk
  refine hK w' ⟨_, hown', fun j hj => ?_, hkeys⟩ (turned_keeps hturn)
  unfold setAt
  by_cases e : j = i
  · subst e
    rw [if_pos rfl]
    exact ⟨has_del_same, fun g hg => by cases hg⟩
  · have e' : kl j ≠ kl i := fun h => e (kl_inj h)
    rw [if_neg e, has_del_other e', atKey_del_other e']
    exact h2 j hj
end

end Go.Proofs.Sg
/-! A ring of links: what taking a place out, and putting one to the front, makes of its order; plain lists, no program. -/
namespace Go.Proofs.Sg

structure Lk where
  ahead : Nat
  behind : Nat
  inn : Bool

def upd {α : Type} (L : Nat → α) (i : Nat) (x : α) : Nat → α := fun j => if j = i then x else L j
theorem upd_same {α : Type} (L : Nat → α) (i : Nat) (x : α) : upd L i x i = x := by simp [upd]
theorem upd_other {α : Type} (L : Nat → α) {i j : Nat} (x : α) (h : j ≠ i) : upd L i x j = L j := by simp [upd, h]

def outA (L : Nat → Lk) (i : Nat) : Nat → Lk := upd L (L i).ahead { L (L i).ahead with behind := (L i).behind }
def outB (L : Nat → Lk) (i : Nat) : Nat → Lk := upd (outA L i) (L i).behind { outA L i (L i).behind with ahead := (L i).ahead }
def outL (L : Nat → Lk) (i : Nat) : Nat → Lk := upd (outB L i) i ⟨0, 0, false⟩
def putA (L : Nat → Lk) (i at_ : Nat) : Nat → Lk := upd L i ⟨at_, (L at_).behind, true⟩
def putB (L : Nat → Lk) (i at_ : Nat) : Nat → Lk := upd (putA L i at_) at_ { putA L i at_ at_ with behind := i }
def putL (L : Nat → Lk) (i at_ : Nat) : Nat → Lk := upd (putB L i at_) (L at_).behind { putB L i at_ (L at_).behind with ahead := i }

/-- Each one's next is the one behind it, and back. -/
def Adj (L : Nat → Lk) : List Nat → Prop
  | a :: b :: r => (L a).behind = b ∧ (L b).ahead = a ∧ Adj L (b :: r)
  | _ => True

theorem Adj.append {L : Nat → Lk} {u : Nat} : ∀ {x y : List Nat}, Adj L (x ++ u :: y) ↔ Adj L (x ++ [u]) ∧ Adj L (u :: y)
  | [], y => by simp [Adj]
  | [a], y => by simp [Adj, and_assoc]
  | a :: b :: r, y => by
    have ih := Adj.append (L := L) (u := u) (x := b :: r) (y := y)
    simp only [List.cons_append, Adj] at ih ⊢
    rw [ih]
    simp [and_assoc]

/-- Behind of all but the last and ahead of all but the first are all that counts. -/
theorem Adj.congr {L L' : Nat → Lk} : ∀ {l : List Nat}, (∀ u ∈ l.dropLast, (L' u).behind = (L u).behind) → (∀ u ∈ l.tail, (L' u).ahead = (L u).ahead) → Adj L l → Adj L' l
  | [], _, _, _ => trivial
  | [_], _, _, _ => trivial
  | a :: b :: r, hb, ha, h => by
    obtain ⟨h1, h2, h3⟩ := h
    refine ⟨?_, ?_, ?_⟩
    · rw [hb a (by simp [List.dropLast])]; exact h1
    · rw [ha b (by simp)]; exact h2
    · refine Adj.congr (fun u hu => hb u ?_) (fun u hu => ha u ?_) h3
      · simp only [List.dropLast]; exact List.mem_cons_of_mem _ hu
      · exact List.mem_cons_of_mem _ hu

structure Ring (L : Nat → Lk) (n : Nat) (o : List Nat) : Prop where
  nodup : o.Nodup
  lt : ∀ i ∈ o, i < n
  inn : ∀ i, i < n → (L i).inn = decide (i ∈ o)
  adj : Adj L (n :: (o ++ [n]))

theorem Ring.last {L : Nat → Lk} {n : Nat} {o : List Nat} (h : Ring L n o) : (L n).ahead = (n :: o).getLast (by simp) := by
  have := h.adj
  rcases List.eq_nil_or_concat o with rfl | ⟨p, z, rfl⟩
  · simp [Adj] at this ⊢; exact this.2
  · have e : n :: ((p ++ [z]) ++ [n]) = (n :: p) ++ z :: [n] := by simp
    rw [List.concat_eq_append] at *
    rw [e, Adj.append] at this
    obtain ⟨_, h2⟩ := this
    simp only [Adj, and_true] at h2
    rw [h2.2]
    simp [List.getLast_cons]

/-- The neighbours of one that is in. -/
theorem Ring.near {L : Nat → Lk} {n i : Nat} {p s : List Nat} (h : Ring L n (p ++ i :: s)) :
    ∃ q a b t, n :: p = q ++ [a] ∧ s ++ [n] = b :: t ∧ (L i).ahead = a ∧ (L i).behind = b ∧ Adj L (q ++ [a]) ∧ Adj L (b :: t) ∧ (L a).behind = i ∧ (L b).ahead = i := by
  have hadj := h.adj
  have e : n :: ((p ++ i :: s) ++ [n]) = (n :: p) ++ i :: (s ++ [n]) := by simp
  rw [e, Adj.append] at hadj
  obtain ⟨h1, h2⟩ := hadj
  rcases List.eq_nil_or_concat (n :: p) with h0 | ⟨q, a, hq⟩
  · cases h0
  · rw [List.concat_eq_append] at hq
    rcases hs : s ++ [n] with _ | ⟨b, t⟩
    · simp at hs
    · rw [hq] at h1
      have e2 : q ++ [a] ++ [i] = q ++ a :: [i] := by simp
      rw [e2, Adj.append] at h1
      rw [hs] at h2
      simp only [Adj, and_true] at h1 h2
      exact ⟨q, a, b, t, hq, rfl, h1.2.2, h2.1, h1.1, h2.2.2, h1.2.1, h2.2.1⟩

theorem Ring.out {L : Nat → Lk} {n i : Nat} {p s : List Nat} (h : Ring L n (p ++ i :: s)) : Ring (outL L i) n (p ++ s) := by
  obtain ⟨q, a, b, t, hq, ht, hia, hib, hA, hB, _, _⟩ := h.near
  have hnd := h.nodup
  have hlt := h.lt
  have hin : i < n := hlt i (by simp)
  have hip : i ∉ p := fun hm => by
    have := (List.nodup_append.1 hnd).2.2 i hm i (by simp); exact this rfl
  have his : i ∉ s := fun hm => by
    have := (List.nodup_cons.1 (List.nodup_append.1 hnd).2.1).1; exact this hm
  have hai : a ≠ i := by
    intro e; subst e
    have : a ∈ n :: p := by rw [hq]; simp
    rcases List.mem_cons.1 this with h1 | h1
    · omega
    · exact hip h1
  have hbi : b ≠ i := by
    intro e; subst e
    have : b ∈ s ++ [n] := by rw [ht]; simp
    rcases List.mem_append.1 this with h1 | h1
    · exact his h1
    · simp at h1; omega
  have hb' : ∀ u, u ≠ i → (outL L i u).behind = if u = a then b else (L u).behind := by
    intro u hu
    simp only [outL, outB, outA, hia, hib]
    rw [upd_other _ _ hu]
    by_cases h1 : u = b
    · subst h1
      rw [upd_same]
      by_cases h2 : u = a
      · subst h2; simp [upd_same]
      · simp [upd_other _ _ h2, h2]
    · rw [upd_other _ _ h1]
      by_cases h2 : u = a
      · subst h2; simp [upd_same]
      · simp [upd_other _ _ h2, h2]
  have ha' : ∀ u, u ≠ i → (outL L i u).ahead = if u = b then a else (L u).ahead := by
    intro u hu
    simp only [outL, outB, outA, hia, hib]
    rw [upd_other _ _ hu]
    by_cases h1 : u = b
    · subst h1; simp [upd_same]
    · rw [upd_other _ _ h1]
      by_cases h2 : u = a
      · subst h2; simp [upd_same, h1]
      · simp [upd_other _ _ h2, h1]
  have hnp : (n :: p).Nodup := by
    refine List.nodup_cons.2 ⟨fun hm => ?_, (List.nodup_append.1 hnd).1⟩
    have := hlt n (by simp [hm]); omega
  have hsn : (s ++ [n]).Nodup := by
    refine List.nodup_append.2 ⟨(List.nodup_cons.1 (List.nodup_append.1 hnd).2.1).2, by simp, ?_⟩
    intro x hx y hy; simp at hy; subst hy
    have := hlt x (by simp [hx]); omega
  refine ⟨?_, fun j hj => hlt j ?_, fun j hj => ?_, ?_⟩
  · exact (List.nodup_append.1 hnd).1 |> fun h1 => List.nodup_append.2 ⟨h1, (List.nodup_cons.1 (List.nodup_append.1 hnd).2.1).2, fun x hx y hy => (List.nodup_append.1 hnd).2.2 x hx y (by simp [hy])⟩
  · rcases List.mem_append.1 hj with h1 | h1 <;> simp [h1]
  · by_cases hji : j = i
    · subst hji
      simp [outL, upd_same, hip, his]
    · have e1 : (outL L i j).inn = (L j).inn := by
        simp only [outL, outB, outA, hia, hib]
        rw [upd_other _ _ hji]
        by_cases h1 : j = b
        · subst h1
          rw [upd_same]
          by_cases h2 : j = a
          · subst h2; simp [upd_same]
          · simp [upd_other _ _ h2]
        · rw [upd_other _ _ h1]
          by_cases h2 : j = a
          · subst h2; simp [upd_same]
          · simp [upd_other _ _ h2]
      rw [e1, h.inn j hj]
      simp [hji]
  · have e : n :: (p ++ s ++ [n]) = q ++ a :: (b :: t) := by
      have : n :: (p ++ s ++ [n]) = (n :: p) ++ (s ++ [n]) := by simp
      rw [this, hq, ht]; simp
    rw [e, Adj.append]
    refine ⟨?_, ?_⟩
    · refine Adj.congr (fun u hu => ?_) (fun u hu => ?_) hA
      · have hu' : u ∈ q := by simpa using hu
        have hun : u ∈ n :: p := by rw [hq]; simp [hu']
        have hui : u ≠ i := by
          rintro rfl
          rcases List.mem_cons.1 hun with h1 | h1
          · omega
          · exact hip h1
        have hua : u ≠ a := by
          rintro rfl
          rw [hq] at hnp
          exact (List.nodup_append.1 hnp).2.2 u hu' u (by simp) rfl
        rw [hb' u hui, if_neg hua]
      · have hun : u ∈ p := by
          have e3 : (q ++ [a]).tail = p := by rw [← hq]; rfl
          rw [e3] at hu; exact hu
        have hui : u ≠ i := by rintro rfl; exact hip hun
        have hub : u ≠ b := by
          rintro rfl
          have : u ∈ s ++ [n] := by rw [ht]; simp
          rcases List.mem_append.1 this with h1 | h1
          · exact (List.nodup_append.1 hnd).2.2 u hun u (by simp [h1]) rfl
          · simp at h1; have := hlt u (by simp [hun]); omega
        rw [ha' u hui, if_neg hub]
    · refine ⟨?_, ?_, ?_⟩
      · rw [hb' a hai, if_pos rfl]
      · rw [ha' b hbi, if_pos rfl]
      · refine Adj.congr (fun u hu => ?_) (fun u hu => ?_) hB
        · have hus : u ∈ s := by
            have e3 : (b :: t).dropLast = s := by rw [← ht]; simp
            rw [e3] at hu; exact hu
          have hui : u ≠ i := by rintro rfl; exact his hus
          have hua : u ≠ a := by
            rintro rfl
            have : u ∈ n :: p := by rw [hq]; simp
            rcases List.mem_cons.1 this with h1 | h1
            · have := hlt u (by simp [hus]); omega
            · exact (List.nodup_append.1 hnd).2.2 u h1 u (by simp [hus]) rfl
          rw [hb' u hui, if_neg hua]
        · have hut : u ∈ t := by simpa using hu
          have hun : u ∈ s ++ [n] := by rw [ht]; simp [hut]
          have hui : u ≠ i := by
            rintro rfl
            rcases List.mem_append.1 hun with h1 | h1
            · exact his h1
            · simp at h1; omega
          have hub : u ≠ b := by
            rintro rfl
            rw [ht] at hsn
            exact (List.nodup_cons.1 hsn).1 hut
          rw [ha' u hui, if_neg hub]

theorem Ring.put {L : Nat → Lk} {n i : Nat} {o : List Nat} (h : Ring L n o) (hi : i < n) (ho : i ∉ o) : Ring (putL L i n) n (i :: o) := by
  have hadj := h.adj
  rcases hs : o ++ [n] with _ | ⟨b, t⟩
  · simp at hs
  rw [hs] at hadj
  obtain ⟨hb, hab, hB⟩ := hadj
  have hin : i ≠ n := by omega
  have hbn : b ∈ o ++ [n] := by rw [hs]; simp
  have hbi : b ≠ i := by
    rintro rfl
    rcases List.mem_append.1 hbn with h1 | h1
    · exact ho h1
    · simp at h1; omega
  have hsn : (o ++ [n]).Nodup := by
    refine List.nodup_append.2 ⟨h.nodup, by simp, ?_⟩
    intro x hx y hy; simp at hy; subst hy
    have := h.lt x hx; omega
  have hb' : ∀ u, (putL L i n u).behind = if u = n then i else if u = i then b else (L u).behind := by
    intro u
    simp only [putL, putB, putA, hb]
    by_cases h1 : u = b
    · subst h1
      rw [upd_same]
      by_cases h2 : u = n
      · subst h2; simp [upd_same]
      · simp [upd_other _ _ h2, h2, upd_other _ _ hbi, hbi]
    · rw [upd_other _ _ h1]
      by_cases h2 : u = n
      · subst h2; simp [upd_same]
      · rw [upd_other _ _ h2]
        by_cases h3 : u = i
        · subst h3; simp [upd_same, h2]
        · simp [upd_other _ _ h3, h2, h3]
  have ha' : ∀ u, (putL L i n u).ahead = if u = b then i else if u = i then n else (L u).ahead := by
    intro u
    simp only [putL, putB, putA, hb]
    by_cases h1 : u = b
    · subst h1; simp [upd_same]
    · rw [upd_other _ _ h1, if_neg h1]
      by_cases h2 : u = n
      · subst h2; simp [upd_same, upd_other _ _ hin.symm, hin.symm]
      · rw [upd_other _ _ h2]
        by_cases h3 : u = i
        · subst h3; simp [upd_same]
        · simp [upd_other _ _ h3, h3]
  refine ⟨List.nodup_cons.2 ⟨ho, h.nodup⟩, ?_, fun j hj => ?_, ?_⟩
  · intro j hj
    rcases List.mem_cons.1 hj with rfl | h1
    · exact hi
    · exact h.lt j h1
  · have e1 : (putL L i n j).inn = if j = i then true else (L j).inn := by
      have hjn : j ≠ n := by omega
      simp only [putL, putB, putA, hb]
      by_cases h1 : j = b
      · subst h1
        rw [upd_same]
        simp [upd_other _ _ hjn, upd_other _ _ hbi, hbi]
      · rw [upd_other _ _ h1, upd_other _ _ hjn]
        by_cases h3 : j = i
        · subst h3; simp [upd_same]
        · simp [upd_other _ _ h3, h3]
    rw [e1]
    by_cases h3 : j = i
    · subst h3; simp
    · simp [h3, h.inn j hj]
  · show Adj (putL L i n) (n :: i :: (o ++ [n]))
    rw [hs]
    refine ⟨?_, ?_, ?_, ?_, ?_⟩
    · rw [hb' n, if_pos rfl]
    · rw [ha' i, if_neg hbi.symm, if_pos rfl]
    · rw [hb' i, if_neg hin, if_pos rfl]
    · rw [ha' b, if_pos rfl]
    · refine Adj.congr (fun u hu => ?_) (fun u hu => ?_) hB
      · have huo : u ∈ o := by
          have e3 : (b :: t).dropLast = o := by rw [← hs]; simp
          rw [e3] at hu; exact hu
        have h1 : u ≠ n := by have := h.lt u huo; omega
        have h2 : u ≠ i := by rintro rfl; exact ho huo
        rw [hb' u, if_neg h1, if_neg h2]
      · have hut : u ∈ t := by simpa using hu
        have h1 : u ≠ b := by
          rintro rfl
          rw [hs] at hsn
          exact (List.nodup_cons.1 hsn).1 hut
        have h2 : u ≠ i := by
          rintro rfl
          have : u ∈ o ++ [n] := by rw [hs]; simp [hut]
          rcases List.mem_append.1 this with h3 | h3
          · exact ho h3
          · simp at h3; omega
        rw [ha' u, if_neg h1, if_neg h2]

end Go.Proofs.Sg
/-! What the ring of frames' numbers does: each of its methods, by its order. -/
namespace Go.Proofs.Sg
open Go.RowKit

def lkF (L : Nat → Lk) (j r : Nat) : Value := match r with
  | 0 => .int .i64 (L j).ahead
  | 1 => .int .i64 (L j).behind
  | _ => .bool (L j).inn

/-- A chain's two blocks, and its order. -/
def IsChain (w : World) (gc gl n : Nat) (o : List Nat) : Prop :=
  ∃ L : Nat → Lk, Blk w gc 243 #[.slice (some ⟨gl, 0, none⟩) (n + 1) (n + 1), .int .i64 o.length] ∧ Blk w gl 240 (grid 3 (n + 1) (lkF L)) ∧ Ring L n o ∧ 1 ≤ n ∧ n ≤ 4096 ∧ (∀ j, (L j).ahead ≤ n ∧ (L j).behind ≤ n)

theorem lk_ahead {L : Nat → Lk} {m j : Nat} (hj : j < m) (a : Nat) : (grid 3 m (lkF L)).setIfInBounds (j * 3) (.int .i64 a) = grid 3 m (lkF (upd L j { L j with ahead := a })) := by
  rw [show j * 3 = j * 3 + 0 from rfl, grid_set _ hj (by omega)]
  apply grid_congr
  intro i r _ hr
  by_cases h : i = j
  · subst h
    rcases r with _ | _ | r <;> simp [lkF, upd]
  · simp [h, lkF, upd]
theorem lk_behind {L : Nat → Lk} {m j : Nat} (hj : j < m) (a : Nat) : (grid 3 m (lkF L)).setIfInBounds (j * 3 + 1) (.int .i64 a) = grid 3 m (lkF (upd L j { L j with behind := a })) := by
  rw [grid_set _ hj (by omega)]
  apply grid_congr
  intro i r _ hr
  by_cases h : i = j
  · subst h
    rcases r with _ | _ | r <;> simp [lkF, upd]
  · simp [h, lkF, upd]
theorem lk_all {L : Nat → Lk} {m j : Nat} (hj : j < m) (x : Lk) :
    (((grid 3 m (lkF L)).setIfInBounds (j * 3) (.int .i64 x.ahead)).setIfInBounds (j * 3 + 1) (.int .i64 x.behind)).setIfInBounds (j * 3 + 2) (.bool x.inn) = grid 3 m (lkF (upd L j x)) := by
  rw [lk_ahead hj, lk_behind hj, grid_set _ hj (by omega)]
  apply grid_congr
  intro i r _ hr
  by_cases h : i = j
  · subst h
    rcases r with _ | _ | _ | r
    · simp [lkF, upd]
    · simp [lkF, upd]
    · simp [lkF, upd]
    · omega
  · simp [h, lkF, upd]

/-- Some cell is there still, whatever was stored in cells that are there. -/
theorem still_cell {w : World} {p q : Addr} {u v : Value} (h : w.cell? q = some v) : ∃ v', (w.setCell p u).cell? q = some v' := by
  by_cases e : p = q
  · subst e
    exact ⟨u, World.cell?_setCell_same' w p u (by rw [h]; rfl)⟩
  · exact ⟨v, (World.cell?_setCell_other w p q u e).trans h⟩


theorem out_bound {L : Nat → Lk} {n i : Nat} (h : ∀ j, (L j).ahead ≤ n ∧ (L j).behind ≤ n) (j : Nat) : (outL L i j).ahead ≤ n ∧ (outL L i j).behind ≤ n := by
  have h1 := h i
  have hA : ∀ j, (outA L i j).ahead ≤ n ∧ (outA L i j).behind ≤ n := fun j => by
    unfold outA upd; split
    · exact ⟨(h _).1, h1.2⟩
    · exact h j
  have hB : ∀ j, (outB L i j).ahead ≤ n ∧ (outB L i j).behind ≤ n := fun j => by
    unfold outB upd; split
    · exact ⟨h1.1, (hA _).2⟩
    · exact hA j
  unfold outL upd; split
  · simp
  · exact hB j
theorem put_bound {L : Nat → Lk} {n i : Nat} (hi : i ≤ n) (h : ∀ j, (L j).ahead ≤ n ∧ (L j).behind ≤ n) (j : Nat) : (putL L i n j).ahead ≤ n ∧ (putL L i n j).behind ≤ n := by
  have h1 := h n
  have hA : ∀ j, (putA L i n j).ahead ≤ n ∧ (putA L i n j).behind ≤ n := fun j => by
    unfold putA upd; split
    · exact ⟨Nat.le_refl _, h1.2⟩
    · exact h j
  have hB : ∀ j, (putB L i n j).ahead ≤ n ∧ (putB L i n j).behind ≤ n := fun j => by
    unfold putB upd; split
    · exact ⟨(hA _).1, hi⟩
    · exact hA j
  unfold putL upd; split
  · exact ⟨hi, (hB _).2⟩
  · exact hB j

theorem chain_out_no {w : World} {gc gl n : Nat} {o : List Nat} (h : IsChain w gc gl n o) (i : Nat) (hi : i < n) (ho : i ∉ o) :
    Calls Tryz.prog 179 #[.pointer (some ⟨gc, 0, none⟩), .int .i64 i] w fun e w' => e = .returned (.tuple #[]) ∧ IsChain w' gc gl n o ∧ Below w.heap.size w w' := by
  obtain ⟨L, hc, hl, hr, h1, hn, hb⟩ := h
  have c0 : w.cell? ⟨gc, 0, none⟩ = some (.slice (some ⟨gl, 0, none⟩) (n + 1) (n + 1)) := hc.cell 0
  have l0 : w.cell? ⟨gl, i * 3, none⟩ = some (.int .i64 (L i).ahead) := (hl.cell _).trans (grid_at (r := 0) (lkF L) (by omega) (by omega))
  have l1 : w.cell? ⟨gl, i * 3 + 1, none⟩ = some (.int .i64 (L i).behind) := (hl.cell _).trans (grid_at (r := 1) (lkF L) (by omega) (by omega))
  have l2 : w.cell? ⟨gl, i * 3 + 2, none⟩ = some (.bool false) := ((hl.cell _).trans (grid_at (r := 2) (lkF L) (by omega) (by omega))).trans (by simp [lkF, hr.inn i hi, ho])
  go_enter Tryz.func179, Tryz.ntmps179
  go_wp2
  refine bodyPost_ret (results_none rfl _ _ _) rfl ⟨rfl, ⟨L, hc.alloc _, hl.alloc _, hr, h1, hn, hb⟩, ?_⟩
  exact (Below.refl _ _).alloc (Nat.le_refl _) _

set_option maxHeartbeats 800000 in
theorem chain_out_yes {w : World} {gc gl n : Nat} {p s : List Nat} (i : Nat) (h : IsChain w gc gl n (p ++ i :: s)) :
    Calls Tryz.prog 179 #[.pointer (some ⟨gc, 0, none⟩), .int .i64 i] w fun e w' => e = .returned (.tuple #[]) ∧ IsChain w' gc gl n (p ++ s) ∧ Keeps (fun k => k = gc ∨ k = gl) w w' := by
  obtain ⟨L, hc, hl, hr, h1, hn, hb⟩ := h
  have hi : i < n := hr.lt i (by simp)
  have hx := (hb i).1
  have hy := (hb i).2
  have hne : gl ≠ gc := hl.ne_ hc (by decide)
  have hgc := hc.lt
  have hgl := hl.lt
  have hlen : (p ++ i :: s).length ≤ 4096 := by
    have hsub : (p ++ i :: s).length ≤ (List.range n).length := by
      refine (List.Nodup.length_le_of_subset hr.nodup ?_)
      intro x hx; simpa using hr.lt x hx
    simp at hsub ⊢; omega
  have c0 : w.cell? ⟨gc, 0, none⟩ = some (.slice (some ⟨gl, 0, none⟩) (n + 1) (n + 1)) := hc.cell 0
  obtain ⟨cnt, hcnt, hcnt1, hcnt2⟩ : ∃ cnt : Nat, (p ++ i :: s).length = cnt + 1 ∧ cnt = (p ++ s).length ∧ cnt ≤ 4095 := ⟨(p ++ s).length, by simp; omega, rfl, by simp at hlen ⊢; omega⟩
  have c1 : w.cell? ⟨gc, 1, none⟩ = some (.int .i64 ((cnt : Int) + 1)) := (hc.cell 1).trans (by rw [hcnt]; rfl)
  have f1 := hc.frozen 1
  have fl : ∀ k, w.frozen? ⟨gl, k, none⟩ = false := fun k => hl.frozen k
  have l0 : w.cell? ⟨gl, i * 3, none⟩ = some (.int .i64 (L i).ahead) := (hl.cell _).trans (grid_at (r := 0) (lkF L) (by omega) (by omega))
  have l1 : w.cell? ⟨gl, i * 3 + 1, none⟩ = some (.int .i64 (L i).behind) := (hl.cell _).trans (grid_at (r := 1) (lkF L) (by omega) (by omega))
  have l2 : w.cell? ⟨gl, i * 3 + 2, none⟩ = some (.bool true) := ((hl.cell _).trans (grid_at (r := 2) (lkF L) (by omega) (by omega))).trans (by simp [lkF, hr.inn i hi])
  have lx : w.cell? ⟨gl, (L i).ahead * 3 + 1, none⟩ = some (.int .i64 (L (L i).ahead).behind) := (hl.cell _).trans (grid_at (r := 1) (lkF L) (by omega) (by omega))
  have ly : w.cell? ⟨gl, (L i).behind * 3, none⟩ = some (.int .i64 (L (L i).behind).ahead) := (hl.cell _).trans (grid_at (r := 0) (lkF L) (by omega) (by omega))
  have hfin : ∀ w' : World, Blk w' gl 240 (((((grid 3 (n + 1) (lkF L)).setIfInBounds ((L i).ahead * 3 + 1) (.int .i64 (L i).behind)).setIfInBounds ((L i).behind * 3) (.int .i64 (L i).ahead)).setIfInBounds (i * 3) (.int .i64 0)).setIfInBounds (i * 3 + 1) (.int .i64 0) |>.setIfInBounds (i * 3 + 2) (.bool false)) → Blk w' gl 240 (grid 3 (n + 1) (lkF (outL L i))) := by
    intro w' hw
    have e := lk_all (L := outB L i) (m := n + 1) (j := i) (by omega) ⟨0, 0, false⟩
    rw [lk_behind (by omega), lk_ahead (by omega)] at hw
    exact (congrArg (Blk w' gl 240) e).mp hw
  have H5 := Hd.mk hcnt; clear hcnt
  have H6 := Hd.mk hcnt1; clear hcnt1
  obtain ⟨x, hxe⟩ : ∃ x, x = (L i).ahead := ⟨_, rfl⟩
  obtain ⟨y, hye⟩ : ∃ y, y = (L i).behind := ⟨_, rfl⟩
  rw [← hxe] at hx l0 lx
  rw [← hye] at hy l1 ly
  have HX := Hd.mk hxe; clear hxe
  have HY := Hd.mk hye; clear hye
  obtain ⟨v1, e1⟩ := still_cell (p := ⟨gl, x * 3 + 1, none⟩) (u := .int .i64 y) l0
  obtain ⟨v2, e2⟩ := still_cell (p := ⟨gl, y * 3, none⟩) (u := .int .i64 x) e1
  obtain ⟨v3, e3⟩ := still_cell (p := ⟨gl, x * 3 + 1, none⟩) (u := .int .i64 y) l1
  obtain ⟨v4, e4⟩ := still_cell (p := ⟨gl, y * 3, none⟩) (u := .int .i64 x) e3
  obtain ⟨v5, e5⟩ := still_cell (p := ⟨gl, x * 3 + 1, none⟩) (u := .int .i64 y) l2
  obtain ⟨v6, e6⟩ := still_cell (p := ⟨gl, y * 3, none⟩) (u := .int .i64 x) e5
  clear e1 e3 e5
  go_enter Tryz.func179, Tryz.ntmps179
  go_wp2
  go_region
  go_wp2
  go_region
  go_wp2
  refine bodyPost_end (results_none rfl _ _ _) rfl ⟨rfl, ?_, ?_⟩
  · have B := (((((hl.set_ (x * 3 + 1) (.int .i64 y)).set_ (y * 3) (.int .i64 x)).set_ (i * 3) (.int .i64 0)).set_ (i * 3 + 1) (.int .i64 0)).set_ (i * 3 + 2) (.bool false)).far (p := ⟨gc, 1, none⟩) hne (.int .i64 cnt)
    have C := (((((hc.far (p := ⟨gl, x * 3 + 1, none⟩) hne.symm (.int .i64 y)).far (p := ⟨gl, y * 3, none⟩) hne.symm (.int .i64 x)).far (p := ⟨gl, i * 3, none⟩) hne.symm (.int .i64 0)).far (p := ⟨gl, i * 3 + 1, none⟩) hne.symm (.int .i64 0)).far (p := ⟨gl, i * 3 + 2, none⟩) hne.symm (.bool false)).set_ 1 (.int .i64 cnt)
    have e : (#[.slice (some ⟨gl, 0, none⟩) (n + 1) (n + 1), .int .i64 (p ++ i :: s).length] : Array Value).setIfInBounds 1 (.int .i64 cnt) = #[.slice (some ⟨gl, 0, none⟩) (n + 1) (n + 1), .int .i64 (p ++ s).length] := by rw [H6.out]; rfl
    exact ⟨outL L i, (congrArg (Blk _ gc 243) e).mp (C.alloc _).drew.drew, hfin _ (by rw [← HX.out, ← HY.out]; exact (B.alloc _).drew.drew), hr.out, h1, hn, out_bound hb⟩
  · exact ((((((((Keeps.refl _ w).setCell (fun _ => .inr rfl) _).setCell (fun _ => .inr rfl) _).setCell (fun _ => .inr rfl) _).setCell (fun _ => .inr rfl) _).setCell (fun _ => .inr rfl) _).setCell (fun _ => .inl rfl) _).alloc _).drew.drew


theorem chain_root {w : World} {gc gl n : Nat} {o : List Nat} (h : IsChain w gc gl n o) :
    Calls Tryz.prog 182 #[.pointer (some ⟨gc, 0, none⟩)] w fun e w' => e = .returned (.int .i64 n) ∧ w = w' := by
  obtain ⟨L, hc, hl, hr, h1, hn, hb⟩ := h
  have c0 : w.cell? ⟨gc, 0, none⟩ = some (.slice (some ⟨gl, 0, none⟩) (n + 1) (n + 1)) := hc.cell 0
  go_enter Tryz.func182, Tryz.ntmps182
  go_wp2
  go_ret
  exact ⟨rfl, rfl⟩

theorem chain_root' {w : World} {gc gl n : Nat} {o : List Nat} (h : IsChain w gc gl n o) :
    Calls Tryz.prog 182 #[.pointer (some ⟨gc, 0, none⟩)] w fun e w' => e = .returned (.int .i64 n) ∧ w' = w :=
  (chain_root h).mono fun _ _ ⟨h1, h2⟩ => ⟨h1, h2.symm⟩

theorem chain_there {w : World} {gc gl n : Nat} {o : List Nat} (h : IsChain w gc gl n o) (i : Nat) (hi : i < n) :
    Calls Tryz.prog 178 #[.pointer (some ⟨gc, 0, none⟩), .int .i64 i] w fun e w' => e = .returned (.int .i64 0) ∧ w = w' := by
  have h0 := h
  obtain ⟨L, hc, hl, hr, h1, hn, hb⟩ := h
  have c0 : w.cell? ⟨gc, 0, none⟩ = some (.slice (some ⟨gl, 0, none⟩) (n + 1) (n + 1)) := hc.cell 0
  go_enter Tryz.func178, Tryz.ntmps178
  go_wp2_with (go_at_call 182; refine (chain_root h0).mono ?_; rintro e w' ⟨rfl, rfl⟩)
  go_ret
  exact ⟨rfl, rfl⟩

theorem chain_len {w : World} {gc gl n : Nat} {o : List Nat} (h : IsChain w gc gl n o) :
    Calls Tryz.prog 227 #[.pointer (some ⟨gc, 0, none⟩)] w fun e w' => e = .returned (.int .i64 o.length) ∧ w = w' := by
  obtain ⟨L, hc, hl, hr, h1, hn, hb⟩ := h
  have c1 : w.cell? ⟨gc, 1, none⟩ = some (.int .i64 o.length) := hc.cell 1
  go_enter Tryz.func227, Tryz.ntmps227
  go_wp2
  go_ret
  exact ⟨rfl, rfl⟩

/-- The one at the back. -/
theorem chain_last_some {w : World} {gc gl n z : Nat} {o : List Nat} (h : IsChain w gc gl n (o ++ [z])) :
    Calls Tryz.prog 180 #[.pointer (some ⟨gc, 0, none⟩)] w fun e w' => e = .returned (.tuple #[.int .i64 z, .bool true]) ∧ ∃ q, w' = w.drewN q := by
  have h0 := h
  obtain ⟨L, hc, hl, hr, h1, hn, hb⟩ := h
  have c0 : w.cell? ⟨gc, 0, none⟩ = some (.slice (some ⟨gl, 0, none⟩) (n + 1) (n + 1)) := hc.cell 0
  have l0 : w.cell? ⟨gl, n * 3, none⟩ = some (.int .i64 z) := ((hl.cell _).trans (grid_at (r := 0) (lkF L) (by omega) (by omega))).trans (by simp [lkF, hr.last, List.getLast_cons])
  have hz : (((o ++ [z]).length : Int) == 0) = false := by simp; omega
  go_enter Tryz.func180, Tryz.ntmps180
  go_wp2_with (first | (go_at_call 182; refine (chain_root h0).mono ?_; rintro e w' ⟨rfl, rfl⟩) | (go_at_call 227; refine (chain_len h0).mono ?_; rintro e w' ⟨rfl, rfl⟩))
  go_quiet ((go_at_call 182; exact Calls.quiet_of_same (chain_root' h0)))
  go_wp2
  go_ret2
  exact ⟨rfl, _, rfl⟩

theorem chain_last_none {w : World} {gc gl n : Nat} (h : IsChain w gc gl n []) :
    Calls Tryz.prog 180 #[.pointer (some ⟨gc, 0, none⟩)] w fun e w' => e = .returned (.tuple #[.int .i64 0, .bool false]) ∧ w = w' := by
  go_enter Tryz.func180, Tryz.ntmps180
  go_wp2_with (go_at_call 227; refine (chain_len h).mono ?_; rintro e w' ⟨rfl, rfl⟩)
  go_ret2
  exact ⟨rfl, rfl⟩

set_option maxHeartbeats 800000 in
theorem chain_put {w : World} {gc gl n : Nat} {o : List Nat} (i : Nat) (hi : i < n) (ho : i ∉ o) (h : IsChain w gc gl n o) :
    Calls Tryz.prog 181 #[.pointer (some ⟨gc, 0, none⟩), .int .i64 i, .int .i64 n] w fun e w' => e = .returned (.tuple #[]) ∧ IsChain w' gc gl n (i :: o) ∧ Keeps (fun k => k = gc ∨ k = gl) w w' := by
  obtain ⟨L, hc, hl, hr, h1, hn, hb⟩ := h
  have hy := (hb n).2
  have hne : gl ≠ gc := hl.ne_ hc (by decide)
  have hgc := hc.lt
  have hgl := hl.lt
  have hlen : o.length ≤ 4096 := by
    have hsub : o.length ≤ (List.range n).length := by
      refine (List.Nodup.length_le_of_subset hr.nodup ?_)
      intro x hx; simpa using hr.lt x hx
    simp at hsub; omega
  have c0 : w.cell? ⟨gc, 0, none⟩ = some (.slice (some ⟨gl, 0, none⟩) (n + 1) (n + 1)) := hc.cell 0
  have c1 : w.cell? ⟨gc, 1, none⟩ = some (.int .i64 o.length) := hc.cell 1
  have f1 := hc.frozen 1
  have fl : ∀ k, w.frozen? ⟨gl, k, none⟩ = false := fun k => hl.frozen k
  have l1 : w.cell? ⟨gl, n * 3 + 1, none⟩ = some (.int .i64 (L n).behind) := (hl.cell _).trans (grid_at (r := 1) (lkF L) (by omega) (by omega))
  have li0 : w.cell? ⟨gl, i * 3, none⟩ = some (.int .i64 (L i).ahead) := (hl.cell _).trans (grid_at (r := 0) (lkF L) (by omega) (by omega))
  have li1 : w.cell? ⟨gl, i * 3 + 1, none⟩ = some (.int .i64 (L i).behind) := (hl.cell _).trans (grid_at (r := 1) (lkF L) (by omega) (by omega))
  have li2 : w.cell? ⟨gl, i * 3 + 2, none⟩ = some (.bool (L i).inn) := (hl.cell _).trans (grid_at (r := 2) (lkF L) (by omega) (by omega))
  have ly : w.cell? ⟨gl, (L n).behind * 3, none⟩ = some (.int .i64 (L (L n).behind).ahead) := (hl.cell _).trans (grid_at (r := 0) (lkF L) (by omega) (by omega))
  obtain ⟨v1, e1⟩ := still_cell (p := ⟨gl, i * 3, none⟩) (u := .int .i64 n) ly
  go_enter Tryz.func181, Tryz.ntmps181
  go_wp2
  refine bodyPost_end (results_none rfl _ _ _) rfl ⟨rfl, ?_, ?_⟩
  · have B := (((((hl.set_ (i * 3) (.int .i64 n)).set_ (i * 3 + 1) (.int .i64 (L n).behind)).set_ (i * 3 + 2) (.bool true)).set_ (n * 3 + 1) (.int .i64 i)).set_ ((L n).behind * 3) (.int .i64 i)).far (p := ⟨gc, 1, none⟩) hne (.int .i64 ((o.length : Int) + 1))
    have C := (((((hc.far (p := ⟨gl, i * 3, none⟩) hne.symm (.int .i64 n)).far (p := ⟨gl, i * 3 + 1, none⟩) hne.symm (.int .i64 (L n).behind)).far (p := ⟨gl, i * 3 + 2, none⟩) hne.symm (.bool true)).far (p := ⟨gl, n * 3 + 1, none⟩) hne.symm (.int .i64 i)).far (p := ⟨gl, (L n).behind * 3, none⟩) hne.symm (.int .i64 i)).set_ 1 (.int .i64 ((o.length : Int) + 1))
    have e : (#[.slice (some ⟨gl, 0, none⟩) (n + 1) (n + 1), .int .i64 o.length] : Array Value).setIfInBounds 1 (.int .i64 ((o.length : Int) + 1)) = #[.slice (some ⟨gl, 0, none⟩) (n + 1) (n + 1), .int .i64 (i :: o).length] := by simp
    have e2 : ((((((grid 3 (n + 1) (lkF L)).setIfInBounds (i * 3) (.int .i64 n)).setIfInBounds (i * 3 + 1) (.int .i64 (L n).behind)).setIfInBounds (i * 3 + 2) (.bool true)).setIfInBounds (n * 3 + 1) (.int .i64 i)).setIfInBounds ((L n).behind * 3) (.int .i64 i)) = grid 3 (n + 1) (lkF (putL L i n)) := by
      rw [lk_all (L := L) (m := n + 1) (j := i) (by omega) ⟨n, (L n).behind, true⟩, lk_behind (by omega), lk_ahead (by omega)]
      rfl
    exact ⟨putL L i n, (congrArg (Blk _ gc 243) e).mp C, (congrArg (Blk _ gl 240) e2).mp B, hr.put hi ho, h1, hn, put_bound (by omega) hb⟩
  · exact ((((((Keeps.refl _ w).setCell (fun _ => .inr rfl) _).setCell (fun _ => .inr rfl) _).setCell (fun _ => .inr rfl) _).setCell (fun _ => .inr rfl) _).setCell (fun _ => .inr rfl) _).setCell (fun _ => .inl rfl) _

/-- The front: one that wasn't in. -/
theorem chain_front_new {w : World} {gc gl n : Nat} {o : List Nat} (i : Nat) (hi : i < n) (ho : i ∉ o) (h : IsChain w gc gl n o) :
    Calls Tryz.prog 130 #[.pointer (some ⟨gc, 0, none⟩), .int .i64 i] w fun e w' => e = .returned (.int .i64 0) ∧ IsChain w' gc gl n (i :: o) ∧ Keeps (fun k => k = gc ∨ k = gl) w w' := by
  go_enter Tryz.func130, Tryz.ntmps130
  go_wp2_with fail
  refine (chain_there h i hi).mono ?_
  rintro e w' ⟨rfl, rfl⟩
  go_wp2_with fail
  refine (chain_out_no h i hi ho).mono ?_
  rintro e w1 ⟨rfl, h1, hb1⟩
  go_wp2_with fail
  refine (chain_root h1).mono ?_
  rintro e w2 ⟨rfl, rfl⟩
  go_wp2_with fail
  refine (chain_put i hi ho h1).mono ?_
  rintro e w2 ⟨rfl, h2, hb2⟩
  go_wp2_with fail
  go_ret
  exact ⟨rfl, h2, (Keeps.of_below hb1).trans hb2 (fun _ _ h => h) (fun _ _ h => h)⟩

theorem chain_cut_in {w : World} {gc gl n : Nat} {p s : List Nat} (i : Nat) (h : IsChain w gc gl n (p ++ i :: s)) :
    Calls Tryz.prog 126 #[.pointer (some ⟨gc, 0, none⟩), .int .i64 i] w fun e w' => e = .returned (.int .i64 0) ∧ IsChain w' gc gl n (p ++ s) ∧ Keeps (fun k => k = gc ∨ k = gl) w w' := by
  have h0 := h
  obtain ⟨L, hc, hl, hr, h1, hn, hb⟩ := h
  have hi : i < n := hr.lt i (by simp)
  have c0 : w.cell? ⟨gc, 0, none⟩ = some (.slice (some ⟨gl, 0, none⟩) (n + 1) (n + 1)) := hc.cell 0
  have l2 : w.cell? ⟨gl, i * 3 + 2, none⟩ = some (.bool true) := ((hl.cell _).trans (grid_at (r := 2) (lkF L) (by omega) (by omega))).trans (by simp [lkF, hr.inn i hi])
  go_enter Tryz.func126, Tryz.ntmps126
  go_wp2_with fail
  refine (chain_there h0 i hi).mono ?_
  rintro e w' ⟨rfl, rfl⟩
  go_wp2_with fail
  refine (chain_out_yes i h0).mono ?_
  rintro e w1 ⟨rfl, h1, hb1⟩
  go_wp2_with fail
  go_ret
  exact ⟨rfl, h1, hb1⟩

theorem chain_cut_no {w : World} {gc gl n : Nat} {o : List Nat} (i : Nat) (hi : i < n) (ho : i ∉ o) (h : IsChain w gc gl n o) :
    Calls Tryz.prog 126 #[.pointer (some ⟨gc, 0, none⟩), .int .i64 i] w fun e w' => e = .returned (.int .i64 9) ∧ w = w' := by
  have h0 := h
  obtain ⟨L, hc, hl, hr, h1, hn, hb⟩ := h
  have c0 : w.cell? ⟨gc, 0, none⟩ = some (.slice (some ⟨gl, 0, none⟩) (n + 1) (n + 1)) := hc.cell 0
  have l2 : w.cell? ⟨gl, i * 3 + 2, none⟩ = some (.bool false) := ((hl.cell _).trans (grid_at (r := 2) (lkF L) (by omega) (by omega))).trans (by simp [lkF, hr.inn i hi, ho])
  go_enter Tryz.func126, Tryz.ntmps126
  go_wp2_with fail
  refine (chain_there h0 i hi).mono ?_
  rintro e w' ⟨rfl, rfl⟩
  go_wp2_with fail
  go_ret
  exact ⟨rfl, rfl⟩

end Go.Proofs.Sg
