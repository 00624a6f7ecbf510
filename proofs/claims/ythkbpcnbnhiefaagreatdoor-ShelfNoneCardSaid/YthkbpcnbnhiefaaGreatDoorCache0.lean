/- A cache: what its blocks hold, and what is true of them. -/
import Derived.Test.YthkbpcnbnhiefaaGreatDoorProg
import Derived.Test.YthkbpcnbnhiefaaGreatDoorMem
import Derived.Test.YthkbpcnbnhiefaaGreatDoorDev
import Derived.Test.YthkbpcnbnhiefaaGreatDoorMap
import Derived.Test.YthkbpcnbnhiefaaGreatDoorChain
import Derived.WalkKit
import Derived.Handy
namespace Go.Proofs.Sg
open Go.RowKit

structure Fr where
  block : Nat
  bs : List UInt8
  dirty : Bool
  pins : Nat
  used : Bool
def Fr.zero : Fr := ⟨0, [], false, 0, false⟩

structure Ids where
  gd : Nat
  gi : Nat
  gc : Nat
  gf : Nat
  gm : Nat
  ge : Nat
  gl : Nat
  gch : Nat
  cap : Nat

structure Cs where
  fr : Nat → Fr
  at_ : Nat → Option Nat
  empty : List Nat
  order : List Nat
  D : Nat → List UInt8
  r : Nat
  s : Nat

/-- A frame that is neither empty nor used, between its making and its taking: 'hole'. -/
structure CInv (F blocks bytes : Nat) (hole : Option Nat) (c : Cs) : Prop where
  hF : 1 ≤ F ∧ F ≤ 64
  at_ : ∀ i f, c.at_ i = some f ↔ f < F ∧ (c.fr f).used = true ∧ (c.fr f).block = i
  emp : ∀ f, f ∈ c.empty ↔ f < F ∧ (c.fr f).used = false ∧ hole ≠ some f
  empN : c.empty.Nodup
  ord : ∀ f, f ∈ c.order ↔ f < F ∧ (c.fr f).used = true ∧ (c.fr f).pins = 0
  blk : ∀ f, (c.fr f).used = true → (c.fr f).block < blocks ∧ (c.fr f).bs.length = bytes
  idle : ∀ f, (c.fr f).used = false → c.fr f = Fr.zero

def frF (bytes : Nat) (fr : Nat → Fr) (gb cb : Nat → Nat) (f r : Nat) : Value := match r with
  | 0 => .int .u32 (fr f).block
  | 1 => if (fr f).used = true then .slice (some ⟨gb f, 0, none⟩) bytes (cb f) else .slice none 0 0
  | 2 => .bool (fr f).dirty
  | _ => .int .i64 (fr f).pins

def natv (l : List Nat) : List Value := l.map fun f => .int .i64 (f : Nat)

structure Frames (w : World) (G : Ids) (F bytes : Nat) (fr : Nat → Fr) (gb cb : Nat → Nat) : Prop where
  rows : Blk w G.gf 190 (grid 4 F (frF bytes fr gb cb))
  bytes : ∀ f, f < F → (fr f).used = true → BytesAt w (gb f) 0 (fr f).bs
  byt : ∀ f, f < F → (fr f).used = true → ∃ cs, Blk w (gb f) 5 cs
  ne : ∀ f, f < F → (fr f).used = true → gb f ≠ G.gi

def cells (G : Ids) (F n : Nat) : Array Value := #[.pointer (some ⟨G.gd, 0, none⟩), .slice (some ⟨G.gf, 0, none⟩) F F, .map (some G.gm), .slice (some ⟨G.ge, 0, none⟩) n G.cap, .pointer (some ⟨G.gch, 0, none⟩)]

structure IsCache (w : World) (G : Ids) (F blocks bytes : Nat) (hole : Option Nat) (c : Cs) : Prop where
  dev : IsDev w G.gd G.gi blocks bytes c.D c.r c.s
  box : Blk w G.gc 188 (cells G F c.empty.length)
  frames : ∃ gb cb, Frames w G F bytes c.fr gb cb
  map : IsMap32 w G.gm c.at_
  emp : w.ownsRow 0 3 1 (.slice (some ⟨G.ge, 0, none⟩) c.empty.length G.cap) c.empty.length (natv c.empty)
  cap : F ≤ G.cap
  chain : IsChain w G.gch G.gl F c.order
  inv : CInv F blocks bytes hole c

/-- The blocks that a cache writes to. -/
def CFoot (G : Ids) (k : Nat) : Prop := k = G.gd ∨ k = G.gi ∨ k = G.gc ∨ k = G.gf ∨ k = G.gm ∨ k = G.ge ∨ k = G.gl ∨ k = G.gch

def tag (w : World) (k : Nat) : Option Nat := match w.heap[k]? with
  | some (.cells _ t _) => some (t + 1)
  | some (.map _ _) => some 0
  | _ => none
theorem tag_ne {w : World} {a b s t : Nat} (h1 : tag w a = some s) (h2 : tag w b = some t) (h : s ≠ t) : a ≠ b := by
  rintro rfl
  rw [h1] at h2
  exact h (by injection h2)
theorem Blk.tag {w : World} {g : Nat} {t : TypeId} {cs : Array Value} (h : Blk w g t cs) : tag w g = some (t + 1) := by
  unfold Blk at h; simp [Sg.tag, h]
theorem IsMap32.tag {w : World} {b : Nat} {at_ : Nat → Option Nat} (h : IsMap32 w b at_) : tag w b = some 0 := by
  obtain ⟨D, ⟨es, clock, h1, _⟩, _⟩ := h
  simp [Sg.tag, h1]
theorem own_tag {w : World} {base e size n g cap : Nat} {xs : List Value} (h : w.ownsRow base e size (.slice (some ⟨g, 0, none⟩) n cap) n xs) : tag w g = some (e + 1) := by
  rcases h.2 with ⟨h1, _⟩ | ⟨g', cap', cur, h1, _, hh, _⟩
  · cases h1
  · injection h1 with h1 _ _
    injection h1 with h1
    injection h1 with h1
    subst h1
    simp [tag, hh]
theorem own_cell {w : World} {base e n g cap : Nat} {xs : List Value} (h : w.ownsRow base e 1 (.slice (some ⟨g, 0, none⟩) n cap) n xs) {j : Nat} (hj : j < n) : w.cell? ⟨g, j, none⟩ = xs[j]? := by
  have hl : xs.length = n := by have := h.1; omega
  have := h.cells (g := g) rfl j xs[j] (List.getElem?_eq_getElem (by omega))
  have e : (⟨g, 0, none⟩ : Addr).add j = ⟨g, j, none⟩ := by unfold Addr.add; split <;> simp_all
  rw [e] at this
  rw [this, List.getElem?_eq_getElem (by omega)]
theorem own_frozen {w : World} {base e size n g cap : Nat} {xs : List Value} (h : w.ownsRow base e size (.slice (some ⟨g, 0, none⟩) n cap) n xs) (k : Nat) : w.frozen? ⟨g, k, none⟩ = false := by
  rcases h.2 with ⟨h1, _⟩ | ⟨g', cap', cur, h1, _, hh, _⟩
  · cases h1
  · injection h1 with h1 _ _
    injection h1 with h1
    injection h1 with h1
    subst h1
    exact Blk.frozen hh k
theorem own_keep {w w' : World} {base e size n g cap : Nat} {xs : List Value} (h : w.ownsRow base e size (.slice (some ⟨g, 0, none⟩) n cap) n xs) (e1 : w'.heap[g]? = w.heap[g]?) : w'.ownsRow base e size (.slice (some ⟨g, 0, none⟩) n cap) n xs := by
  refine ⟨h.1, ?_⟩
  rcases h.2 with ⟨h1, _⟩ | ⟨g', cap', cur, h1, hb, hh, h3⟩
  · cases h1
  · injection h1 with h1 h4 h5
    injection h1 with h1
    injection h1 with h1
    subst h1
    exact .inr ⟨g, cap', cur, by rw [h5], hb, e1.trans hh, h3⟩

section
variable {w w' : World} {G : Ids} {F blocks bytes : Nat} {hole : Option Nat} {c : Cs}
structure Tags (w : World) (G : Ids) : Prop where
  d : tag w G.gd = some (147 + 1)
  i : tag w G.gi = some (5 + 1)
  c : tag w G.gc = some (188 + 1)
  f : tag w G.gf = some (190 + 1)
  m : tag w G.gm = some 0
  e : tag w G.ge = some (3 + 1)
  l : tag w G.gl = some (240 + 1)
  ch : tag w G.gch = some (243 + 1)
theorem Tags.nes (h : Tags w G) : G.gd ≠ G.gi ∧ G.gd ≠ G.gc ∧ G.gd ≠ G.gf ∧ G.gd ≠ G.gm ∧ G.gd ≠ G.ge ∧ G.gd ≠ G.gl ∧ G.gd ≠ G.gch ∧ G.gi ≠ G.gd ∧ G.gi ≠ G.gc ∧ G.gi ≠ G.gf ∧ G.gi ≠ G.gm ∧ G.gi ≠ G.ge ∧ G.gi ≠ G.gl ∧ G.gi ≠ G.gch ∧ G.gc ≠ G.gd ∧ G.gc ≠ G.gi ∧ G.gc ≠ G.gf ∧ G.gc ≠ G.gm ∧ G.gc ≠ G.ge ∧ G.gc ≠ G.gl ∧ G.gc ≠ G.gch ∧ G.gf ≠ G.gd ∧ G.gf ≠ G.gi ∧ G.gf ≠ G.gc ∧ G.gf ≠ G.gm ∧ G.gf ≠ G.ge ∧ G.gf ≠ G.gl ∧ G.gf ≠ G.gch ∧ G.gm ≠ G.gd ∧ G.gm ≠ G.gi ∧ G.gm ≠ G.gc ∧ G.gm ≠ G.gf ∧ G.gm ≠ G.ge ∧ G.gm ≠ G.gl ∧ G.gm ≠ G.gch ∧ G.ge ≠ G.gd ∧ G.ge ≠ G.gi ∧ G.ge ≠ G.gc ∧ G.ge ≠ G.gf ∧ G.ge ≠ G.gm ∧ G.ge ≠ G.gl ∧ G.ge ≠ G.gch ∧ G.gl ≠ G.gd ∧ G.gl ≠ G.gi ∧ G.gl ≠ G.gc ∧ G.gl ≠ G.gf ∧ G.gl ≠ G.gm ∧ G.gl ≠ G.ge ∧ G.gl ≠ G.gch ∧ G.gch ≠ G.gd ∧ G.gch ≠ G.gi ∧ G.gch ≠ G.gc ∧ G.gch ≠ G.gf ∧ G.gch ≠ G.gm ∧ G.gch ≠ G.ge ∧ G.gch ≠ G.gl :=
  ⟨tag_ne h.d h.i (by decide), tag_ne h.d h.c (by decide), tag_ne h.d h.f (by decide), tag_ne h.d h.m (by decide), tag_ne h.d h.e (by decide), tag_ne h.d h.l (by decide), tag_ne h.d h.ch (by decide), tag_ne h.i h.d (by decide), tag_ne h.i h.c (by decide), tag_ne h.i h.f (by decide), tag_ne h.i h.m (by decide), tag_ne h.i h.e (by decide), tag_ne h.i h.l (by decide), tag_ne h.i h.ch (by decide), tag_ne h.c h.d (by decide), tag_ne h.c h.i (by decide), tag_ne h.c h.f (by decide), tag_ne h.c h.m (by decide), tag_ne h.c h.e (by decide), tag_ne h.c h.l (by decide), tag_ne h.c h.ch (by decide), tag_ne h.f h.d (by decide), tag_ne h.f h.i (by decide), tag_ne h.f h.c (by decide), tag_ne h.f h.m (by decide), tag_ne h.f h.e (by decide), tag_ne h.f h.l (by decide), tag_ne h.f h.ch (by decide), tag_ne h.m h.d (by decide), tag_ne h.m h.i (by decide), tag_ne h.m h.c (by decide), tag_ne h.m h.f (by decide), tag_ne h.m h.e (by decide), tag_ne h.m h.l (by decide), tag_ne h.m h.ch (by decide), tag_ne h.e h.d (by decide), tag_ne h.e h.i (by decide), tag_ne h.e h.c (by decide), tag_ne h.e h.f (by decide), tag_ne h.e h.m (by decide), tag_ne h.e h.l (by decide), tag_ne h.e h.ch (by decide), tag_ne h.l h.d (by decide), tag_ne h.l h.i (by decide), tag_ne h.l h.c (by decide), tag_ne h.l h.f (by decide), tag_ne h.l h.m (by decide), tag_ne h.l h.e (by decide), tag_ne h.l h.ch (by decide), tag_ne h.ch h.d (by decide), tag_ne h.ch h.i (by decide), tag_ne h.ch h.c (by decide), tag_ne h.ch h.f (by decide), tag_ne h.ch h.m (by decide), tag_ne h.ch h.e (by decide), tag_ne h.ch h.l (by decide)⟩
theorem IsCache.tags (h : IsCache w G F blocks bytes hole c) : Tags w G := by
  obtain ⟨gb, cb, hf⟩ := h.frames
  obtain ⟨_, hc, hl, _⟩ := h.chain
  exact ⟨h.dev.1.tag, h.dev.2.1.tag, h.box.tag, hf.rows.tag, h.map.tag, own_tag h.emp, hl.tag, hc.tag⟩
theorem tag_lt {k t : Nat} (h : tag w k = some t) : k < w.heap.size := by
  rcases Nat.lt_or_ge k w.heap.size with hlt | hge
  · exact hlt
  · simp [tag, Array.getElem?_eq_none hge] at h
theorem Foot_lt (h : Tags w G) {k : Nat} (hk : CFoot G k) : k < w.heap.size := by
  rcases hk with rfl | rfl | rfl | rfl | rfl | rfl | rfl | rfl
  · exact tag_lt h.d
  · exact tag_lt h.i
  · exact tag_lt h.c
  · exact tag_lt h.f
  · exact tag_lt h.m
  · exact tag_lt h.e
  · exact tag_lt h.l
  · exact tag_lt h.ch
theorem IsCache.drewN (h : IsCache w G F blocks bytes hole c) (q : Nat) : IsCache (w.drewN q) G F blocks bytes hole c :=
  ⟨h.dev, h.box, let ⟨gb, cb, a⟩ := h.frames; ⟨gb, cb, a.rows, a.bytes, a.byt, a.ne⟩, h.map, h.emp, h.cap, h.chain, h.inv⟩
theorem Frames.not_foot {fr : Nat → Fr} {gb cb : Nat → Nat} (h : Frames w G F bytes fr gb cb) (t : Tags w G) {f : Nat} (hf : f < F) (hu : (fr f).used = true) : ¬ CFoot G (gb f) := by
  obtain ⟨cs, hb⟩ := h.byt f hf hu
  have hg := hb.tag
  rintro (e | e | e | e | e | e | e | e)
  · exact tag_ne hg t.d (by decide) e
  · exact h.ne f hf hu e
  · exact tag_ne hg t.c (by decide) e
  · exact tag_ne hg t.f (by decide) e
  · exact tag_ne hg t.m (by decide) e
  · exact tag_ne hg t.e (by decide) e
  · exact tag_ne hg t.l (by decide) e
  · exact tag_ne hg t.ch (by decide) e
theorem Frames.keep {S : Nat → Prop} {fr : Nat → Fr} {gb cb : Nat → Nat} (h : Frames w G F bytes fr gb cb) (hk : Keeps S w w') (h1 : ¬ S G.gf) (h2 : ∀ f, f < F → (fr f).used = true → ¬ S (gb f)) : Frames w' G F bytes fr gb cb :=
  ⟨h.rows.keep hk h1, fun f hf hu => (h.bytes f hf hu).keep (by obtain ⟨cs, hb⟩ := h.byt f hf hu; exact hk.block _ hb.lt (h2 f hf hu)),
    fun f hf hu => by obtain ⟨cs, hb⟩ := h.byt f hf hu; exact ⟨cs, hb.keep hk (h2 f hf hu)⟩, h.ne⟩
theorem IsChain.keep {gc gl n : Nat} {o : List Nat} {S : Nat → Prop} (h : IsChain w gc gl n o) (hk : Keeps S w w') (h1 : ¬ S gc) (h2 : ¬ S gl) : IsChain w' gc gl n o := by
  obtain ⟨L, a, b, d⟩ := h
  exact ⟨L, a.keep hk h1, b.keep hk h2, d⟩
/-- A step that touches none of a cache's blocks. -/
theorem IsCache.keep {S : Nat → Prop} (h : IsCache w G F blocks bytes hole c) (hk : Keeps S w w') (hS : ∀ k, k < w.heap.size → ¬ S k) : IsCache w' G F blocks bytes hole c := by
  have t := h.tags
  obtain ⟨gb, cb, hf⟩ := h.frames
  exact ⟨h.dev.keep hk (hS _ (tag_lt t.d)) (hS _ (tag_lt t.i)), h.box.keep hk (hS _ (tag_lt t.c)), ⟨gb, cb, hf.keep hk (hS _ (tag_lt t.f)) (fun f h1 h2 => by obtain ⟨cs, hb⟩ := hf.byt f h1 h2; exact hS _ hb.lt)⟩,
    h.map.keep (hk.block _ (tag_lt t.m) (hS _ (tag_lt t.m))), own_keep h.emp (hk.block _ (tag_lt t.e) (hS _ (tag_lt t.e))), h.cap, h.chain.keep hk (hS _ (tag_lt t.ch)) (hS _ (tag_lt t.l)), h.inv⟩
end

end Go.Proofs.Sg
