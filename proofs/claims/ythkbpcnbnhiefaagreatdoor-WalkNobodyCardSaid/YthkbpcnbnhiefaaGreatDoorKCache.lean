/- Cache0 · Cache1 · Cache2 · Cache3 · Cache4 · Cache5 · Cache6 · Cache7 · Cache8, in one. -/
import Derived.Test.YthkbpcnbnhiefaaGreatDoorProg
import Derived.WalkKit
import Derived.Handy
import Derived.Deep.QuietTactic
import Derived.BigQuiet
import Derived.StillTailTactics
import Derived.WalkSmall
import Derived.Test.YthkbpcnbnhiefaaGreatDoorKBase
/-! A cache: what its blocks hold, and what is true of them. -/
namespace Go.Proofs.Sg
open Go.RowKit

structure Fr where
  block : Nat
  bs : List UInt8
  dirty : Bool
  pins : Nat
  used : Bool
def Fr.zero : Fr := ⟨0, [], false, 0, false⟩

structure Ids where
  gd : Nat
  gi : Nat
  gc : Nat
  gf : Nat
  gm : Nat
  ge : Nat
  gl : Nat
  gch : Nat
  cap : Nat

structure Cs where
  fr : Nat → Fr
  at_ : Nat → Option Nat
  empty : List Nat
  order : List Nat
  D : Nat → List UInt8
  r : Nat
  s : Nat

/-- A frame that is neither empty nor used, between its making and its taking: 'hole'. -/
structure CInv (F blocks bytes : Nat) (hole : Option Nat) (c : Cs) : Prop where
  hF : 1 ≤ F ∧ F ≤ 64
  at_ : ∀ i f, c.at_ i = some f ↔ f < F ∧ (c.fr f).used = true ∧ (c.fr f).block = i
  emp : ∀ f, f ∈ c.empty ↔ f < F ∧ (c.fr f).used = false ∧ hole ≠ some f
  empN : c.empty.Nodup
  ord : ∀ f, f ∈ c.order ↔ f < F ∧ (c.fr f).used = true ∧ (c.fr f).pins = 0
  blk : ∀ f, (c.fr f).used = true → (c.fr f).block < blocks ∧ (c.fr f).bs.length = bytes
  idle : ∀ f, (c.fr f).used = false → c.fr f = Fr.zero

def frF (bytes : Nat) (fr : Nat → Fr) (gb cb : Nat → Nat) (f r : Nat) : Value := match r with
  | 0 => .int .u32 (fr f).block
  | 1 => if (fr f).used = true then .slice (some ⟨gb f, 0, none⟩) bytes (cb f) else .slice none 0 0
  | 2 => .bool (fr f).dirty
  | _ => .int .i64 (fr f).pins

def natv (l : List Nat) : List Value := l.map fun f => .int .i64 (f : Nat)

structure Frames (w : World) (G : Ids) (F bytes : Nat) (fr : Nat → Fr) (gb cb : Nat → Nat) : Prop where
  rows : Blk w G.gf 190 (grid 4 F (frF bytes fr gb cb))
  bytes : ∀ f, f < F → (fr f).used = true → BytesAt w (gb f) 0 (fr f).bs
  byt : ∀ f, f < F → (fr f).used = true → ∃ cs, Blk w (gb f) 5 cs
  ne : ∀ f, f < F → (fr f).used = true → gb f ≠ G.gi

def cells (G : Ids) (F n : Nat) : Array Value := #[.pointer (some ⟨G.gd, 0, none⟩), .slice (some ⟨G.gf, 0, none⟩) F F, .map (some G.gm), .slice (some ⟨G.ge, 0, none⟩) n G.cap, .pointer (some ⟨G.gch, 0, none⟩)]

structure IsCache (w : World) (G : Ids) (F blocks bytes : Nat) (hole : Option Nat) (c : Cs) : Prop where
  dev : IsDev w G.gd G.gi blocks bytes c.D c.r c.s
  box : Blk w G.gc 188 (cells G F c.empty.length)
  frames : ∃ gb cb, Frames w G F bytes c.fr gb cb
  map : IsMap32 w G.gm c.at_
  emp : w.ownsRow 0 3 1 (.slice (some ⟨G.ge, 0, none⟩) c.empty.length G.cap) c.empty.length (natv c.empty)
  cap : F ≤ G.cap
  chain : IsChain w G.gch G.gl F c.order
  inv : CInv F blocks bytes hole c

/-- The blocks that a cache writes to. -/
def CFoot (G : Ids) (k : Nat) : Prop := k = G.gd ∨ k = G.gi ∨ k = G.gc ∨ k = G.gf ∨ k = G.gm ∨ k = G.ge ∨ k = G.gl ∨ k = G.gch

def tag (w : World) (k : Nat) : Option Nat := match w.heap[k]? with
  | some (.cells _ t _) => some (t + 1)
  | some (.map _ _) => some 0
  | _ => none
theorem tag_ne {w : World} {a b s t : Nat} (h1 : tag w a = some s) (h2 : tag w b = some t) (h : s ≠ t) : a ≠ b := by
  rintro rfl
  rw [h1] at h2
  exact h (by injection h2)
theorem Blk.tag {w : World} {g : Nat} {t : TypeId} {cs : Array Value} (h : Blk w g t cs) : tag w g = some (t + 1) := by
  unfold Blk at h; simp [Sg.tag, h]
theorem IsMap32.tag {w : World} {b : Nat} {at_ : Nat → Option Nat} (h : IsMap32 w b at_) : tag w b = some 0 := by
  obtain ⟨D, ⟨es, clock, h1, _⟩, _⟩ := h
  simp [Sg.tag, h1]
theorem own_tag {w : World} {base e size n g cap : Nat} {xs : List Value} (h : w.ownsRow base e size (.slice (some ⟨g, 0, none⟩) n cap) n xs) : tag w g = some (e + 1) := by
  rcases h.2 with ⟨h1, _⟩ | ⟨g', cap', cur, h1, _, hh, _⟩
  · cases h1
  · injection h1 with h1 _ _
    injection h1 with h1
    injection h1 with h1
    subst h1
    simp [tag, hh]
theorem own_cell {w : World} {base e n g cap : Nat} {xs : List Value} (h : w.ownsRow base e 1 (.slice (some ⟨g, 0, none⟩) n cap) n xs) {j : Nat} (hj : j < n) : w.cell? ⟨g, j, none⟩ = xs[j]? := by
  have hl : xs.length = n := by have := h.1; omega
  have := h.cells (g := g) rfl j xs[j] (List.getElem?_eq_getElem (by omega))
  have e : (⟨g, 0, none⟩ : Addr).add j = ⟨g, j, none⟩ := by unfold Addr.add; split <;> simp_all
  rw [e] at this
  rw [this, List.getElem?_eq_getElem (by omega)]
theorem own_frozen {w : World} {base e size n g cap : Nat} {xs : List Value} (h : w.ownsRow base e size (.slice (some ⟨g, 0, none⟩) n cap) n xs) (k : Nat) : w.frozen? ⟨g, k, none⟩ = false := by
  rcases h.2 with ⟨h1, _⟩ | ⟨g', cap', cur, h1, _, hh, _⟩
  · cases h1
  · injection h1 with h1 _ _
    injection h1 with h1
    injection h1 with h1
    subst h1
    exact Blk.frozen hh k
theorem own_keep {w w' : World} {base e size n g cap : Nat} {xs : List Value} (h : w.ownsRow base e size (.slice (some ⟨g, 0, none⟩) n cap) n xs) (e1 : w'.heap[g]? = w.heap[g]?) : w'.ownsRow base e size (.slice (some ⟨g, 0, none⟩) n cap) n xs := by
  refine ⟨h.1, ?_⟩
  rcases h.2 with ⟨h1, _⟩ | ⟨g', cap', cur, h1, hb, hh, h3⟩
  · cases h1
  · injection h1 with h1 h4 h5
    injection h1 with h1
    injection h1 with h1
    subst h1
    exact .inr ⟨g, cap', cur, by rw [h5], hb, e1.trans hh, h3⟩

section
variable {w w' : World} {G : Ids} {F blocks bytes : Nat} {hole : Option Nat} {c : Cs}
structure Tags (w : World) (G : Ids) : Prop where
  d : tag w G.gd = some (147 + 1)
  i : tag w G.gi = some (5 + 1)
  c : tag w G.gc = some (188 + 1)
  f : tag w G.gf = some (190 + 1)
  m : tag w G.gm = some 0
  e : tag w G.ge = some (3 + 1)
  l : tag w G.gl = some (240 + 1)
  ch : tag w G.gch = some (243 + 1)
theorem Tags.nes (h : Tags w G) : G.gd ≠ G.gi ∧ G.gd ≠ G.gc ∧ G.gd ≠ G.gf ∧ G.gd ≠ G.gm ∧ G.gd ≠ G.ge ∧ G.gd ≠ G.gl ∧ G.gd ≠ G.gch ∧ G.gi ≠ G.gd ∧ G.gi ≠ G.gc ∧ G.gi ≠ G.gf ∧ G.gi ≠ G.gm ∧ G.gi ≠ G.ge ∧ G.gi ≠ G.gl ∧ G.gi ≠ G.gch ∧ G.gc ≠ G.gd ∧ G.gc ≠ G.gi ∧ G.gc ≠ G.gf ∧ G.gc ≠ G.gm ∧ G.gc ≠ G.ge ∧ G.gc ≠ G.gl ∧ G.gc ≠ G.gch ∧ G.gf ≠ G.gd ∧ G.gf ≠ G.gi ∧ G.gf ≠ G.gc ∧ G.gf ≠ G.gm ∧ G.gf ≠ G.ge ∧ G.gf ≠ G.gl ∧ G.gf ≠ G.gch ∧ G.gm ≠ G.gd ∧ G.gm ≠ G.gi ∧ G.gm ≠ G.gc ∧ G.gm ≠ G.gf ∧ G.gm ≠ G.ge ∧ G.gm ≠ G.gl ∧ G.gm ≠ G.gch ∧ G.ge ≠ G.gd ∧ G.ge ≠ G.gi ∧ G.ge ≠ G.gc ∧ G.ge ≠ G.gf ∧ G.ge ≠ G.gm ∧ G.ge ≠ G.gl ∧ G.ge ≠ G.gch ∧ G.gl ≠ G.gd ∧ G.gl ≠ G.gi ∧ G.gl ≠ G.gc ∧ G.gl ≠ G.gf ∧ G.gl ≠ G.gm ∧ G.gl ≠ G.ge ∧ G.gl ≠ G.gch ∧ G.gch ≠ G.gd ∧ G.gch ≠ G.gi ∧ G.gch ≠ G.gc ∧ G.gch ≠ G.gf ∧ G.gch ≠ G.gm ∧ G.gch ≠ G.ge ∧ G.gch ≠ G.gl :=
  ⟨tag_ne h.d h.i (by decide), tag_ne h.d h.c (by decide), tag_ne h.d h.f (by decide), tag_ne h.d h.m (by decide), tag_ne h.d h.e (by decide), tag_ne h.d h.l (by decide), tag_ne h.d h.ch (by decide), tag_ne h.i h.d (by decide), tag_ne h.i h.c (by decide), tag_ne h.i h.f (by decide), tag_ne h.i h.m (by decide), tag_ne h.i h.e (by decide), tag_ne h.i h.l (by decide), tag_ne h.i h.ch (by decide), tag_ne h.c h.d (by decide), tag_ne h.c h.i (by decide), tag_ne h.c h.f (by decide), tag_ne h.c h.m (by decide), tag_ne h.c h.e (by decide), tag_ne h.c h.l (by decide), tag_ne h.c h.ch (by decide), tag_ne h.f h.d (by decide), tag_ne h.f h.i (by decide), tag_ne h.f h.c (by decide), tag_ne h.f h.m (by decide), tag_ne h.f h.e (by decide), tag_ne h.f h.l (by decide), tag_ne h.f h.ch (by decide), tag_ne h.m h.d (by decide), tag_ne h.m h.i (by decide), tag_ne h.m h.c (by decide), tag_ne h.m h.f (by decide), tag_ne h.m h.e (by decide), tag_ne h.m h.l (by decide), tag_ne h.m h.ch (by decide), tag_ne h.e h.d (by decide), tag_ne h.e h.i (by decide), tag_ne h.e h.c (by decide), tag_ne h.e h.f (by decide), tag_ne h.e h.m (by decide), tag_ne h.e h.l (by decide), tag_ne h.e h.ch (by decide), tag_ne h.l h.d (by decide), tag_ne h.l h.i (by decide), tag_ne h.l h.c (by decide), tag_ne h.l h.f (by decide), tag_ne h.l h.m (by decide), tag_ne h.l h.e (by decide), tag_ne h.l h.ch (by decide), tag_ne h.ch h.d (by decide), tag_ne h.ch h.i (by decide), tag_ne h.ch h.c (by decide), tag_ne h.ch h.f (by decide), tag_ne h.ch h.m (by decide), tag_ne h.ch h.e (by decide), tag_ne h.ch h.l (by decide)⟩
theorem IsCache.tags (h : IsCache w G F blocks bytes hole c) : Tags w G := by
  obtain ⟨gb, cb, hf⟩ := h.frames
  obtain ⟨_, hc, hl, _⟩ := h.chain
  exact ⟨h.dev.1.tag, h.dev.2.1.tag, h.box.tag, hf.rows.tag, h.map.tag, own_tag h.emp, hl.tag, hc.tag⟩
theorem tag_lt {k t : Nat} (h : tag w k = some t) : k < w.heap.size := by
  rcases Nat.lt_or_ge k w.heap.size with hlt | hge
  · exact hlt
  · simp [tag, Array.getElem?_eq_none hge] at h
theorem Foot_lt (h : Tags w G) {k : Nat} (hk : CFoot G k) : k < w.heap.size := by
  rcases hk with rfl | rfl | rfl | rfl | rfl | rfl | rfl | rfl
  · exact tag_lt h.d
  · exact tag_lt h.i
  · exact tag_lt h.c
  · exact tag_lt h.f
  · exact tag_lt h.m
  · exact tag_lt h.e
  · exact tag_lt h.l
  · exact tag_lt h.ch
theorem IsCache.drewN (h : IsCache w G F blocks bytes hole c) (q : Nat) : IsCache (w.drewN q) G F blocks bytes hole c :=
  ⟨h.dev, h.box, let ⟨gb, cb, a⟩ := h.frames; ⟨gb, cb, a.rows, a.bytes, a.byt, a.ne⟩, h.map, h.emp, h.cap, h.chain, h.inv⟩
theorem Frames.not_foot {fr : Nat → Fr} {gb cb : Nat → Nat} (h : Frames w G F bytes fr gb cb) (t : Tags w G) {f : Nat} (hf : f < F) (hu : (fr f).used = true) : ¬ CFoot G (gb f) := by
  obtain ⟨cs, hb⟩ := h.byt f hf hu
  have hg := hb.tag
  rintro (e | e | e | e | e | e | e | e)
  · exact tag_ne hg t.d (by decide) e
  · exact h.ne f hf hu e
  · exact tag_ne hg t.c (by decide) e
  · exact tag_ne hg t.f (by decide) e
  · exact tag_ne hg t.m (by decide) e
  · exact tag_ne hg t.e (by decide) e
  · exact tag_ne hg t.l (by decide) e
  · exact tag_ne hg t.ch (by decide) e
theorem Frames.keep {S : Nat → Prop} {fr : Nat → Fr} {gb cb : Nat → Nat} (h : Frames w G F bytes fr gb cb) (hk : Keeps S w w') (h1 : ¬ S G.gf) (h2 : ∀ f, f < F → (fr f).used = true → ¬ S (gb f)) : Frames w' G F bytes fr gb cb :=
  ⟨h.rows.keep hk h1, fun f hf hu => (h.bytes f hf hu).keep (by obtain ⟨cs, hb⟩ := h.byt f hf hu; exact hk.block _ hb.lt (h2 f hf hu)),
    fun f hf hu => by obtain ⟨cs, hb⟩ := h.byt f hf hu; exact ⟨cs, hb.keep hk (h2 f hf hu)⟩, h.ne⟩
theorem IsChain.keep {gc gl n : Nat} {o : List Nat} {S : Nat → Prop} (h : IsChain w gc gl n o) (hk : Keeps S w w') (h1 : ¬ S gc) (h2 : ¬ S gl) : IsChain w' gc gl n o := by
  obtain ⟨L, a, b, d⟩ := h
  exact ⟨L, a.keep hk h1, b.keep hk h2, d⟩
/-- A step that touches none of a cache's blocks. -/
theorem IsCache.keep {S : Nat → Prop} (h : IsCache w G F blocks bytes hole c) (hk : Keeps S w w') (hS : ∀ k, k < w.heap.size → ¬ S k) : IsCache w' G F blocks bytes hole c := by
  have t := h.tags
  obtain ⟨gb, cb, hf⟩ := h.frames
  exact ⟨h.dev.keep hk (hS _ (tag_lt t.d)) (hS _ (tag_lt t.i)), h.box.keep hk (hS _ (tag_lt t.c)), ⟨gb, cb, hf.keep hk (hS _ (tag_lt t.f)) (fun f h1 h2 => by obtain ⟨cs, hb⟩ := hf.byt f h1 h2; exact hS _ hb.lt)⟩,
    h.map.keep (hk.block _ (tag_lt t.m) (hS _ (tag_lt t.m))), own_keep h.emp (hk.block _ (tag_lt t.e) (hS _ (tag_lt t.e))), h.cap, h.chain.keep hk (hS _ (tag_lt t.ch)) (hS _ (tag_lt t.l)), h.inv⟩
end

end Go.Proofs.Sg
/-! The cache's methods that read. -/
namespace Go.Proofs.Sg
open Go.RowKit

section
variable {w w' : World} {G : Ids} {F blocks bytes : Nat} {hole : Option Nat} {c : Cs}

theorem cache_none (h : IsCache w G F blocks bytes hole c) :
    Calls Tryz.prog 147 #[.pointer (some ⟨G.gc, 0, none⟩)] w fun e w' => e = .returned (.bool false) ∧ w = w' := by
  have c0 : w.cell? ⟨G.gc, 0, none⟩ = some (.pointer (some ⟨G.gd, 0, none⟩)) := h.box.cell 0
  go_enter Tryz.func147, Tryz.ntmps147
  go_wp2
  go_ret
  exact ⟨rfl, rfl⟩

theorem cache_there (h : IsCache w G F blocks bytes hole c) (i : Nat) (hi : i < blocks) :
    Calls Tryz.prog 125 #[.pointer (some ⟨G.gc, 0, none⟩), .int .u32 i] w fun e w' => e = .returned (.int .i64 0) ∧ ∃ q, w' = w.drewN q := by
  have c0 : w.cell? ⟨G.gc, 0, none⟩ = some (.pointer (some ⟨G.gd, 0, none⟩)) := h.box.cell 0
  have hb : blocks ≤ 65536 := h.dev.2.2.2.1
  go_enter Tryz.func125, Tryz.ntmps125
  go_wp2_with fail
  refine (cache_none h).mono ?_
  rintro e w' ⟨rfl, rfl⟩
  go_wp2_with fail
  refine (dev_blocks h.dev).mono ?_
  rintro e w' ⟨rfl, q, rfl⟩
  go_wp2_with fail
  go_ret
  exact ⟨rfl, q, rfl⟩

theorem Frames.cells {fr : Nat → Fr} {gb cb : Nat → Nat} (h : Frames w G F bytes fr gb cb) {f : Nat} (hf : f < F) :
    w.cell? ⟨G.gf, f * 4, none⟩ = some (.int .u32 (fr f).block) ∧ w.cell? ⟨G.gf, f * 4 + 1, none⟩ = some (if (fr f).used = true then .slice (some ⟨gb f, 0, none⟩) bytes (cb f) else .slice none 0 0) ∧
    w.cell? ⟨G.gf, f * 4 + 2, none⟩ = some (.bool (fr f).dirty) ∧ w.cell? ⟨G.gf, f * 4 + 3, none⟩ = some (.int .i64 (fr f).pins) :=
  ⟨(h.rows.cell _).trans (grid_at (r := 0) _ hf (by omega)), (h.rows.cell _).trans (grid_at (r := 1) _ hf (by omega)), (h.rows.cell _).trans (grid_at (r := 2) _ hf (by omega)), (h.rows.cell _).trans (grid_at (r := 3) _ hf (by omega))⟩

theorem cache_pinned (h : IsCache w G F blocks bytes hole c) (i f : Nat) (hi : i < 65536) (hf : c.at_ i = some f) (hp : 0 < (c.fr f).pins) :
    Calls Tryz.prog 129 #[.pointer (some ⟨G.gc, 0, none⟩), .int .u32 i] w fun e w' => e = .returned (.tuple #[.pointer (some ⟨G.gf, f * 4, none⟩), .int .i64 0]) ∧ ∃ q, w' = w.drewN q := by
  have c1 : w.cell? ⟨G.gc, 1, none⟩ = some (.slice (some ⟨G.gf, 0, none⟩) F F) := h.box.cell 1
  have c2 : w.cell? ⟨G.gc, 2, none⟩ = some (.map (some G.gm)) := h.box.cell 2
  obtain ⟨gb, cb, hfr⟩ := h.frames
  have hfF := ((h.inv.at_ i f).1 hf).1
  have hF2 := h.inv.hF.2
  obtain ⟨p0, p1, p2, p3⟩ := hfr.cells hfF
  clear p1
  have hz : (((c.fr f).pins : Int) == 0) = false := by simp; omega
  have A1 := Hd.mk hf
  clear hf
  go_enter Tryz.func129, Tryz.ntmps129
  go_wp2_with fail
  refine (cache_none h).mono ?_
  rintro e w' ⟨rfl, rfl⟩
  go_wp2_with (refine wpList_look_some rfl _ _ rfl G.gm c.at_ h.map i hi f A1.out rfl rfl ?_)
  go_ret2
  exact ⟨rfl, 0, rfl⟩

theorem cache_read (h : IsCache w G F blocks bytes hole c) (i f : Nat) (hi : i < 65536) (hf : c.at_ i = some f) (hp : 0 < (c.fr f).pins) :
    Calls Tryz.prog 67 #[.pointer (some ⟨G.gc, 0, none⟩), .int .u32 i] w fun e w' => ∃ g cc, e = .returned (.tuple #[.slice (some ⟨g, 0, none⟩) bytes cc, .int .i64 0]) ∧
      w.heap.size ≤ g ∧ g < w'.heap.size ∧ (∃ cs, Blk w' g 5 cs) ∧ BytesAt w' g 0 (c.fr f).bs ∧ Below w.heap.size w w' := by
  obtain ⟨gb, cb, hfr⟩ := h.frames
  have hat := (h.inv.at_ i f).1 hf
  have hfF := hat.1
  have hF2 := h.inv.hF.2
  have hlen := (h.inv.blk f hat.2.1).2
  have hb4 : bytes ≤ 65536 := h.dev.2.2.2.2.2.1
  obtain ⟨p0, p1, p2, p3⟩ := hfr.cells hfF
  rw [if_pos hat.2.1] at p1
  have hu := hat.2.1
  have A3 := Hd.mk hlen
  have A4 := Hd.mk hu
  have A5 := Hd.mk hf
  have hcall := cache_pinned h i f hi hf hp
  clear hlen hat hu hf
  go_enter Tryz.func67, Tryz.ntmps67
  go_wp2_with fail
  refine hcall.mono ?_
  rintro e w' ⟨rfl, q, rfl⟩
  clear hcall
  go_wp2_with fail
  have hB : BytesAt (w.drewN q) (gb f) 0 (c.fr f).bs := hfr.bytes f hfF A4.out
  have hC := clone_bytes hB (cb f) (by rw [A3.out]; omega)
  rw [A3.out] at hC
  refine hC.mono ?_
  clear hC hB
  rintro e w1 ⟨g, cc, rfl, hg1, hg2, _, hg3, hg4, hb1⟩
  go_wp2_with fail
  go_ret2
  have hb : Below w.heap.size w w1 := by
    have := ((Keeps.refl (fun _ => False) w).drewN q).trans (U := fun _ => False) (Keeps.of_below (S := fun _ => False) hb1) (fun _ _ h => h) (fun _ _ h => h)
    exact this.below (Nat.le_refl _) (fun _ _ h => h)
  exact ⟨g, cc, rfl, by simpa using hg1, hg2, hg3, hg4, hb⟩

def setFr (c : Cs) (f : Nat) (x : Fr) : Cs := { c with fr := upd c.fr f x }

section
variable {fr : Nat → Fr} {gb cb : Nat → Nat} {f : Nat}
theorem frF_pins (hf : f < F) (p : Nat) : (grid 4 F (frF bytes fr gb cb)).setIfInBounds (f * 4 + 3) (.int .i64 p) = grid 4 F (frF bytes (upd fr f { fr f with pins := p }) gb cb) := by
  rw [grid_set _ hf (by omega)]
  apply grid_congr
  intro a r _ hr
  by_cases e : a = f
  · subst e
    rcases r with _ | _ | _ | _ | r
    · simp [frF, upd]
    · simp [frF, upd]
    · simp [frF, upd]
    · simp [frF, upd]
    · omega
  · simp [e, frF, upd]
theorem frF_dirty (hf : f < F) (b : Bool) : (grid 4 F (frF bytes fr gb cb)).setIfInBounds (f * 4 + 2) (.bool b) = grid 4 F (frF bytes (upd fr f { fr f with dirty := b }) gb cb) := by
  rw [grid_set _ hf (by omega)]
  apply grid_congr
  intro a r _ hr
  by_cases e : a = f
  · subst e
    rcases r with _ | _ | _ | r <;> simp [frF, upd]
  · simp [e, frF, upd]
theorem frF_bytes (hf : f < F) (hu : (fr f).used = true) (g cc : Nat) (bs : List UInt8) : (grid 4 F (frF bytes fr gb cb)).setIfInBounds (f * 4 + 1) (.slice (some ⟨g, 0, none⟩) bytes cc) = grid 4 F (frF bytes (upd fr f { fr f with bs := bs }) (upd gb f g) (upd cb f cc)) := by
  rw [grid_set _ hf (by omega)]
  apply grid_congr
  intro a r _ hr
  by_cases e : a = f
  · subst e
    rcases r with _ | _ | _ | r <;> simp [frF, upd, hu]
  · simp [e, frF, upd]
theorem frF_all (hf : f < F) (x : Fr) (g cc : Nat) : ((((grid 4 F (frF bytes fr gb cb)).setIfInBounds (f * 4) (.int .u32 x.block)).setIfInBounds (f * 4 + 1) (if x.used = true then .slice (some ⟨g, 0, none⟩) bytes cc else .slice none 0 0)).setIfInBounds (f * 4 + 2) (.bool x.dirty)).setIfInBounds (f * 4 + 3) (.int .i64 x.pins) = grid 4 F (frF bytes (upd fr f x) (upd gb f g) (upd cb f cc)) := by
  have h0 := grid_set (sz := 4) (r := 0) (frF bytes fr gb cb) hf (by omega) (.int .u32 x.block)
  rw [Nat.add_zero] at h0
  rw [h0, grid_set _ hf (by omega), grid_set _ hf (by omega), grid_set _ hf (by omega)]
  apply grid_congr
  intro a r _ hr
  by_cases e : a = f
  · subst e
    rcases r with _ | _ | _ | _ | r
    · simp [frF, upd]
    · simp [frF, upd]
    · simp [frF, upd]
    · simp [frF, upd]
    · omega
  · simp [e, frF, upd]
end

end
end Go.Proofs.Sg
/-! The cache's methods that write: back, leave, put. -/
namespace Go.Proofs.Sg
open Go.RowKit

section
variable {w w' : World} {G : Ids} {F blocks bytes : Nat} {hole : Option Nat} {c : Cs}

/-- back: a frame's block is on the device, if it was dirty. -/
def backC (c : Cs) (f : Nat) : Cs := if (c.fr f).dirty = true then { setFr c f { c.fr f with dirty := false } with D := updD c.D (c.fr f).block (c.fr f).bs, s := c.s + 1 } else c

theorem CInv.setFr {c : Cs} (h : CInv F blocks bytes hole c) (f : Nat) (x : Fr) (hf : f < F) (h1 : x.used = (c.fr f).used) (h2 : x.block = (c.fr f).block) (h3 : x.pins = 0 ↔ (c.fr f).pins = 0) (h4 : x.bs.length = (c.fr f).bs.length) (hu : (c.fr f).used = true) : CInv F blocks bytes hole (setFr c f x) := by
  have key : ∀ a, ((upd c.fr f x) a).used = (c.fr a).used ∧ ((upd c.fr f x) a).block = (c.fr a).block ∧ (((upd c.fr f x) a).pins = 0 ↔ (c.fr a).pins = 0) ∧ ((upd c.fr f x) a).bs.length = (c.fr a).bs.length := by
    intro a
    by_cases e : a = f
    · subst e; simp [upd, h1, h2, h3, h4]
    · simp [upd, e]
  refine ⟨h.hF, fun i g => ?_, fun g => ?_, h.empN, fun g => ?_, fun g hg => ?_, fun g hg => ?_⟩
  · show c.at_ i = some g ↔ _
    rw [h.at_ i g]; simp only [Sg.setFr, (key g).1, (key g).2.1]
  · show g ∈ c.empty ↔ _
    rw [h.emp g]; simp only [Sg.setFr, (key g).1]
  · show g ∈ c.order ↔ _
    rw [h.ord g]; simp only [Sg.setFr, (key g).1, (key g).2.2.1]
  · simp only [Sg.setFr, (key g).1] at hg
    simp only [Sg.setFr, (key g).2.1, (key g).2.2.2]
    exact h.blk g hg
  · simp only [Sg.setFr, (key g).1] at hg
    have e : g ≠ f := by rintro rfl; rw [hu] at hg; cases hg
    simp only [Sg.setFr, upd_other _ _ e]
    exact h.idle g hg

set_option maxRecDepth 100000 in
set_option maxHeartbeats 400000 in
theorem cache_back (h : IsCache w G F blocks bytes hole c) (f : Nat) (hf : f < F) (hu : (c.fr f).used = true) :
    Calls Tryz.prog 149 #[.pointer (some ⟨G.gc, 0, none⟩), .pointer (some ⟨G.gf, f * 4, none⟩)] w fun e w' => e = .returned (.tuple #[]) ∧ IsCache w' G F blocks bytes hole (backC c f) ∧ Keeps (CFoot G) w w' := by
  have t := h.tags
  obtain ⟨gb, cb, hfr⟩ := h.frames
  have hF2 := h.inv.hF.2
  have hblk := h.inv.blk f hu
  obtain ⟨p0, p1, p2, p3⟩ := hfr.cells hf
  rw [if_pos hu] at p1
  by_cases hd : (c.fr f).dirty = true
  · have c0 : w.cell? ⟨G.gc, 0, none⟩ = some (.pointer (some ⟨G.gd, 0, none⟩)) := h.box.cell 0
    rw [hd] at p2
    have hfz := hfr.rows.frozen (f * 4 + 2)
    have A1 := Hd.mk hu
    have A2 := Hd.mk hd
    have A3 := Hd.mk hblk
    clear hu hd hblk
    go_enter Tryz.func149, Tryz.ntmps149
    go_wp2_with fail
    go_still_tail 12, (by kernel_rfl)
    go_wp2_with fail
    have hdv : IsDev w.drew G.gd G.gi blocks bytes c.D c.r c.s := h.dev
    have hby : BytesAt w.drew (gb f) 0 (c.fr f).bs := hfr.bytes f hf A1.out
    refine (dev_write hdv (c.fr f).block A3.out.1 (gb f) 0 (cb f) (c.fr f).bs hby A3.out.2).mono ?_
    rintro e w1 ⟨rfl, hd1, hk1⟩
    have hk1' : Keeps (fun k => k = G.gd ∨ k = G.gi) w w1 := (Keeps.refl (fun _ => False) w).drew.trans hk1 (fun _ _ h => h.elim) (fun _ _ h => h)
    clear hk1
    have hgfS : ¬ (G.gf = G.gd ∨ G.gf = G.gi) := by
      rintro (e | e)
      · exact tag_ne t.f t.d (by decide) e
      · exact tag_ne t.f t.i (by decide) e
    have hR1 := hfr.rows.keep hk1' hgfS
    have p2' : w1.cell? ⟨G.gf, f * 4 + 2, none⟩ = some (.bool true) := (World.cell?_of_block (hk1'.block G.gf hfr.rows.lt hgfS)).trans p2
    have hfz' := hR1.frozen (f * 4 + 2)
    go_wp2
    refine bodyPost_end (results_none rfl _ _ _) rfl ?_
    generalize hw2 : w1.setCell ⟨G.gf, f * 4 + 2, none⟩ (.bool false) = w2
    have hk2 : Keeps (fun k => k = G.gf) w1 w2 := by rw [← hw2]; exact (Keeps.refl (fun k => k = G.gf) w1).setCell (fun _ => rfl) _
    have hR2 := hR1.set_ (f * 4 + 2) (.bool false)
    rw [hw2, frF_dirty hf] at hR2
    have hk : Keeps (fun k => k = G.gd ∨ k = G.gi ∨ k = G.gf) w w2 := hk1'.trans hk2 (fun _ _ e => e.imp id .inl) (fun _ _ e => .inr (.inr e))
    have hS : ∀ k, (k = G.gd ∨ k = G.gi ∨ k = G.gf) → CFoot G k := by
      rintro k (e | e | e)
      · exact .inl e
      · exact .inr (.inl e)
      · exact .inr (.inr (.inr (.inl e)))
    refine ⟨rfl, ?_, hk.mono fun k _ e => hS k e⟩
    unfold backC
    rw [if_pos A2.out]
    have hi := h.inv.setFr f { c.fr f with dirty := false } hf rfl rfl Iff.rfl rfl A1.out
    have hinv : CInv F blocks bytes hole { Sg.setFr c f { c.fr f with dirty := false } with D := updD c.D (c.fr f).block (c.fr f).bs, s := c.s + 1 } := ⟨hi.hF, hi.at_, hi.emp, hi.empN, hi.ord, hi.blk, hi.idle⟩
    refine ⟨hd1.keep hk2 (tag_ne t.d t.f (by decide)) (tag_ne t.i t.f (by decide)), h.box.keep hk ?_, ⟨gb, cb, hR2, ?_, ?_, ?_⟩, h.map.keep (hk.block _ (tag_lt t.m) ?_), own_keep h.emp (hk.block _ (tag_lt t.e) ?_), h.cap, h.chain.keep hk ?_ ?_, hinv⟩
    · rintro (e | e | e)
      · exact tag_ne t.c t.d (by decide) e
      · exact tag_ne t.c t.i (by decide) e
      · exact tag_ne t.c t.f (by decide) e
    · intro a ha hua
      have hua' : (c.fr a).used = true := by
        by_cases e : a = f
        · subst e; exact A1.out
        · simpa [Sg.setFr, upd, e] using hua
      have e1 : (upd c.fr f { c.fr f with dirty := false } a).bs = (c.fr a).bs := by
        by_cases e : a = f
        · subst e; simp [upd]
        · simp [upd, e]
      show BytesAt w2 (gb a) 0 (upd c.fr f { c.fr f with dirty := false } a).bs
      rw [e1]
      obtain ⟨cs, hb⟩ := hfr.byt a ha hua'
      exact (hfr.bytes a ha hua').keep (hk.block _ hb.lt fun e => hfr.not_foot t ha hua' (hS _ e))
    · intro a ha hua
      have hua' : (c.fr a).used = true := by
        by_cases e : a = f
        · subst e; exact A1.out
        · simpa [Sg.setFr, upd, e] using hua
      obtain ⟨cs, hb⟩ := hfr.byt a ha hua'
      exact ⟨cs, hb.keep hk fun e => hfr.not_foot t ha hua' (hS _ e)⟩
    · intro a ha hua
      have hua' : (c.fr a).used = true := by
        by_cases e : a = f
        · subst e; exact A1.out
        · simpa [Sg.setFr, upd, e] using hua
      exact hfr.ne a ha hua'
    · rintro (e | e | e)
      · exact tag_ne t.m t.d (by decide) e
      · exact tag_ne t.m t.i (by decide) e
      · exact tag_ne t.m t.f (by decide) e
    · rintro (e | e | e)
      · exact tag_ne t.e t.d (by decide) e
      · exact tag_ne t.e t.i (by decide) e
      · exact tag_ne t.e t.f (by decide) e
    · rintro (e | e | e)
      · exact tag_ne t.ch t.d (by decide) e
      · exact tag_ne t.ch t.i (by decide) e
      · exact tag_ne t.ch t.f (by decide) e
    · rintro (e | e | e)
      · exact tag_ne t.l t.d (by decide) e
      · exact tag_ne t.l t.i (by decide) e
      · exact tag_ne t.l t.f (by decide) e
  · have hd' : (c.fr f).dirty = false := by simpa using hd
    rw [hd'] at p2
    have A2 := Hd.mk hd
    clear hd hd' hu hblk
    go_enter Tryz.func149, Tryz.ntmps149
    go_wp2
    refine bodyPost_end (results_none rfl _ _ _) rfl ⟨rfl, ?_, Keeps.refl _ w⟩
    unfold backC
    rw [if_neg A2.out]
    exact h


/-- leave: a frame is empty. -/
def leaveC (c : Cs) (f : Nat) : Cs := { c with fr := upd c.fr f Fr.zero, at_ := setAt c.at_ (c.fr f).block none, order := c.order.erase f, empty := c.empty ++ [f] }

theorem Tryz.infoInt : (Tryz.prog.info? 3).map (fun i => (i.zero, i.size, i.bytes)) = some (some (.int .i64 0), 1, 8) := by kernel_rfl
theorem erase_mid {p s : List Nat} {f : Nat} (hn : (p ++ f :: s).Nodup) : (p ++ f :: s).erase f = p ++ s := by
  have hp : f ∉ p := fun h => (List.nodup_append.1 hn).2.2 f h f (by simp) rfl
  rw [List.erase_append_right _ hp, List.erase_cons_head]

theorem CInv.leave (h : CInv F blocks bytes hole c) (f : Nat) (hf : f < F) (hu : (c.fr f).used = true) (hh : hole ≠ some f) (hn : c.order.Nodup) : CInv F blocks bytes hole (leaveC c f) := by
  have hfe : f ∉ c.empty := fun hm => by have := ((h.emp f).1 hm).2.1; rw [hu] at this; cases this
  refine ⟨h.hF, fun i g => ?_, fun g => ?_, ?_, fun g => ?_, fun g hg => ?_, fun g hg => ?_⟩
  · show setAt c.at_ (c.fr f).block none i = some g ↔ g < F ∧ (upd c.fr f Fr.zero g).used = true ∧ (upd c.fr f Fr.zero g).block = i
    unfold setAt
    by_cases e : g = f
    · subst e
      rw [upd_same]
      constructor
      · intro hx
        split at hx
        · cases hx
        · rename_i hne
          exact absurd ((h.at_ i g).1 hx).2.2.symm hne
      · rintro ⟨_, hx, _⟩; cases hx
    · rw [upd_other _ _ e]
      constructor
      · intro hx
        split at hx
        · cases hx
        · exact (h.at_ i g).1 hx
      · intro hx
        rw [if_neg]
        · exact (h.at_ i g).2 hx
        · rintro rfl
          have h1 := (h.at_ _ g).2 hx
          have h2 := (h.at_ (c.fr f).block f).2 ⟨hf, hu, rfl⟩
          rw [h1] at h2; injection h2 with h2; exact e h2
  · show g ∈ c.empty ++ [f] ↔ g < F ∧ (upd c.fr f Fr.zero g).used = false ∧ hole ≠ some g
    rw [List.mem_append, h.emp g]
    by_cases e : g = f
    · subst e
      rw [upd_same]
      exact ⟨fun _ => ⟨hf, rfl, hh⟩, fun _ => .inr (by simp)⟩
    · rw [upd_other _ _ e]
      simp [e]
  · show (c.empty ++ [f]).Nodup
    exact List.nodup_append.2 ⟨h.empN, by simp, fun x hx y hy => by simp at hy; subst hy; rintro rfl; exact hfe hx⟩
  · show g ∈ c.order.erase f ↔ g < F ∧ (upd c.fr f Fr.zero g).used = true ∧ (upd c.fr f Fr.zero g).pins = 0
    rw [hn.mem_erase_iff, h.ord g]
    by_cases e : g = f
    · subst e
      rw [upd_same]
      exact ⟨fun hx => absurd rfl hx.1, fun hx => by cases hx.2.1⟩
    · rw [upd_other _ _ e]
      simp [e]
  · have hg : (upd c.fr f Fr.zero g).used = true := hg
    show (upd c.fr f Fr.zero g).block < blocks ∧ (upd c.fr f Fr.zero g).bs.length = bytes
    by_cases e : g = f
    · subst e; rw [upd_same] at hg; cases hg
    · rw [upd_other _ _ e] at hg ⊢; exact h.blk g hg
  · have hg : (upd c.fr f Fr.zero g).used = false := hg
    show upd c.fr f Fr.zero g = Fr.zero
    by_cases e : g = f
    · subst e; rw [upd_same]
    · rw [upd_other _ _ e] at hg ⊢; exact h.idle g hg

set_option maxRecDepth 100000 in
set_option maxHeartbeats 400000 in
theorem cache_leave (h : IsCache w G F blocks bytes hole c) (f : Nat) (hf : f < F) (hu : (c.fr f).used = true) (hp : (c.fr f).pins = 0) (hh : hole ≠ some f) (hel : c.empty.length < F) :
    Calls Tryz.prog 167 #[.pointer (some ⟨G.gc, 0, none⟩), .int .i64 f] w fun e w' => e = .returned (.tuple #[]) ∧ IsCache w' G F blocks bytes hole (leaveC c f) ∧ Keeps (CFoot G) w w' := by
  have t := h.tags
  obtain ⟨gb, cb, hfr⟩ := h.frames
  have hF2 := h.inv.hF.2
  have hblk := (h.inv.blk f hu).1
  have hbk : blocks ≤ 65536 := h.dev.2.2.2.1
  obtain ⟨p0, p1, p2, p3⟩ := hfr.cells hf
  rw [if_pos hu] at p1
  obtain ⟨p, s, hps⟩ := List.append_of_mem ((h.inv.ord f).2 ⟨hf, hu, hp⟩)
  have hch := h.chain
  rw [hps] at hch
  have hnd : (p ++ f :: s).Nodup := by obtain ⟨_, _, _, hr, _⟩ := hch; exact hr.nodup
  have c1 : w.cell? ⟨G.gc, 1, none⟩ = some (.slice (some ⟨G.gf, 0, none⟩) F F) := h.box.cell 1
  have c2 : w.cell? ⟨G.gc, 2, none⟩ = some (.map (some G.gm)) := h.box.cell 2
  have A0 := Hd.mk hps
  have A1 := Hd.mk hu
  have A2 := Hd.mk hp
  have A3 := Hd.mk hblk
  clear hu hp hblk hps
  go_enter Tryz.func167, Tryz.ntmps167
  go_wp2_with fail
  go_still_tail 12, (by kernel_rfl)
  have hmp : IsMap32 w.drew G.gm c.at_ := h.map
  go_wp2_with (refine wpList_map_del rfl _ _ rfl G.gm c.at_ hmp (c.fr f).block (by have := A3.out; omega) rfl rfl ?_)
  intro w1 hm1 hk1
  have hk1' : Keeps (fun k => k = G.gm) w w1 := (Keeps.refl (fun _ => False) w).drew.trans hk1 (fun _ _ h => h.elim) (fun _ _ h => h)
  clear hk1
  have N := t.nes
  have c4 : w1.cell? ⟨G.gc, 4, none⟩ = some (.pointer (some ⟨G.gch, 0, none⟩)) := (h.box.keep hk1' (by simp [N])).cell 4
  have hch1 := hch.keep hk1' (by simp [N]) (by simp [N])
  clear N
  go_wp2_with fail
  refine (chain_cut_in f hch1).mono ?_
  rintro e w2 ⟨rfl, hch2, hk2⟩
  have hk12 : Keeps (fun k => k = G.gm ∨ k = G.gch ∨ k = G.gl) w w2 := hk1'.trans hk2 (fun _ _ e => .inl e) (fun _ _ e => .inr e)
  have N := t.nes
  have hB2 := h.box.keep hk12 (by simp [N])
  have hR2 := hfr.rows.keep hk12 (by simp [N])
  have hE2 := own_keep h.emp (hk12.block _ (tag_lt t.e) (by simp [N]))
  have n1 : G.gf ≠ G.gc := by simp [N]
  have n2 : G.ge ≠ G.gf := by simp [N]
  clear N
  have c1' : w2.cell? ⟨G.gc, 1, none⟩ = some (.slice (some ⟨G.gf, 0, none⟩) F F) := hB2.cell 1
  have c3' : w2.cell? ⟨G.gc, 3, none⟩ = some (.slice (some ⟨G.ge, 0, none⟩) c.empty.length G.cap) := hB2.cell 3
  have z3 := hB2.frozen 3
  have zf : ∀ k, w2.frozen? ⟨G.gf, k, none⟩ = false := fun k => hR2.frozen k
  have q0 : w2.cell? ⟨G.gf, f * 4, none⟩ = some (.int .u32 (c.fr f).block) := (hR2.cell _).trans (grid_at (r := 0) _ hf (by omega))
  have q1 : w2.cell? ⟨G.gf, f * 4 + 1, none⟩ = some (.slice (some ⟨gb f, 0, none⟩) bytes (cb f)) := (World.cell?_of_block (hk12.block _ hfr.rows.lt (by have N := t.nes; simp [N]))).trans p1
  have q2 : w2.cell? ⟨G.gf, f * 4 + 2, none⟩ = some (.bool (c.fr f).dirty) := (hR2.cell _).trans (grid_at (r := 2) _ hf (by omega))
  have q3 : w2.cell? ⟨G.gf, f * 4 + 3, none⟩ = some (.int .i64 (c.fr f).pins) := (hR2.cell _).trans (grid_at (r := 3) _ hf (by omega))
  clear p0 p1 p2 p3 c1 c2 c4
  have X1 := Hd.mk hk1'
  have X2 := Hd.mk hk12
  have X3 := Hd.mk hE2
  have X4 := Hd.mk hh
  have hk2' := hk2
  clear hk1' hk12 hk2 hE2 hh
  obtain ⟨i0, hi, hz0, hz1, hz2⟩ := info_parts' Tryz.infoInt
  go_wp2_with (at_builtin; refine wpList_append_fits _ rfl (.tmp 33) (.tmp 35) 185 rfl 0 3 i0 1 ?h1 ?h2 ?h4 G.ge c.empty.length G.cap (natv c.empty) ?hs ?ho ⟨w2.heap.size, 0, none⟩ 1 1 [.int .i64 f] ?hx ?hn ?c1 ?c2 ?c3 ?_)
  case h1 => exact Tryz.underlying185
  case h2 => exact hi
  case h4 => exact hz1
  case hs => rfl
  case hx => rfl
  case hn => rfl
  case ho =>
    refine own_keep X3.out ?_
    refine (Below.heap_alloc _ _ _ ?_).trans ?_
    · simpa [World.setCell] using tag_lt (own_tag X3.out)
    · exact (Below.heap_setCell _ _ _ _ n2).trans ((Below.heap_setCell _ _ _ _ n2).trans ((Below.heap_setCell _ _ _ _ n2).trans (Below.heap_setCell _ _ _ _ n2)))
  case c1 => exact cell_one_at (by simp [World.setCell])
  case c2 => simp [Value.oneCell']
  case c3 => have := h.cap; omega
  intro w3 hown3 hg3
  have hk23 : Keeps (fun k => k = G.gf ∨ k = G.ge) w2 w3 := ((((((Keeps.refl (fun k => k = G.gf ∨ k = G.ge) w2).setCell (fun _ => .inl rfl) _).setCell (fun _ => .inl rfl) _).setCell (fun _ => .inl rfl) _).setCell (fun _ => .inl rfl) _).alloc _).grown hg3 (fun k e _ => by injection e with e; exact .inr e.symm)
  have hR3 := ((((hR2.set_ (f * 4) (.int .u32 0)).set_ (f * 4 + 1) (.slice none 0 0)).set_ (f * 4 + 2) (.bool false)).set_ (f * 4 + 3) (.int .i64 0)).alloc (.cells #[.int .i64 (f : Nat)] 3) |>.grown hg3 (by intro e; injection e with e; exact n2 e.symm)
  have eR := frF_all (fr := c.fr) (gb := gb) (cb := cb) (bytes := bytes) hf Fr.zero (gb f) (cb f)
  have N := t.nes
  have hB3 := hB2.keep hk23 (by simp [N])
  have c3'' : w3.cell? ⟨G.gc, 3, none⟩ = some (.slice (some ⟨G.ge, 0, none⟩) c.empty.length G.cap) := hB3.cell 3
  have z3' := hB3.frozen 3
  have hcell3 : (cells G F c.empty.length).setIfInBounds 3 (.slice (some ⟨G.ge, 0, none⟩) (c.empty.length + 1) G.cap) = cells G F (leaveC c f).empty.length := by simp [cells, leaveC]
  have Y1 := Hd.mk hk23
  have Y2 := Hd.mk eR
  have Y3 := Hd.mk hcell3
  have Y4 := Hd.mk N
  have Y5 := Hd.mk hown3
  clear hk23 eR hcell3 N hown3 c1' c3' z3 zf q0 q1 q2 q3
  go_wp2
  refine bodyPost_end (results_none rfl _ _ _) rfl ?_
  generalize hw4 : w3.setCell ⟨G.gc, 3, none⟩ (.slice (some ⟨G.ge, 0, none⟩) (c.empty.length + 1) G.cap) = w4
  have N := Y4.out
  have hk34 : Keeps (fun k => k = G.gc) w3 w4 := by rw [← hw4]; exact (Keeps.refl (fun k => k = G.gc) w3).setCell (fun _ => rfl) _
  have hk24 : Keeps (fun k => k = G.gf ∨ k = G.ge ∨ k = G.gc) w2 w4 := Y1.out.trans hk34 (fun _ _ e => e.imp id .inl) (fun _ _ e => .inr (.inr e))
  have hk14 : Keeps (fun k => k = G.gch ∨ k = G.gl ∨ k = G.gf ∨ k = G.ge ∨ k = G.gc) w1 w4 := hk2'.trans hk24 (fun _ _ e => e.imp id .inl) (fun _ _ e => .inr (.inr e))
  have hk : Keeps (CFoot G) w w4 := by
    refine X1.out.trans hk14 (fun _ _ e => ?_) (fun _ _ e => ?_)
    · subst e; simp [CFoot]
    · rcases e with rfl | rfl | rfl | rfl | rfl <;> simp [CFoot]
  have hk0 : Keeps (fun k => k = G.gm ∨ k = G.gch ∨ k = G.gl ∨ k = G.gf ∨ k = G.ge ∨ k = G.gc) w w4 := X1.out.trans hk14 (fun _ _ e => .inl e) (fun _ _ e => .inr e)
  have hR3' : Blk w3 G.gf 190 (grid 4 F (frF bytes (upd c.fr f Fr.zero) (upd gb f (gb f)) (upd cb f (cb f)))) := by rw [← Y2.out]; exact hR3
  have hB4 := hB3.set_ 3 (.slice (some ⟨G.ge, 0, none⟩) (c.empty.length + 1) G.cap)
  rw [hw4, Y3.out] at hB4
  have hused : ∀ a, ((leaveC c f).fr a).used = true → a ≠ f ∧ (c.fr a).used = true ∧ (leaveC c f).fr a = c.fr a := by
    intro a ha
    have ha' : (upd c.fr f Fr.zero a).used = true := ha
    by_cases e : a = f
    · subst e; rw [upd_same] at ha'; cases ha'
    · rw [upd_other _ _ e] at ha'; exact ⟨e, ha', upd_other _ _ e⟩
  have hnot : ∀ a, a < F → (c.fr a).used = true → ¬ (gb a = G.gm ∨ gb a = G.gch ∨ gb a = G.gl ∨ gb a = G.gf ∨ gb a = G.ge ∨ gb a = G.gc) := by
    intro a ha hu e
    refine hfr.not_foot t ha hu ?_
    rcases e with e | e | e | e | e | e <;> rw [e] <;> simp [CFoot]
  have hord : (leaveC c f).order = p ++ s := by
    show c.order.erase f = p ++ s
    rw [A0.out]; exact erase_mid hnd
  refine ⟨rfl, ⟨h.dev.keep hk0 (by simp [N]) (by simp [N]), hB4, ⟨upd gb f (gb f), upd cb f (cb f), hR3'.keep hk34 (by simp [N]), ?_, ?_, ?_⟩, hm1.keep (hk14.block _ hm1.lt (by simp [N])), ?_, h.cap, ?_, ?_⟩, hk⟩
  · intro a ha hua
    obtain ⟨e, hu, e2⟩ := hused a hua
    rw [upd_other _ _ e, e2]
    obtain ⟨cs, hb⟩ := hfr.byt a ha hu
    exact (hfr.bytes a ha hu).keep (hk0.block _ hb.lt (hnot a ha hu))
  · intro a ha hua
    obtain ⟨e, hu, e2⟩ := hused a hua
    rw [upd_other _ _ e]
    obtain ⟨cs, hb⟩ := hfr.byt a ha hu
    exact ⟨cs, hb.keep hk0 (hnot a ha hu)⟩
  · intro a ha hua
    obtain ⟨e, hu, e2⟩ := hused a hua
    rw [upd_other _ _ e]
    exact hfr.ne a ha hu
  · have h1 : (leaveC c f).empty.length = c.empty.length + 1 := by simp [leaveC]
    have h2 : natv (leaveC c f).empty = natv c.empty ++ [.int .i64 (f : Nat)] := by simp [leaveC, natv]
    rw [h1, h2]
    exact own_keep Y5.out (hk34.block _ (tag_lt (own_tag Y5.out)) (by simp [N]))
  · rw [hord]
    exact hch2.keep hk24 (by simp [N]) (by simp [N])
  · exact h.inv.leave f hf A1.out X4.out (by rw [A0.out]; exact hnd)

end
end Go.Proofs.Sg
/-! The cache's room. -/
namespace Go.Proofs.Sg
open Go.RowKit

section
variable {w w' : World} {G : Ids} {F blocks bytes : Nat} {c : Cs}

/-- What room leaves: a frame f that was empty, or the last one in the row, its block written if it was dirty. -/
def RoomOf (c : Cs) (f : Nat) (c' : Cs) : Prop :=
  (∃ e, c.empty = e ++ [f] ∧ c' = { c with empty := e }) ∨ (c.empty = [] ∧ ∃ o, c.order = o ++ [f] ∧ c' = { leaveC (backC c f) f with empty := [] })

theorem CInv.pop {c : Cs} {e : List Nat} {f : Nat} (h : CInv F blocks bytes none c) (he : c.empty = e ++ [f]) : CInv F blocks bytes (some f) { c with empty := e } := by
  have hn := h.empN
  rw [he] at hn
  have hfe : f ∉ e := fun hm => (List.nodup_append.1 hn).2.2 f hm f (by simp) rfl
  refine ⟨h.hF, h.at_, fun g => ?_, (List.nodup_append.1 hn).1, h.ord, h.blk, h.idle⟩
  have hg := h.emp g
  rw [he] at hg
  show g ∈ e ↔ _
  constructor
  · intro hm
    have := hg.1 (by simp [hm])
    refine ⟨this.1, this.2.1, fun e1 => ?_⟩
    injection e1 with e1; subst e1; exact hfe hm
  · rintro ⟨h1, h2, h3⟩
    have := hg.2 ⟨h1, h2, by simp⟩
    rcases List.mem_append.1 this with h4 | h4
    · exact h4
    · simp at h4; subst h4; exact absurd rfl h3

theorem cache_popped {w : World} {e : List Nat} {f : Nat} (h : IsCache w G F blocks bytes none c) (he : c.empty = e ++ [f]) :
    IsCache (w.setCell ⟨G.gc, 3, none⟩ (.slice (some ⟨G.ge, 0, none⟩) e.length G.cap)) G F blocks bytes (some f) { c with empty := e } := by
  have t := h.tags
  have N := t.nes
  generalize hw2 : w.setCell ⟨G.gc, 3, none⟩ (.slice (some ⟨G.ge, 0, none⟩) e.length G.cap) = w2
  have hk : Keeps (fun k => k = G.gc) w w2 := by rw [← hw2]; exact (Keeps.refl (fun k => k = G.gc) w).setCell (fun _ => rfl) _
  obtain ⟨gb, cb, hf⟩ := h.frames
  have hB := h.box.set_ 3 (.slice (some ⟨G.ge, 0, none⟩) e.length G.cap)
  rw [hw2] at hB
  refine ⟨h.dev.keep hk (by simp [N]) (by simp [N]), ?_, ⟨gb, cb, hf.keep hk (by simp [N]) fun a h1 h2 e => hf.not_foot t h1 h2 (by rw [e]; simp [CFoot])⟩, h.map.keep (hk.block _ (tag_lt t.m) (by simp [N])), ?_, h.cap, h.chain.keep hk (by simp [N]) (by simp [N]), h.inv.pop he⟩
  · have e1 : (cells G F c.empty.length).setIfInBounds 3 (.slice (some ⟨G.ge, 0, none⟩) e.length G.cap) = cells G F e.length := by simp [cells]
    rw [e1] at hB
    exact hB
  · have ho := h.emp
    rw [he] at ho
    have ho2 : w.ownsRow 0 3 1 (.slice (some ⟨G.ge, 0, none⟩) (e.length + 1) G.cap) (e.length + 1) (natv e ++ [.int .i64 (f : Nat)]) := by
      have : natv (e ++ [f]) = natv e ++ [.int .i64 (f : Nat)] := by simp [natv]
      rw [this] at ho
      simpa using ho
    exact own_keep (ownsRow_pop (by simp [natv]) ho2) (hk.block _ (tag_lt t.e) (by simp [N]))

set_option maxRecDepth 100000 in
set_option maxHeartbeats 1000000 in
theorem cache_room_pop {e : List Nat} {f : Nat} (h : IsCache w G F blocks bytes none c) (he : c.empty = e ++ [f]) :
    Calls Tryz.prog 127 #[.pointer (some ⟨G.gc, 0, none⟩)] w fun en w' => en = .returned (.tuple #[.int .i64 (f : Nat), .bool true]) ∧ IsCache w' G F blocks bytes (some f) { c with empty := e } ∧ Keeps (CFoot G) w w' := by
  have hl : c.empty.length = e.length + 1 := by rw [he]; simp
  have c3 : w.cell? ⟨G.gc, 3, none⟩ = some (.slice (some ⟨G.ge, 0, none⟩) (e.length + 1) G.cap) := (h.box.cell 3).trans (by simp [cells, hl])
  have z3 := h.box.frozen 3
  have hcap := h.cap
  have hle : e.length + 1 ≤ G.cap := by
    rcases h.emp.2 with ⟨h1, _⟩ | ⟨g, cap, cur, h1, _, _, h2, _⟩
    · cases h1
    · injection h1 with _ _ h1; omega
  have hel : (natv c.empty)[e.length]? = some (.int .i64 (f : Nat)) := by rw [he]; simp [natv]
  have l0 : w.cell? ⟨G.ge, e.length, none⟩ = some (.int .i64 (f : Nat)) := (own_cell h.emp (by omega)).trans hel
  have hmax : e.length ≤ 64 := by
    have hn := h.inv.empN
    have hsub := List.Nodup.length_le_of_subset hn (l₂ := List.range F) (fun x hx => by simpa using ((h.inv.emp x).1 hx).1)
    rw [List.length_range, hl] at hsub
    have := h.inv.hF.2; omega
  have A0 := Hd.mk he
  have A1 := Hd.mk hl
  have A2 := Hd.mk hel
  clear he hl hel
  have t := h.tags
  go_enter Tryz.func127, Tryz.ntmps127
  go_wp2
  go_ret2
  exact ⟨rfl, cache_popped h A0.out, (Keeps.refl (CFoot G) w).setCell (fun _ => .inr (.inr (.inl rfl))) _⟩

theorem backC_parts (c : Cs) (f : Nat) : (backC c f).empty = c.empty ∧ (backC c f).order = c.order ∧ ((backC c f).fr f).used = (c.fr f).used ∧ ((backC c f).fr f).pins = (c.fr f).pins ∧ ((backC c f).fr f).block = (c.fr f).block ∧ (backC c f).at_ = c.at_ := by
  unfold backC
  split
  · simp [setFr, upd]
  · simp

set_option maxRecDepth 100000 in
set_option maxHeartbeats 1000000 in
theorem cache_room_last {o : List Nat} {f : Nat} (h : IsCache w G F blocks bytes none c) (he : c.empty = []) (ho : c.order = o ++ [f]) :
    Calls Tryz.prog 127 #[.pointer (some ⟨G.gc, 0, none⟩)] w fun en w' => en = .returned (.tuple #[.int .i64 (f : Nat), .bool true]) ∧ IsCache w' G F blocks bytes (some f) { leaveC (backC c f) f with empty := [] } ∧ Keeps (CFoot G) w w' := by
  have hf := (h.inv.ord f).1 (by rw [ho]; simp)
  have c3 : w.cell? ⟨G.gc, 3, none⟩ = some (.slice (some ⟨G.ge, 0, none⟩) 0 G.cap) := (h.box.cell 3).trans (by simp [cells, he])
  have c4 : w.cell? ⟨G.gc, 4, none⟩ = some (.pointer (some ⟨G.gch, 0, none⟩)) := h.box.cell 4
  have c1 : w.cell? ⟨G.gc, 1, none⟩ = some (.slice (some ⟨G.gf, 0, none⟩) F F) := h.box.cell 1
  have hch := h.chain
  rw [ho] at hch
  have hF2 := h.inv.hF.2
  have hfF := hf.1
  have A0 := Hd.mk he
  have A1 := Hd.mk ho
  have A2 := Hd.mk hf
  clear he ho hf
  go_enter Tryz.func127, Tryz.ntmps127
  go_wp2_with fail
  refine (chain_last_some hch).mono ?_
  rintro e w' ⟨rfl, q, rfl⟩
  go_wp2_with fail
  have hC := h.drewN q
  refine (cache_back hC f hfF A2.out.2.1).mono ?_
  rintro en w1 ⟨rfl, hc1, hk1⟩
  go_wp2_with fail
  obtain ⟨b1, b2, b3, b4, b5, b6⟩ := backC_parts c f
  refine (cache_leave hc1 f hfF (by rw [b3]; exact A2.out.2.1) (by rw [b4]; exact A2.out.2.2) (by simp) (by rw [b1, A0.out]; simp; omega)).mono ?_
  rintro en w2 ⟨rfl, hc2, hk2⟩
  have hce : (leaveC (backC c f) f).empty = [] ++ [f] := by simp [leaveC, b1, A0.out]
  have c3' : w2.cell? ⟨G.gc, 3, none⟩ = some (.slice (some ⟨G.ge, 0, none⟩) 1 G.cap) := (hc2.box.cell 3).trans (by simp [cells, hce])
  have z3 := hc2.box.frozen 3
  have hcap := h.cap
  have hel : (natv (leaveC (backC c f) f).empty)[0]? = some (.int .i64 (f : Nat)) := by rw [hce]; simp [natv]
  have l0 : w2.cell? ⟨G.ge, 0, none⟩ = some (.int .i64 (f : Nat)) := (own_cell hc2.emp (by rw [hce]; simp)).trans hel
  have A3 := Hd.mk hce
  have A4 := Hd.mk hc2
  have A5 := Hd.mk hk2
  have A6 := Hd.mk hk1
  have A7 := Hd.mk b1
  clear hce hel hc2 hk2 hk1 hc1 b1 b2 b3 b4 b5 b6 hC
  go_wp2_with fail
  go_ret2
  refine ⟨rfl, cache_popped A4.out A3.out, ?_⟩
  exact (((Keeps.refl (CFoot G) w).drewN q).trans (A6.out.trans A5.out (fun _ _ e => e) (fun _ _ e => e)) (fun _ _ e => e) (fun _ _ e => e)).setCell (fun _ => .inr (.inr (.inl rfl))) _

end
end Go.Proofs.Sg
/-! The cache's put. -/
namespace Go.Proofs.Sg
open Go.RowKit

section
variable {w w' : World} {G : Ids} {F blocks bytes : Nat} {hole : Option Nat} {c : Cs}

/-- put: frame f holds x. -/
def putC (c : Cs) (f : Nat) (x : Fr) : Cs := { c with fr := upd c.fr f x, at_ := setAt c.at_ x.block (some f), order := c.order.erase f }

theorem CInv.put (h : CInv F blocks bytes hole c) (f : Nat) (x : Fr) (hf : f < F) (hn : c.order.Nodup) (hx : x.used = true) (hp : x.pins ≠ 0) (hb : x.block < blocks ∧ x.bs.length = bytes)
    (hc : (hole = some f ∧ (c.fr f).used = false ∧ c.at_ x.block = none) ∨ (hole = none ∧ (c.fr f).used = true ∧ (c.fr f).block = x.block)) : CInv F blocks bytes none (putC c f x) := by
  have hat : ∀ g, c.at_ x.block = some g → g = f := by
    intro g hg
    rcases hc with ⟨_, _, h3⟩ | ⟨_, h2, h3⟩
    · rw [h3] at hg; cases hg
    · have := (h.at_ x.block f).2 ⟨hf, h2, h3⟩
      rw [this] at hg; injection hg with hg; exact hg.symm
  refine ⟨h.hF, fun i g => ?_, fun g => ?_, h.empN, fun g => ?_, fun g hg => ?_, fun g hg => ?_⟩
  · show setAt c.at_ x.block (some f) i = some g ↔ g < F ∧ (upd c.fr f x g).used = true ∧ (upd c.fr f x g).block = i
    unfold setAt
    by_cases e : g = f
    · subst e
      rw [upd_same]
      constructor
      · intro hi
        split at hi
        · rename_i e2; exact ⟨hf, hx, e2.symm⟩
        · rename_i e2
          have h4 := (h.at_ i g).1 hi
          rcases hc with ⟨_, h2, _⟩ | ⟨_, _, h3⟩
          · rw [h2] at h4; cases h4.2.1
          · exact absurd (h3.symm.trans h4.2.2).symm e2
      · rintro ⟨_, _, h4⟩
        rw [if_pos h4.symm]
    · rw [upd_other _ _ e]
      constructor
      · intro hi
        split at hi
        · injection hi with hi; exact absurd hi.symm e
        · exact (h.at_ i g).1 hi
      · intro hi
        rw [if_neg]
        · exact (h.at_ i g).2 hi
        · rintro rfl
          exact e (hat g ((h.at_ _ g).2 hi))
  · show g ∈ c.empty ↔ g < F ∧ (upd c.fr f x g).used = false ∧ (none : Option Nat) ≠ some g
    rw [h.emp g]
    by_cases e : g = f
    · subst e
      rw [upd_same, hx]
      constructor
      · rintro ⟨_, h2, h3⟩
        rcases hc with ⟨h4, _, _⟩ | ⟨_, h4, _⟩
        · exact absurd h4 h3
        · rw [h4] at h2; cases h2
      · rintro ⟨_, h2, _⟩; cases h2
    · rw [upd_other _ _ e]
      constructor
      · rintro ⟨h1, h2, _⟩; exact ⟨h1, h2, by simp⟩
      · rintro ⟨h1, h2, _⟩
        refine ⟨h1, h2, ?_⟩
        rcases hc with ⟨h4, _, _⟩ | ⟨h4, _, _⟩
        · rw [h4]; intro h5; injection h5 with h5; exact e h5.symm
        · rw [h4]; simp
  · show g ∈ c.order.erase f ↔ g < F ∧ (upd c.fr f x g).used = true ∧ (upd c.fr f x g).pins = 0
    rw [hn.mem_erase_iff, h.ord g]
    by_cases e : g = f
    · subst e
      rw [upd_same]
      exact ⟨fun hx => absurd rfl hx.1, fun hx => absurd hx.2.2 hp⟩
    · rw [upd_other _ _ e]
      simp [e]
  · have hg : (upd c.fr f x g).used = true := hg
    show (upd c.fr f x g).block < blocks ∧ (upd c.fr f x g).bs.length = bytes
    by_cases e : g = f
    · subst e; rw [upd_same]; exact hb
    · rw [upd_other _ _ e] at hg ⊢; exact h.blk g hg
  · have hg : (upd c.fr f x g).used = false := hg
    show upd c.fr f x g = Fr.zero
    by_cases e : g = f
    · subst e; rw [upd_same, hx] at hg; cases hg
    · rw [upd_other _ _ e] at hg ⊢; exact h.idle g hg

/-- Cut of a frame, in the row or not. -/
theorem chain_cut {w : World} {gc gl n : Nat} {o : List Nat} (i : Nat) (hi : i < n) (h : IsChain w gc gl n o) :
    Calls Tryz.prog 126 #[.pointer (some ⟨gc, 0, none⟩), .int .i64 i] w fun e w' => (∃ r : Int, e = .returned (.int .i64 r)) ∧ IsChain w' gc gl n (o.erase i) ∧ Keeps (fun k => k = gc ∨ k = gl) w w' := by
  have hnd : o.Nodup := by obtain ⟨_, _, _, hr, _⟩ := h; exact hr.nodup
  by_cases hm : i ∈ o
  · obtain ⟨p, s, rfl⟩ := List.append_of_mem hm
    refine (chain_cut_in i h).mono ?_
    rintro e w' ⟨rfl, h1, h2⟩
    rw [erase_mid hnd]
    exact ⟨⟨_, rfl⟩, h1, h2⟩
  · refine (chain_cut_no i hi hm h).mono ?_
    rintro e w' ⟨rfl, rfl⟩
    rw [List.erase_of_not_mem hm]
    exact ⟨⟨_, rfl⟩, h, Keeps.refl _ _⟩

set_option maxRecDepth 100000 in
set_option maxHeartbeats 1600000 in
theorem cache_put (h : IsCache w G F blocks bytes hole c) (f i g cc : Nat) (bs : List UInt8) (d : Bool) (p : Int) (hf : f < F) (hi : i < blocks) (hl : bs.length = bytes)
    (hg : BytesAt w g 0 bs) (hgb : ∃ cs, Blk w g 5 cs) (hgi : g ≠ G.gi)
    (hc : (hole = some f ∧ (c.fr f).used = false ∧ c.at_ i = none) ∨ (hole = none ∧ (c.fr f).used = true ∧ (c.fr f).block = i)) :
    Calls Tryz.prog 128 #[.pointer (some ⟨G.gc, 0, none⟩), .int .i64 f, .agg #[.int .u32 i, .slice (some ⟨g, 0, none⟩) bytes cc, .bool d, .int .i64 p]] w fun e w' => e = .returned (.tuple #[]) ∧ IsCache w' G F blocks bytes none (putC c f ⟨i, bs, d, 1, true⟩) ∧ Keeps (CFoot G) w w' := by
  have t := h.tags
  obtain ⟨gb, cb, hfr⟩ := h.frames
  have hF2 := h.inv.hF.2
  have hbk : blocks ≤ 65536 := h.dev.2.2.2.1
  have hnd : c.order.Nodup := by obtain ⟨_, _, _, hr, _⟩ := h.chain; exact hr.nodup
  have c1 : w.cell? ⟨G.gc, 1, none⟩ = some (.slice (some ⟨G.gf, 0, none⟩) F F) := h.box.cell 1
  have c2 : w.cell? ⟨G.gc, 2, none⟩ = some (.map (some G.gm)) := h.box.cell 2
  have c4 : w.cell? ⟨G.gc, 4, none⟩ = some (.pointer (some ⟨G.gch, 0, none⟩)) := h.box.cell 4
  have hcl := tag_lt t.c
  have hfl := tag_lt t.f
  have hne : G.gf ≠ G.gc := by have N := t.nes; simp [N]
  obtain ⟨p0, p1, p2, p3⟩ := hfr.cells hf
  have zf : ∀ k, w.frozen? ⟨G.gf, k, none⟩ = false := fun k => hfr.rows.frozen k
  have A0 := Hd.mk hc
  have A1 := Hd.mk hl
  have A2 := Hd.mk hg
  clear hc hl hg
  go_enter Tryz.func128, Tryz.ntmps128
  go_wp2_with fail
  go_region
  go_wp2_with fail
  generalize hW1 : (((((w.setCell ⟨G.gf, f * 4, none⟩ (.int .u32 i)).setCell ⟨G.gf, f * 4 + 1, none⟩ (.slice (some ⟨g, 0, none⟩) bytes cc)).setCell ⟨G.gf, f * 4 + 2, none⟩ (.bool d)).setCell ⟨G.gf, f * 4 + 3, none⟩ (.int .i64 1)).alloc (.cells #[.int .u32 i, .slice (some ⟨g, 0, none⟩) bytes cc, .bool d, .int .i64 1] 190)).drew = W1
  have hk1 : Keeps (fun k => k = G.gf) w W1 := by
    rw [← hW1]
    exact ((((((Keeps.refl (fun k => k = G.gf) w).setCell (fun _ => rfl) _).setCell (fun _ => rfl) _).setCell (fun _ => rfl) _).setCell (fun _ => rfl) _).alloc _).drew
  have hbox : Blk W1 w.heap.size 190 #[.int .u32 i, .slice (some ⟨g, 0, none⟩) bytes cc, .bool d, .int .i64 1] := by
    have hb := Blk.new ((((w.setCell ⟨G.gf, f * 4, none⟩ (.int .u32 i)).setCell ⟨G.gf, f * 4 + 1, none⟩ (.slice (some ⟨g, 0, none⟩) bytes cc)).setCell ⟨G.gf, f * 4 + 2, none⟩ (.bool d)).setCell ⟨G.gf, f * 4 + 3, none⟩ (.int .i64 1)) 190 #[.int .u32 i, .slice (some ⟨g, 0, none⟩) bytes cc, .bool d, .int .i64 1]
    rw [← hW1]
    have e : ((((w.setCell ⟨G.gf, f * 4, none⟩ (.int .u32 i)).setCell ⟨G.gf, f * 4 + 1, none⟩ (.slice (some ⟨g, 0, none⟩) bytes cc)).setCell ⟨G.gf, f * 4 + 2, none⟩ (.bool d)).setCell ⟨G.gf, f * 4 + 3, none⟩ (.int .i64 1)).heap.size = w.heap.size := by simp [World.setCell]
    rw [e] at hb
    exact hb.drew
  have hR1 : Blk W1 G.gf 190 (grid 4 F (frF bytes (upd c.fr f ⟨i, bs, d, 1, true⟩) (upd gb f g) (upd cb f cc))) := by
    have h1 := ((((hfr.rows.set_ (f * 4) (.int .u32 i)).set_ (f * 4 + 1) (.slice (some ⟨g, 0, none⟩) bytes cc)).set_ (f * 4 + 2) (.bool d)).set_ (f * 4 + 3) (.int .i64 1)).alloc (.cells #[.int .u32 i, .slice (some ⟨g, 0, none⟩) bytes cc, .bool d, .int .i64 1] 190)
    rw [← hW1, ← frF_all hf ⟨i, bs, d, 1, true⟩ g cc]
    exact h1.drew
  have N := t.nes
  have c2' : W1.cell? ⟨G.gc, 2, none⟩ = some (.map (some G.gm)) := (World.cell?_of_block (hk1.block _ hcl (by simp [N]))).trans c2
  have b0 : W1.cell? ⟨w.heap.size, 0, none⟩ = some (.int .u32 i) := hbox.cell 0
  have hm1 : IsMap32 W1.drew G.gm c.at_ := h.map.keep (hk1.block _ (tag_lt t.m) (by simp [N]))
  have hc1 : IsChain W1 G.gch G.gl F c.order := h.chain.keep hk1 (by simp [N]) (by simp [N])
  have c4' : W1.cell? ⟨G.gc, 4, none⟩ = some (.pointer (some ⟨G.gch, 0, none⟩)) := (World.cell?_of_block (hk1.block _ hcl (by simp [N]))).trans c4
  have Y1 := Hd.mk hW1
  have Y2 := Hd.mk N
  clear hW1 N c1 c2 c4 p0 p1 p2 p3 zf
  go_still_tail 7, (by kernel_rfl)
  go_wp2_with (refine wpList_map_put rfl _ _ _ rfl G.gm c.at_ hm1 i (by omega) f (by omega) rfl rfl rfl ?_)
  intro w2 hm2 hk2
  have hk2' : Keeps (fun k => k = G.gm) W1 w2 := (Keeps.refl (fun _ => False) W1).drew.trans hk2 (fun _ _ h => h.elim) (fun _ _ h => h)
  have N := Y2.out
  have c4'' : w2.cell? ⟨G.gc, 4, none⟩ = some (.pointer (some ⟨G.gch, 0, none⟩)) := (World.cell?_of_block (hk2'.block _ (Nat.lt_of_lt_of_le hcl hk1.size) (by simp [N]))).trans c4'
  have hc2 := hc1.keep hk2' (by simp [N]) (by simp [N])
  clear N hk2
  have Y3 := Hd.mk hk2'
  clear hk2'
  go_wp2_with fail
  refine (chain_cut f hf hc2).mono ?_
  rintro e w3 ⟨⟨r, rfl⟩, hc3, hk3⟩
  go_wp2_with fail
  refine bodyPost_end (results_none rfl _ _ _) rfl ?_
  have N := Y2.out
  have hk13 : Keeps (fun k => k = G.gm ∨ k = G.gch ∨ k = G.gl) W1 w3 := Y3.out.trans hk3 (fun _ _ e => .inl e) (fun _ _ e => .inr e)
  have hk03 : Keeps (fun k => k = G.gf ∨ k = G.gm ∨ k = G.gch ∨ k = G.gl) w w3 := hk1.trans hk13 (fun _ _ e => .inl e) (fun _ _ e => .inr e)
  have hk : Keeps (CFoot G) w w3 := hk03.mono fun k _ e => by rcases e with rfl | rfl | rfl | rfl <;> simp [CFoot]
  obtain ⟨cs0, hgb0⟩ := hgb
  have hgne : ¬ (g = G.gf ∨ g = G.gm ∨ g = G.gch ∨ g = G.gl) := by
    have hg := hgb0.tag
    rintro (e | e | e | e)
    · exact tag_ne hg t.f (by decide) e
    · exact tag_ne hg t.m (by decide) e
    · exact tag_ne hg t.ch (by decide) e
    · exact tag_ne hg t.l (by decide) e
  have hnot : ∀ a, a < F → (c.fr a).used = true → ¬ (gb a = G.gf ∨ gb a = G.gm ∨ gb a = G.gch ∨ gb a = G.gl) := by
    intro a ha hu e
    refine hfr.not_foot t ha hu ?_
    rcases e with e | e | e | e <;> rw [e] <;> simp [CFoot]
  refine ⟨rfl, ⟨h.dev.keep hk03 (by simp [N]) (by simp [N]), h.box.keep hk03 (by simp [N]), ⟨upd gb f g, upd cb f cc, hR1.keep hk13 (by simp [N]), ?_, ?_, ?_⟩, hm2.keep (hk3.block _ hm2.lt (by simp [N])), own_keep h.emp (hk03.block _ (tag_lt t.e) (by simp [N])), h.cap, hc3, ?_⟩, hk⟩
  · intro a ha hua
    show BytesAt w3 (upd gb f g a) 0 (upd c.fr f ⟨i, bs, d, 1, true⟩ a).bs
    by_cases e : a = f
    · subst e
      rw [upd_same, upd_same]
      exact A2.out.keep (hk03.block _ hgb0.lt hgne)
    · have hua' : (upd c.fr f ⟨i, bs, d, 1, true⟩ a).used = true := hua
      rw [upd_other _ _ e] at hua'
      rw [upd_other _ _ e, upd_other _ _ e]
      obtain ⟨cs, hb⟩ := hfr.byt a ha hua'
      exact (hfr.bytes a ha hua').keep (hk03.block _ hb.lt (hnot a ha hua'))
  · intro a ha hua
    by_cases e : a = f
    · subst e
      rw [upd_same]
      exact ⟨cs0, hgb0.keep hk03 hgne⟩
    · have hua' : (upd c.fr f ⟨i, bs, d, 1, true⟩ a).used = true := hua
      rw [upd_other _ _ e] at hua'
      rw [upd_other _ _ e]
      obtain ⟨cs, hb⟩ := hfr.byt a ha hua'
      exact ⟨cs, hb.keep hk03 (hnot a ha hua')⟩
  · intro a ha hua
    by_cases e : a = f
    · subst e
      rw [upd_same]
      exact hgi
    · have hua' : (upd c.fr f ⟨i, bs, d, 1, true⟩ a).used = true := hua
      rw [upd_other _ _ e] at hua'
      rw [upd_other _ _ e]
      exact hfr.ne a ha hua'
  · exact h.inv.put f ⟨i, bs, d, 1, true⟩ hf hnd rfl (by simp) ⟨hi, A1.out⟩ A0.out

end
end Go.Proofs.Sg
/-! The cache's Pin, Unpin, Write. -/
namespace Go.Proofs.Sg
open Go.RowKit

section
variable {w w' : World} {G : Ids} {F blocks bytes : Nat} {c : Cs}

def pinC (c : Cs) (f : Nat) : Cs := { c with fr := upd c.fr f { c.fr f with pins := (c.fr f).pins + 1 }, order := c.order.erase f }

theorem CInv.pin (h : CInv F blocks bytes none c) (f : Nat) (hf : f < F) (hu : (c.fr f).used = true) (hn : c.order.Nodup) : CInv F blocks bytes none (pinC c f) := by
  have key : ∀ a, ((upd c.fr f { c.fr f with pins := (c.fr f).pins + 1 }) a).used = (c.fr a).used ∧ ((upd c.fr f { c.fr f with pins := (c.fr f).pins + 1 }) a).block = (c.fr a).block ∧ ((upd c.fr f { c.fr f with pins := (c.fr f).pins + 1 }) a).bs = (c.fr a).bs := by
    intro a
    by_cases e : a = f
    · subst e; simp [upd]
    · simp [upd, e]
  refine ⟨h.hF, fun i g => ?_, fun g => ?_, h.empN, fun g => ?_, fun g hg => ?_, fun g hg => ?_⟩
  · show c.at_ i = some g ↔ _
    rw [h.at_ i g]; simp only [pinC, (key g).1, (key g).2.1]
  · show g ∈ c.empty ↔ _
    rw [h.emp g]; simp only [pinC, (key g).1]
  · show g ∈ c.order.erase f ↔ _
    rw [hn.mem_erase_iff, h.ord g]
    simp only [pinC, (key g).1]
    by_cases e : g = f
    · subst e; simp [upd]
    · simp [upd, e]
  · simp only [pinC, (key g).1] at hg
    simp only [pinC, (key g).2.1, (key g).2.2]
    exact h.blk g hg
  · simp only [pinC, (key g).1] at hg
    have e : g ≠ f := by rintro rfl; rw [hu] at hg; cases hg
    simp only [pinC, upd_other _ _ e]
    exact h.idle g hg

set_option maxRecDepth 100000 in
set_option maxHeartbeats 1600000 in
theorem cache_pin_in (h : IsCache w G F blocks bytes none c) (i f : Nat) (hi : i < blocks) (hf : c.at_ i = some f) (hp : (c.fr f).pins < 4611686018427387904) :
    Calls Tryz.prog 66 #[.pointer (some ⟨G.gc, 0, none⟩), .int .u32 i] w fun e w' => e = .returned (.int .i64 0) ∧ IsCache w' G F blocks bytes none (pinC c f) ∧ Keeps (CFoot G) w w' := by
  have t := h.tags
  obtain ⟨gb, cb, hfr⟩ := h.frames
  have hat := (h.inv.at_ i f).1 hf
  have hfF := hat.1
  have hF2 := h.inv.hF.2
  have hbk : blocks ≤ 65536 := h.dev.2.2.2.1
  have hnd : c.order.Nodup := by obtain ⟨_, _, _, hr, _⟩ := h.chain; exact hr.nodup
  have c1 : w.cell? ⟨G.gc, 1, none⟩ = some (.slice (some ⟨G.gf, 0, none⟩) F F) := h.box.cell 1
  have c2 : w.cell? ⟨G.gc, 2, none⟩ = some (.map (some G.gm)) := h.box.cell 2
  have c4 : w.cell? ⟨G.gc, 4, none⟩ = some (.pointer (some ⟨G.gch, 0, none⟩)) := h.box.cell 4
  obtain ⟨p0, p1, p2, p3⟩ := hfr.cells hfF
  have zf := hfr.rows.frozen (f * 4 + 3)
  have hcl := tag_lt t.c
  have hfl := tag_lt t.f
  have hne : G.gf ≠ G.gc := by have N := t.nes; simp [N]
  have A0 := Hd.mk hf
  have A1 := Hd.mk hat
  clear hf hat p0 p1 p2
  go_enter Tryz.func66, Tryz.ntmps66
  go_wp2_with fail
  refine (cache_there h i hi).mono ?_
  rintro e w' ⟨rfl, q, rfl⟩
  have hm : IsMap32 (w.drewN q) G.gm c.at_ := h.map
  go_wp2_with (refine wpList_look_some rfl _ _ rfl G.gm c.at_ hm i (by omega) f A0.out rfl rfl ?_)
  generalize hW1 : (w.drewN q).setCell ⟨G.gf, f * 4 + 3, none⟩ (.int .i64 ((c.fr f).pins + 1)) = W1
  have hk1 : Keeps (fun k => k = G.gf) w W1 := by
    rw [← hW1]
    exact ((Keeps.refl (fun k => k = G.gf) w).drewN q).setCell (fun _ => rfl) _
  have hR1 : Blk W1 G.gf 190 (grid 4 F (frF bytes (upd c.fr f { c.fr f with pins := (c.fr f).pins + 1 }) gb cb)) := by
    rw [← hW1, ← frF_pins hfF]
    exact (hfr.rows.drewN q).set_ _ _
  have N := t.nes
  have hc1 : IsChain W1 G.gch G.gl F c.order := h.chain.keep hk1 (by simp [N]) (by simp [N])
  have Y1 := Hd.mk hW1
  have Y2 := Hd.mk N
  clear hW1 N
  refine (chain_cut f hfF hc1).mono ?_
  rintro e w3 ⟨⟨r, rfl⟩, hc3, hk3⟩
  go_wp2_with fail
  go_ret
  have N := Y2.out
  have hk03 : Keeps (fun k => k = G.gf ∨ k = G.gch ∨ k = G.gl) w w3 := hk1.trans hk3 (fun _ _ e => .inl e) (fun _ _ e => .inr e)
  have hk : Keeps (CFoot G) w w3 := hk03.mono fun k _ e => by rcases e with rfl | rfl | rfl <;> simp [CFoot]
  have hnot : ∀ a, a < F → (c.fr a).used = true → ¬ (gb a = G.gf ∨ gb a = G.gch ∨ gb a = G.gl) := by
    intro a ha hu e
    refine hfr.not_foot t ha hu ?_
    rcases e with e | e | e <;> rw [e] <;> simp [CFoot]
  have hsame : ∀ a, ((pinC c f).fr a).used = (c.fr a).used ∧ ((pinC c f).fr a).bs = (c.fr a).bs := by
    intro a
    by_cases e : a = f
    · subst e; simp [pinC, upd]
    · simp [pinC, upd, e]
  refine ⟨rfl, ⟨h.dev.keep hk03 (by simp [N]) (by simp [N]), h.box.keep hk03 (by simp [N]), ⟨gb, cb, hR1.keep hk3 (by simp [N]), ?_, ?_, ?_⟩, h.map.keep (hk03.block _ (tag_lt t.m) (by simp [N])), own_keep h.emp (hk03.block _ (tag_lt t.e) (by simp [N])), h.cap, hc3, ?_⟩, hk⟩
  · intro a ha hua
    rw [(hsame a).1] at hua
    rw [(hsame a).2]
    obtain ⟨cs, hb⟩ := hfr.byt a ha hua
    exact (hfr.bytes a ha hua).keep (hk03.block _ hb.lt (hnot a ha hua))
  · intro a ha hua
    rw [(hsame a).1] at hua
    obtain ⟨cs, hb⟩ := hfr.byt a ha hua
    exact ⟨cs, hb.keep hk03 (hnot a ha hua)⟩
  · intro a ha hua
    rw [(hsame a).1] at hua
    exact hfr.ne a ha hua
  · exact h.inv.pin f hfF A1.out.2.1 hnd

theorem IsCache.dev_step {hole : Option Nat} {D' : Nat → List UInt8} {r' s' : Nat} (h : IsCache w G F blocks bytes hole c) (hd : IsDev w' G.gd G.gi blocks bytes D' r' s') (hk : Keeps (fun k => k = G.gd ∨ k = G.gi) w w') : IsCache w' G F blocks bytes hole { c with D := D', r := r', s := s' } := by
  have t := h.tags
  have N := t.nes
  obtain ⟨gb, cb, hf⟩ := h.frames
  refine ⟨hd, h.box.keep hk (by simp [N]), ⟨gb, cb, hf.keep hk (by simp [N]) fun a h1 h2 e => hf.not_foot t h1 h2 ?_⟩, h.map.keep (hk.block _ (tag_lt t.m) (by simp [N])), own_keep h.emp (hk.block _ (tag_lt t.e) (by simp [N])), h.cap, h.chain.keep hk (by simp [N]) (by simp [N]), ⟨h.inv.hF, h.inv.at_, h.inv.emp, h.inv.empN, h.inv.ord, h.inv.blk, h.inv.idle⟩⟩
  rcases e with e | e <;> rw [e] <;> simp [CFoot]

/-- How a block that is in no frame is read into one: from the state that room leaves. -/
def readC (c : Cs) (f i : Nat) : Cs := putC { c with r := c.r + 1 } f ⟨i, c.D i, false, 1, true⟩

theorem room_at {c c' : Cs} {f : Nat} (h : IsCache w G F blocks bytes none c) (hr : RoomOf c f c') : f < F ∧ (c'.fr f).used = false ∧ ∀ i, c.at_ i = none → c'.at_ i = none := by
  rcases hr with ⟨e, he, rfl⟩ | ⟨he, o, ho, rfl⟩
  · have := (h.inv.emp f).1 (by rw [he]; simp)
    exact ⟨this.1, this.2.1, fun i hi => hi⟩
  · have := (h.inv.ord f).1 (by rw [ho]; simp)
    refine ⟨this.1, by simp [leaveC, upd, Fr.zero], fun i hi => ?_⟩
    show setAt (backC c f).at_ ((backC c f).fr f).block none i = none
    unfold setAt
    split
    · rfl
    · rw [(backC_parts c f).2.2.2.2.2]; exact hi

theorem cache_room (h : IsCache w G F blocks bytes none c) (hne : c.empty ≠ [] ∨ c.order ≠ []) :
    Calls Tryz.prog 127 #[.pointer (some ⟨G.gc, 0, none⟩)] w fun en w' => ∃ f c', en = .returned (.tuple #[.int .i64 (f : Nat), .bool true]) ∧ RoomOf c f c' ∧ IsCache w' G F blocks bytes (some f) c' ∧ Keeps (CFoot G) w w' := by
  rcases List.eq_nil_or_concat c.empty with he | ⟨e, f, he⟩
  · rcases List.eq_nil_or_concat c.order with ho | ⟨o, f, ho⟩
    · rcases hne with h1 | h1
      · exact absurd he h1
      · exact absurd ho h1
    · rw [List.concat_eq_append] at ho
      exact (cache_room_last h he ho).mono fun en w' ⟨h1, h2, h3⟩ => ⟨f, _, h1, .inr ⟨he, o, ho, rfl⟩, h2, h3⟩
  · rw [List.concat_eq_append] at he
    exact (cache_room_pop h he).mono fun en w' ⟨h1, h2, h3⟩ => ⟨f, _, h1, .inl ⟨e, he, rfl⟩, h2, h3⟩

set_option maxRecDepth 100000 in
set_option maxHeartbeats 1600000 in
theorem cache_pin_new (h : IsCache w G F blocks bytes none c) (i : Nat) (hi : i < blocks) (hf : c.at_ i = none) (hne : c.empty ≠ [] ∨ c.order ≠ []) :
    Calls Tryz.prog 66 #[.pointer (some ⟨G.gc, 0, none⟩), .int .u32 i] w fun e w' => e = .returned (.int .i64 0) ∧ ∃ f c', RoomOf c f c' ∧ IsCache w' G F blocks bytes none (readC c' f i) ∧ Keeps (CFoot G) w w' := by
  have t := h.tags
  have hbk : blocks ≤ 65536 := h.dev.2.2.2.1
  have c2 : w.cell? ⟨G.gc, 2, none⟩ = some (.map (some G.gm)) := h.box.cell 2
  have A0 := Hd.mk hf
  have A1 := Hd.mk hne
  clear hf hne
  go_enter Tryz.func66, Tryz.ntmps66
  go_wp2_with fail
  refine (cache_there h i hi).mono ?_
  rintro e w' ⟨rfl, q, rfl⟩
  have hm : IsMap32 (w.drewN q) G.gm c.at_ := h.map
  go_wp2_with (refine wpList_look_none rfl _ _ rfl G.gm c.at_ hm i (by omega) A0.out rfl rfl ?_)
  refine (cache_room (h.drewN q) A1.out).mono ?_
  rintro e w1 ⟨f, c', rfl, hr, hc1, hk1⟩
  have hra := room_at h hr
  have c0 : w1.cell? ⟨G.gc, 0, none⟩ = some (.pointer (some ⟨G.gd, 0, none⟩)) := hc1.box.cell 0
  have A2 := Hd.mk hr
  have A3 := Hd.mk hra
  clear hr hra
  go_wp2_with fail
  refine (dev_read hc1.dev i hi).mono ?_
  rintro e w2 ⟨g, cc, rfl, hg1, hg2, hg3, hg4, hd2, hk2⟩
  have hc2 := hc1.dev_step hd2 (hk2.mono fun k _ e => .inl e)
  have t1 := hc1.tags
  have hgi : g ≠ G.gi := by
    have := tag_lt t1.i; omega
  have hlD : (c'.D i).length = bytes := hc1.dev.2.2.2.2.2.2 i hi
  have hcall := cache_put hc2 f i g cc (c'.D i) false 0 A3.out.1 hi hlD hg4 hg3 hgi (.inl ⟨rfl, A3.out.2.1, A3.out.2.2 i A0.out⟩)
  have A4 := Hd.mk hk1
  have A5 := Hd.mk hk2
  have A6 := Hd.mk hcall
  clear hk1 hk2 hcall hlD hgi t1 hg1 hg2 hg3 hg4 hd2 hc2
  go_wp2_with fail
  refine A6.out.mono ?_
  rintro e w3 ⟨rfl, hc3, hk3⟩
  go_wp2_with fail
  go_ret
  refine ⟨rfl, f, c', A2.out, hc3, ?_⟩
  refine ((Keeps.refl (CFoot G) w).drewN q).trans (A4.out.trans (U := CFoot G) (A5.out.trans (U := CFoot G) hk3 (fun _ _ e => .inl e) (fun _ _ e => e)) (fun _ _ e => e) (fun _ _ e => e)) (fun _ _ e => e) (fun _ _ e => e)

end
end Go.Proofs.Sg
/-! The cache's Unpin. -/
namespace Go.Proofs.Sg
open Go.RowKit

section
variable {w w' : World} {G : Ids} {F blocks bytes : Nat} {c : Cs}

def unpinC (c : Cs) (f : Nat) : Cs := { c with fr := upd c.fr f { c.fr f with pins := (c.fr f).pins - 1 }, order := if (c.fr f).pins = 1 then f :: c.order else c.order }

theorem CInv.unpin (h : CInv F blocks bytes none c) (f : Nat) (hf : f < F) (hu : (c.fr f).used = true) (hp : 0 < (c.fr f).pins) : CInv F blocks bytes none (unpinC c f) := by
  have key : ∀ a, ((upd c.fr f { c.fr f with pins := (c.fr f).pins - 1 }) a).used = (c.fr a).used ∧ ((upd c.fr f { c.fr f with pins := (c.fr f).pins - 1 }) a).block = (c.fr a).block ∧ ((upd c.fr f { c.fr f with pins := (c.fr f).pins - 1 }) a).bs = (c.fr a).bs := by
    intro a
    by_cases e : a = f
    · subst e; simp [upd]
    · simp [upd, e]
  refine ⟨h.hF, fun i g => ?_, fun g => ?_, h.empN, fun g => ?_, fun g hg => ?_, fun g hg => ?_⟩
  · show c.at_ i = some g ↔ _
    rw [h.at_ i g]; simp only [unpinC, (key g).1, (key g).2.1]
  · show g ∈ c.empty ↔ _
    rw [h.emp g]; simp only [unpinC, (key g).1]
  · show g ∈ (if (c.fr f).pins = 1 then f :: c.order else c.order) ↔ g < F ∧ (upd c.fr f { c.fr f with pins := (c.fr f).pins - 1 } g).used = true ∧ (upd c.fr f { c.fr f with pins := (c.fr f).pins - 1 } g).pins = 0
    rw [(key g).1]
    by_cases e : g = f
    · subst e
      rw [upd_same]
      split
      · rename_i h1; simp [hf, hu, h1]
      · rename_i h1
        rw [h.ord g]
        constructor
        · rintro ⟨_, _, h2⟩; omega
        · rintro ⟨_, _, h2⟩
          have h2 : (c.fr g).pins - 1 = 0 := h2
          omega
    · rw [upd_other _ _ e, ← h.ord g]
      split
      · simp [e]
      · rfl
  · simp only [unpinC, (key g).1] at hg
    simp only [unpinC, (key g).2.1, (key g).2.2]
    exact h.blk g hg
  · simp only [unpinC, (key g).1] at hg
    have e : g ≠ f := by rintro rfl; rw [hu] at hg; cases hg
    simp only [unpinC, upd_other _ _ e]
    exact h.idle g hg

theorem unpin_same (c : Cs) (f a : Nat) : ((unpinC c f).fr a).used = (c.fr a).used ∧ ((unpinC c f).fr a).bs = (c.fr a).bs := by
  by_cases e : a = f
  · subst e; simp [unpinC, upd]
  · simp [unpinC, upd, e]

set_option maxRecDepth 100000 in
set_option maxHeartbeats 1600000 in
theorem cache_unpin (h : IsCache w G F blocks bytes none c) (i f : Nat) (hi : i < blocks) (hf : c.at_ i = some f) (hp0 : 0 < (c.fr f).pins) (hp : (c.fr f).pins < 4611686018427387904) :
    Calls Tryz.prog 68 #[.pointer (some ⟨G.gc, 0, none⟩), .int .u32 i] w fun e w' => e = .returned (.int .i64 0) ∧ IsCache w' G F blocks bytes none (unpinC c f) ∧ Keeps (CFoot G) w w' := by
  have t := h.tags
  obtain ⟨gb, cb, hfr⟩ := h.frames
  have hat := (h.inv.at_ i f).1 hf
  have hfF := hat.1
  have hF2 := h.inv.hF.2
  have hbk : blocks ≤ 65536 := h.dev.2.2.2.1
  have c2 : w.cell? ⟨G.gc, 2, none⟩ = some (.map (some G.gm)) := h.box.cell 2
  have c4 : w.cell? ⟨G.gc, 4, none⟩ = some (.pointer (some ⟨G.gch, 0, none⟩)) := h.box.cell 4
  obtain ⟨p, hpe⟩ : ∃ p, (c.fr f).pins = p + 1 := ⟨(c.fr f).pins - 1, by omega⟩
  obtain ⟨p0, p1, p2, p3⟩ := hfr.cells hfF
  have p3' : w.cell? ⟨G.gf, f * 4 + 3, none⟩ = some (.int .i64 ((p : Int) + 1)) := p3.trans (by rw [hpe]; rfl)
  have zf := hfr.rows.frozen (f * 4 + 3)
  have hcl := tag_lt t.c
  have hfl := tag_lt t.f
  have hne : G.gf ≠ G.gc := by have N := t.nes; simp [N]
  have hpin := cache_pinned h i f (by omega) hf hp0
  have hpb : p < 4611686018427387904 := by omega
  have A0 := Hd.mk hf
  have A1 := Hd.mk hat
  have A2 := Hd.mk hpin
  have A3 := Hd.mk hpe
  have hno : f ∉ c.order := fun hm => by have := ((h.inv.ord f).1 hm).2.2; omega
  clear hf hat p0 p1 p2 p3 hpin hpe hp0 hp
  by_cases hz : p = 0
  · subst hz
    go_enter Tryz.func68, Tryz.ntmps68
    go_wp2_with fail
    refine A2.out.mono ?_
    rintro e w' ⟨rfl, q, rfl⟩
    go_wp2_with fail
    generalize hW1 : (w.drewN q).setCell ⟨G.gf, f * 4 + 3, none⟩ (.int .i64 0) = W1
    have hk1 : Keeps (fun k => k = G.gf) w W1 := by
      rw [← hW1]
      exact ((Keeps.refl (fun k => k = G.gf) w).drewN q).setCell (fun _ => rfl) _
    have hR1 : Blk W1 G.gf 190 (grid 4 F (frF bytes (upd c.fr f { c.fr f with pins := (c.fr f).pins - 1 }) gb cb)) := by
      rw [← hW1, ← frF_pins hfF, A3.out]
      exact (hfr.rows.drewN q).set_ _ _
    have N := t.nes
    have hc1 : IsChain W1.drew G.gch G.gl F c.order := h.chain.keep hk1.drew (by simp [N]) (by simp [N])
    have c2' : W1.cell? ⟨G.gc, 2, none⟩ = some (.map (some G.gm)) := (World.cell?_of_block (hk1.block _ hcl (by simp [N]))).trans c2
    have c4' : W1.cell? ⟨G.gc, 4, none⟩ = some (.pointer (some ⟨G.gch, 0, none⟩)) := (World.cell?_of_block (hk1.block _ hcl (by simp [N]))).trans c4
    have hm1 : IsMap32 W1 G.gm c.at_ := h.map.keep (hk1.block _ (tag_lt t.m) (by simp [N]))
    have hm1' : IsMap32 W1.drew G.gm c.at_ := hm1
    have hlk := look_run hm1' (i := i) (by omega) A0.out
    have Y1 := Hd.mk hW1
    have Y2 := Hd.mk N
    clear hW1 N c2 c4 p3' zf
    go_still_tail 10, (by kernel_rfl)
    go_wp2_with fail
    refine (chain_front_new f hfF hno hc1).mono ?_
    rintro e w3 ⟨rfl, hc3, hk3⟩
    go_wp2_with fail
    go_ret
    have hk3' : Keeps (fun k => k = G.gch ∨ k = G.gl) W1 w3 := (Keeps.refl (fun _ => False) W1).drew.trans hk3 (fun _ _ h => h.elim) (fun _ _ h => h)
    have N := Y2.out
    have hk03 : Keeps (fun k => k = G.gf ∨ k = G.gch ∨ k = G.gl) w w3 := hk1.trans hk3' (fun _ _ e => .inl e) (fun _ _ e => .inr e)
    have hk : Keeps (CFoot G) w w3 := hk03.mono fun k _ e => by rcases e with rfl | rfl | rfl <;> simp [CFoot]
    have hnot : ∀ a, a < F → (c.fr a).used = true → ¬ (gb a = G.gf ∨ gb a = G.gch ∨ gb a = G.gl) := by
      intro a ha hu e
      refine hfr.not_foot t ha hu ?_
      rcases e with e | e | e <;> rw [e] <;> simp [CFoot]
    have hord : (unpinC c f).order = f :: c.order := by simp [unpinC, A3.out]
    refine ⟨rfl, ⟨h.dev.keep hk03 (by simp [N]) (by simp [N]), h.box.keep hk03 (by simp [N]), ⟨gb, cb, hR1.keep hk3' (by simp [N]), ?_, ?_, ?_⟩, h.map.keep (hk03.block _ (tag_lt t.m) (by simp [N])), own_keep h.emp (hk03.block _ (tag_lt t.e) (by simp [N])), h.cap, by rw [hord]; exact hc3, ?_⟩, hk⟩
    · intro a ha hua
      rw [(unpin_same c f a).1] at hua
      rw [(unpin_same c f a).2]
      obtain ⟨cs, hb⟩ := hfr.byt a ha hua
      exact (hfr.bytes a ha hua).keep (hk03.block _ hb.lt (hnot a ha hua))
    · intro a ha hua
      rw [(unpin_same c f a).1] at hua
      obtain ⟨cs, hb⟩ := hfr.byt a ha hua
      exact ⟨cs, hb.keep hk03 (hnot a ha hua)⟩
    · intro a ha hua
      rw [(unpin_same c f a).1] at hua
      exact hfr.ne a ha hua
    · exact h.inv.unpin f hfF A1.out.2.1 (by rw [A3.out]; omega)
  · have hz' : ((p : Int) == 0) = false := by simp; omega
    go_enter Tryz.func68, Tryz.ntmps68
    go_wp2_with fail
    refine A2.out.mono ?_
    rintro e w' ⟨rfl, q, rfl⟩
    go_wp2_with fail
    go_ret
    generalize hW1 : (w.drewN q).setCell ⟨G.gf, f * 4 + 3, none⟩ (.int .i64 (p : Nat)) = W1
    have hk1 : Keeps (fun k => k = G.gf) w W1 := by
      rw [← hW1]
      exact ((Keeps.refl (fun k => k = G.gf) w).drewN q).setCell (fun _ => rfl) _
    have hR1 : Blk W1 G.gf 190 (grid 4 F (frF bytes (upd c.fr f { c.fr f with pins := (c.fr f).pins - 1 }) gb cb)) := by
      rw [← hW1, ← frF_pins hfF, A3.out, Nat.add_sub_cancel]
      exact (hfr.rows.drewN q).set_ (f * 4 + 3) (.int .i64 (p : Nat))
    have N := t.nes
    have hk : Keeps (CFoot G) w W1 := hk1.mono fun k _ e => by rw [e]; simp [CFoot]
    have hnot : ∀ a, a < F → (c.fr a).used = true → ¬ (gb a = G.gf) := by
      intro a ha hu e
      refine hfr.not_foot t ha hu ?_
      rw [e]; simp [CFoot]
    have hord : (unpinC c f).order = c.order := by
      have hn1 : ¬ (c.fr f).pins = 1 := fun e => hz (by rw [A3.out] at e; exact Nat.succ.inj e)
      show (if (c.fr f).pins = 1 then f :: c.order else c.order) = c.order
      rw [if_neg hn1]
    refine ⟨rfl, ⟨h.dev.keep hk1 (by simp [N]) (by simp [N]), h.box.keep hk1 (by simp [N]), ⟨gb, cb, hR1, ?_, ?_, ?_⟩, h.map.keep (hk1.block _ (tag_lt t.m) (by simp [N])), own_keep h.emp (hk1.block _ (tag_lt t.e) (by simp [N])), h.cap, by rw [hord]; exact h.chain.keep hk1 (by simp [N]) (by simp [N]), ?_⟩, hk⟩
    · intro a ha hua
      rw [(unpin_same c f a).1] at hua
      rw [(unpin_same c f a).2]
      obtain ⟨cs, hb⟩ := hfr.byt a ha hua
      exact (hfr.bytes a ha hua).keep (hk1.block _ hb.lt (hnot a ha hua))
    · intro a ha hua
      rw [(unpin_same c f a).1] at hua
      obtain ⟨cs, hb⟩ := hfr.byt a ha hua
      exact ⟨cs, hb.keep hk1 (hnot a ha hua)⟩
    · intro a ha hua
      rw [(unpin_same c f a).1] at hua
      exact hfr.ne a ha hua
    · exact h.inv.unpin f hfF A1.out.2.1 (by rw [A3.out]; exact Nat.succ_pos p)

end
end Go.Proofs.Sg
/-! The cache's Write, Fresh, Drop. -/
namespace Go.Proofs.Sg
open Go.RowKit

section
variable {w w' : World} {G : Ids} {F blocks bytes : Nat} {c : Cs}

/-- Other bytes for a frame. -/
def writeC (c : Cs) (f : Nat) (bs : List UInt8) : Cs := setFr c f { c.fr f with bs := bs, dirty := true }

set_option maxRecDepth 100000 in
set_option maxHeartbeats 1600000 in
theorem cache_write (h : IsCache w G F blocks bytes none c) (i f : Nat) (hi : i < blocks) (hf : c.at_ i = some f) (hp0 : 0 < (c.fr f).pins) (g off cc : Nat) (bs : List UInt8) (hb : BytesAt w g off bs) (hl : bs.length = bytes) :
    Calls Tryz.prog 133 #[.pointer (some ⟨G.gc, 0, none⟩), .int .u32 i, .slice (some ⟨g, off, none⟩) bytes cc] w fun e w' => e = .returned (.int .i64 0) ∧ IsCache w' G F blocks bytes none (writeC c f bs) ∧ Keeps (CFoot G) w w' := by
  have t := h.tags
  obtain ⟨gb, cb, hfr⟩ := h.frames
  have hat := (h.inv.at_ i f).1 hf
  have hfF := hat.1
  have hF2 := h.inv.hF.2
  have hbk : blocks ≤ 65536 := h.dev.2.2.2.1
  have hby : bytes ≤ 65536 := h.dev.2.2.2.2.2.1
  have c0 : w.cell? ⟨G.gc, 0, none⟩ = some (.pointer (some ⟨G.gd, 0, none⟩)) := h.box.cell 0
  have hpin := cache_pinned h i f (by omega) hf hp0
  have hlen := (h.inv.blk f hat.2.1).2
  have A0 := Hd.mk hf
  have A1 := Hd.mk hat
  have A2 := Hd.mk hpin
  have A3 := Hd.mk hb
  have A4 := Hd.mk hl
  have A5 := Hd.mk hlen
  clear hf hat hpin hp0 hb hl hlen
  go_enter Tryz.func133, Tryz.ntmps133
  go_wp2_with fail
  refine A2.out.mono ?_
  rintro e w' ⟨rfl, q, rfl⟩
  go_wp2_with fail
  have hdv : IsDev (w.drewN q) G.gd G.gi blocks bytes c.D c.r c.s := h.dev
  refine (dev_bytes hdv).mono ?_
  rintro e w' ⟨rfl, rfl⟩
  go_wp2_with fail
  have hb1 : BytesAt (w.drewN q) g off bs := A3.out
  have hcl := clone_bytes hb1 cc (by rw [A4.out]; omega)
  rw [A4.out] at hcl
  refine hcl.mono ?_
  clear hcl hb1
  rintro e w2 ⟨g2, c2, rfl, hg1, hg2, hg3, hg4, hg5, hbl⟩
  have hbl' : Below w.heap.size w w2 := ⟨hbl.os, hbl.tape, hbl.output, hbl.size, hbl.block⟩
  have hfl := tag_lt t.f
  have hR2 : Blk w2 G.gf 190 (grid 4 F (frF bytes c.fr gb cb)) := (hbl'.block _ hfl).trans hfr.rows
  have q1 : w2.cell? ⟨G.gf, f * 4 + 1, none⟩ = some (if (c.fr f).used = true then .slice (some ⟨gb f, 0, none⟩) bytes (cb f) else .slice none 0 0) := (hR2.cell _).trans (grid_at (r := 1) _ hfF (by omega))
  have q2 : w2.cell? ⟨G.gf, f * 4 + 2, none⟩ = some (.bool (c.fr f).dirty) := (hR2.cell _).trans (grid_at (r := 2) _ hfF (by omega))
  have z1 := hR2.frozen (f * 4 + 1)
  have z2 := hR2.frozen (f * 4 + 2)
  have hfl2 := hR2.lt
  have B1 := Hd.mk hg4
  have B2 := Hd.mk hg5
  have B3 := Hd.mk hbl'
  have B4 := Hd.mk hg1
  rw [A1.out.2.1] at q1
  clear hg1 hg2 hg3 hg4 hg5 hbl hbl'
  go_wp2_with fail
  go_ret
  generalize hW1 : (w2.setCell ⟨G.gf, f * 4 + 1, none⟩ (.slice (some ⟨g2, 0, none⟩) bytes c2)).setCell ⟨G.gf, f * 4 + 2, none⟩ (.bool true) = W1
  have hk1 : Keeps (fun k => k = G.gf) w2 W1 := by
    rw [← hW1]
    exact ((Keeps.refl (fun k => k = G.gf) w2).setCell (fun _ => rfl) _).setCell (fun _ => rfl) _
  have hR1 : Blk W1 G.gf 190 (grid 4 F (frF bytes (upd c.fr f { c.fr f with bs := bs, dirty := true }) (upd gb f g2) (upd cb f c2))) := by
    have h1 := (hR2.set_ (f * 4 + 1) (.slice (some ⟨g2, 0, none⟩) bytes c2)).set_ (f * 4 + 2) (.bool true)
    rw [frF_bytes hfF A1.out.2.1, frF_dirty hfF, hW1] at h1
    have e : upd (upd c.fr f { c.fr f with bs := bs }) f { upd c.fr f { c.fr f with bs := bs } f with dirty := true } = upd c.fr f { c.fr f with bs := bs, dirty := true } := by
      funext a
      by_cases e : a = f
      · subst e; simp [upd]
      · simp [upd, e]
    rw [e] at h1
    exact h1
  clear hW1
  have N := t.nes
  have hk : Keeps (fun k => k = G.gf) w W1 := (Keeps.of_below (S := fun _ => False) B3.out).trans hk1 (fun _ _ e => e.elim) (fun _ _ e => e)
  have hkC : Keeps (CFoot G) w W1 := hk.mono fun k _ e => by rw [e]; simp [CFoot]
  have hnot : ∀ a, a < F → (c.fr a).used = true → ¬ (gb a = G.gf) := by
    intro a ha hu e
    refine hfr.not_foot t ha hu ?_
    rw [e]; simp [CFoot]
  obtain ⟨cs2, hg2⟩ := B1.out
  have hg2n : g2 ≠ G.gf := tag_ne hg2.tag hR2.tag (by decide)
  have hk' : ∀ a, a ≠ f → ((writeC c f bs).fr a) = c.fr a := fun a e => upd_other _ _ e
  refine ⟨rfl, ⟨h.dev.keep hk (by simp [N]) (by simp [N]), h.box.keep hk (by simp [N]), ⟨upd gb f g2, upd cb f c2, hR1, ?_, ?_, ?_⟩, h.map.keep (hk.block _ (tag_lt t.m) (by simp [N])), own_keep h.emp (hk.block _ (tag_lt t.e) (by simp [N])), h.cap, h.chain.keep hk (by simp [N]) (by simp [N]), ?_⟩, hkC⟩
  · intro a ha hua
    by_cases e : a = f
    · subst e
      rw [upd_same]
      show BytesAt W1 g2 0 (upd c.fr a _ a).bs
      rw [upd_same]
      exact B2.out.keep (hk1.block _ hg2.lt hg2n)
    · rw [hk' a e] at hua ⊢
      rw [upd_other _ _ e]
      obtain ⟨cs, hb⟩ := hfr.byt a ha hua
      exact (hfr.bytes a ha hua).keep (hk.block _ hb.lt (hnot a ha hua))
  · intro a ha hua
    by_cases e : a = f
    · subst e
      rw [upd_same]
      exact ⟨cs2, hg2.keep hk1 hg2n⟩
    · rw [hk' a e] at hua
      rw [upd_other _ _ e]
      obtain ⟨cs, hb⟩ := hfr.byt a ha hua
      exact ⟨cs, hb.keep hk (hnot a ha hua)⟩
  · intro a ha hua
    by_cases e : a = f
    · subst e
      rw [upd_same]
      exact fun e => by have := tag_lt t.i; have := B4.out; have h0 : (w.drewN q).heap.size = w.heap.size := rfl; rw [h0] at this; rw [e] at this; exact absurd (tag_lt t.i) (Nat.not_lt.2 this)
    · rw [hk' a e] at hua
      rw [upd_other _ _ e]
      exact hfr.ne a ha hua
  · exact h.inv.setFr f _ hfF rfl rfl Iff.rfl (A4.out.trans A5.out.symm) A1.out.2.1

end
end Go.Proofs.Sg
/-! The cache's Fresh and Drop. -/
namespace Go.Proofs.Sg
open Go.RowKit

section
variable {w w' : World} {G : Ids} {F blocks bytes : Nat} {c : Cs}

/-- A block of noughts in a frame. -/
def freshC (c : Cs) (f i bytes : Nat) : Cs := putC c f ⟨i, List.replicate bytes 0, true, 1, true⟩

theorem make_bytes (bytes : Nat) (hb : bytes ≤ 65536) (W : World) : (Instr.makeSlice 26 (.int .i64 (bytes : Nat)) (.int .i64 (bytes : Nat))).run Tryz.prog W = .ok (.slice (some ⟨W.heap.size, 0, none⟩) bytes bytes) (W.alloc (.cells (madeCells #[.int .u8 0] bytes) 5)) :=
  run_make_row' 26 5 (.int .u8 0) 1 Tryz.underlying26 Tryz.infoU8 rfl .i64 .i64 bytes (by omega) (by omega) W

theorem made_bytesAt {w : World} {g n : Nat} (h : Blk w g 5 (madeCells #[.int .u8 0] n)) : BytesAt w g 0 (List.replicate n 0) := by
  intro j hj
  rw [h.cell]
  simp at hj
  simp [madeCells, hj, Nat.mod_one, bv]

theorem CInv.room_left {hole : Option Nat} (h : CInv F blocks bytes hole c) (f : Nat) (hf : f < F) (hu : (c.fr f).used = true) : c.empty.length < F := by
  have hn : f ∉ c.empty := fun hm => by have := ((h.emp f).1 hm).2.1; rw [hu] at this; cases this
  have hsub : (f :: c.empty) ⊆ List.range F := by
    intro a ha
    rw [List.mem_range]
    rcases List.mem_cons.1 ha with e | e
    · rw [e]; exact hf
    · exact ((h.emp a).1 e).1
  have := List.Nodup.length_le_of_subset (List.nodup_cons.2 ⟨hn, h.empN⟩) hsub
  simp at this
  omega

set_option maxRecDepth 100000 in
set_option maxHeartbeats 1600000 in
theorem cache_fresh_new (h : IsCache w G F blocks bytes none c) (i : Nat) (hi : i < blocks) (hf : c.at_ i = none) (hne : c.empty ≠ [] ∨ c.order ≠ []) :
    Calls Tryz.prog 134 #[.pointer (some ⟨G.gc, 0, none⟩), .int .u32 i] w fun e w' => e = .returned (.int .i64 0) ∧ ∃ f c', RoomOf c f c' ∧ IsCache w' G F blocks bytes none (freshC c' f i bytes) ∧ Keeps (CFoot G) w w' := by
  have t := h.tags
  have hbk : blocks ≤ 65536 := h.dev.2.2.2.1
  have hby : bytes ≤ 65536 := h.dev.2.2.2.2.2.1
  have c2 : w.cell? ⟨G.gc, 2, none⟩ = some (.map (some G.gm)) := h.box.cell 2
  have hmk := make_bytes bytes hby
  have A0 := Hd.mk hf
  have A1 := Hd.mk hne
  clear hf hne
  go_enter Tryz.func134, Tryz.ntmps134
  go_wp2_with fail
  refine (cache_there h i hi).mono ?_
  rintro e w' ⟨rfl, q, rfl⟩
  have hm : IsMap32 (w.drewN q) G.gm c.at_ := h.map
  go_wp2_with (refine wpList_look_none rfl _ _ rfl G.gm c.at_ hm i (by omega) A0.out rfl rfl ?_)
  refine (cache_room (h.drewN q) A1.out).mono ?_
  rintro e w1 ⟨f, c', rfl, hr, hc1, hk1⟩
  have hra := room_at h hr
  have c0 : w1.cell? ⟨G.gc, 0, none⟩ = some (.pointer (some ⟨G.gd, 0, none⟩)) := hc1.box.cell 0
  have A2 := Hd.mk hr
  have A3 := Hd.mk hra
  have A4 := Hd.mk hk1
  clear hr hra hk1
  go_wp2_with fail
  refine (dev_bytes hc1.dev).mono ?_
  rintro e w' ⟨rfl, rfl⟩
  go_wp2_with fail
  have hka : Keeps (fun _ => False) w1 (w1.alloc (.cells (madeCells #[.int .u8 0] bytes) 5)) := (Keeps.refl _ w1).alloc _
  have hnb := Blk.new w1 5 (madeCells #[.int .u8 0] bytes)
  have hgi : w1.heap.size ≠ G.gi := fun e => absurd (tag_lt hc1.tags.i) (by omega)
  refine (cache_put (hc1.keep hka (fun _ _ e => e)) f i _ bytes (List.replicate bytes 0) true 0 A3.out.1 hi (by simp) (made_bytesAt hnb) ⟨_, hnb⟩ hgi (.inl ⟨rfl, A3.out.2.1, A3.out.2.2 i A0.out⟩)).mono ?_
  rintro e w3 ⟨rfl, hc3, hk3⟩
  go_wp2_with fail
  go_ret
  refine ⟨rfl, f, c', A2.out, hc3, ?_⟩
  exact ((Keeps.refl (CFoot G) w).drewN q).trans (A4.out.trans (U := CFoot G) (hka.trans (U := CFoot G) hk3 (fun _ _ e => e.elim) (fun _ _ e => e)) (fun _ _ e => e) (fun _ _ e => e)) (fun _ _ e => e) (fun _ _ e => e)

set_option maxRecDepth 100000 in
set_option maxHeartbeats 1600000 in
theorem cache_fresh_old (h : IsCache w G F blocks bytes none c) (i f : Nat) (hi : i < blocks) (hf : c.at_ i = some f) (hp : (c.fr f).pins = 0) :
    Calls Tryz.prog 134 #[.pointer (some ⟨G.gc, 0, none⟩), .int .u32 i] w fun e w' => e = .returned (.int .i64 0) ∧ IsCache w' G F blocks bytes none (freshC c f i bytes) ∧ Keeps (CFoot G) w w' := by
  have t := h.tags
  obtain ⟨gb, cb, hfr⟩ := h.frames
  have hbk : blocks ≤ 65536 := h.dev.2.2.2.1
  have hby : bytes ≤ 65536 := h.dev.2.2.2.2.2.1
  have hat := (h.inv.at_ i f).1 hf
  have hfF := hat.1
  have hF2 := h.inv.hF.2
  have c0 : w.cell? ⟨G.gc, 0, none⟩ = some (.pointer (some ⟨G.gd, 0, none⟩)) := h.box.cell 0
  have c1 : w.cell? ⟨G.gc, 1, none⟩ = some (.slice (some ⟨G.gf, 0, none⟩) F F) := h.box.cell 1
  have c2 : w.cell? ⟨G.gc, 2, none⟩ = some (.map (some G.gm)) := h.box.cell 2
  have p3 : w.cell? ⟨G.gf, f * 4 + 3, none⟩ = some (.int .i64 0) := by
    have := (hfr.cells hfF).2.2.2
    rw [hp] at this; exact this
  have hmk := make_bytes bytes hby
  have A0 := Hd.mk hf
  have A1 := Hd.mk hat
  clear hf hat
  go_enter Tryz.func134, Tryz.ntmps134
  go_wp2_with fail
  refine (cache_there h i hi).mono ?_
  rintro e w' ⟨rfl, q, rfl⟩
  have hm : IsMap32 (w.drewN q) G.gm c.at_ := h.map
  go_wp2_with (refine wpList_look_some rfl _ _ rfl G.gm c.at_ hm i (by omega) f A0.out rfl rfl ?_)
  have hdv : IsDev (w.drewN q) G.gd G.gi blocks bytes c.D c.r c.s := h.dev
  refine (dev_bytes hdv).mono ?_
  rintro e w' ⟨rfl, rfl⟩
  go_wp2_with fail
  have hc1 := h.drewN q
  have hka : Keeps (fun _ => False) (w.drewN q) ((w.drewN q).alloc (.cells (madeCells #[.int .u8 0] bytes) 5)) := (Keeps.refl _ (w.drewN q)).alloc _
  have hnb := Blk.new (w.drewN q) 5 (madeCells #[.int .u8 0] bytes)
  have hgi : (w.drewN q).heap.size ≠ G.gi := fun e => absurd (tag_lt hc1.tags.i) (by omega)
  have hca := hc1.keep hka (fun _ _ e => e)
  have B0 := Hd.mk hnb
  have B1 := Hd.mk hka
  have B2 := Hd.mk (cache_put hca f i _ bytes (List.replicate bytes 0) true 0 hfF hi (by simp) (made_bytesAt hnb) ⟨_, hnb⟩ hgi (.inr ⟨rfl, A1.out.2.1, A1.out.2.2⟩))
  clear hnb hka hgi hca hc1 hdv hm
  refine B2.out.mono ?_
  rintro e w3 ⟨rfl, hc3, hk3⟩
  have hk01 : Keeps (CFoot G) w (w.drewN q) := (Keeps.refl (CFoot G) w).drewN q
  have hka := B1.out
  go_wp2_with fail
  go_ret
  exact ⟨rfl, hc3, hk01.trans (U := CFoot G) (hka.trans (U := CFoot G) hk3 (fun _ _ e => e.elim) (fun _ _ e => e)) (fun _ _ e => e) (fun _ _ e => e)⟩

set_option maxRecDepth 100000 in
theorem cache_drop_none (h : IsCache w G F blocks bytes none c) (i : Nat) (hi : i < 65536) (hf : c.at_ i = none) :
    Calls Tryz.prog 111 #[.pointer (some ⟨G.gc, 0, none⟩), .int .u32 i] w fun e w' => e = .returned (.int .i64 0) ∧ ∃ q, w' = w.drewN q := by
  have c2 : w.cell? ⟨G.gc, 2, none⟩ = some (.map (some G.gm)) := h.box.cell 2
  have A0 := Hd.mk hf
  clear hf
  go_enter Tryz.func111, Tryz.ntmps111
  go_wp2_with fail
  refine (cache_none h).mono ?_
  rintro e w' ⟨rfl, rfl⟩
  go_wp2_with (refine wpList_look_none rfl _ _ rfl G.gm c.at_ h.map i (by omega) A0.out rfl rfl ?_)
  go_ret
  exact ⟨rfl, 0, rfl⟩

set_option maxRecDepth 100000 in
theorem cache_drop_some (h : IsCache w G F blocks bytes none c) (i f : Nat) (hi : i < 65536) (hf : c.at_ i = some f) (hp : (c.fr f).pins = 0) :
    Calls Tryz.prog 111 #[.pointer (some ⟨G.gc, 0, none⟩), .int .u32 i] w fun e w' => e = .returned (.int .i64 0) ∧ IsCache w' G F blocks bytes none (leaveC c f) ∧ Keeps (CFoot G) w w' := by
  obtain ⟨gb, cb, hfr⟩ := h.frames
  have hat := (h.inv.at_ i f).1 hf
  have hfF := hat.1
  have hF2 := h.inv.hF.2
  have c1 : w.cell? ⟨G.gc, 1, none⟩ = some (.slice (some ⟨G.gf, 0, none⟩) F F) := h.box.cell 1
  have c2 : w.cell? ⟨G.gc, 2, none⟩ = some (.map (some G.gm)) := h.box.cell 2
  have p3 : w.cell? ⟨G.gf, f * 4 + 3, none⟩ = some (.int .i64 0) := by
    have := (hfr.cells hfF).2.2.2
    rw [hp] at this; exact this
  have A0 := Hd.mk hf
  have A1 := Hd.mk hat
  have hel : c.empty.length < F := h.inv.room_left f hfF hat.2.1
  have hlv := Hd.mk (cache_leave h f hfF hat.2.1 hp (by simp) hel)
  clear hf hat
  go_enter Tryz.func111, Tryz.ntmps111
  go_wp2_with fail
  refine (cache_none h).mono ?_
  rintro e w' ⟨rfl, rfl⟩
  go_wp2_with (refine wpList_look_some rfl _ _ rfl G.gm c.at_ h.map i hi f A0.out rfl rfl ?_)
  refine hlv.out.mono ?_
  rintro e w1 ⟨rfl, hc1, hk1⟩
  go_wp2_with fail
  go_ret
  exact ⟨rfl, hc1, hk1⟩

end
end Go.Proofs.Sg
