/- A shelf: what its blocks hold. -/
import Derived.Test.YthkbpcnbnhiefaaGreatDoorShelf1
import Derived.Test.YthkbpcnbnhiefaaGreatDoorDec0
namespace Go.Proofs.Sg
set_option linter.unusedSimpArgs false
set_option linter.unusedVariables false
open Go.RowKit Go.Lib

structure SIds where
  gs : Nat
  G : Ids
  gp : Nat
  gr : Nat
  gw : Nat

def SFoot (S : SIds) (k : Nat) : Prop := CFoot S.G k ∨ k = S.gs ∨ k = S.gp ∨ k = S.gr ∨ k = S.gw

def shelfCells (c : Cfg) (S : SIds) (k : Nat) : Array Value := #[.int .i64 c.blocks, .int .i64 c.bytes, .int .i64 c.frames, .int .i64 c.fan, .int .i64 c.buffer, .int .i64 c.leaf, .int .i64 c.key, .int .i64 c.val, .pointer (some ⟨S.G.gd, 0, none⟩), .pointer (some ⟨S.G.gc, 0, none⟩), .pointer (some ⟨S.gp, 0, none⟩), .int .u32 k]

/-- A shelf of settings c; k is kept (0: none); each block's bytes; who is held; the device's counts. -/
structure IsShelf (w : World) (S : SIds) (c : Cfg) (k : Nat) (L : Nat → List UInt8) (H : Nat → Bool) (r s : Nat) : Prop where
  box : Blk w S.gs 119 (shelfCells c S k)
  inn : c.In
  right : c.Right
  cache : ∃ cs, IsCache w S.G c.frames.toNat c.blocks.toNat c.bytes.toNat none cs ∧ Fine (keptP k) cs ∧ (∀ i, i < c.blocks.toNat → Cont cs i = L i) ∧ cs.r = r ∧ cs.s = s
  pool : IsPool w S.gp S.gr S.gw c.blocks.toNat H
  tab : ¬ CFoot S.G 0

section
variable {w w' : World} {S : SIds} {c : Cfg} {k : Nat} {L : Nat → List UInt8} {H : Nat → Bool} {r s : Nat}

theorem IsShelf.cells (h : IsShelf w S c k L H r s) :
    (w.cell? ⟨S.gs, 0, none⟩ = some (.int .i64 c.blocks) ∧ w.cell? ⟨S.gs, 1, none⟩ = some (.int .i64 c.bytes) ∧ w.cell? ⟨S.gs, 2, none⟩ = some (.int .i64 c.frames) ∧ w.cell? ⟨S.gs, 3, none⟩ = some (.int .i64 c.fan) ∧ w.cell? ⟨S.gs, 4, none⟩ = some (.int .i64 c.buffer) ∧ w.cell? ⟨S.gs, 5, none⟩ = some (.int .i64 c.leaf) ∧ w.cell? ⟨S.gs, 6, none⟩ = some (.int .i64 c.key) ∧ w.cell? ⟨S.gs, 7, none⟩ = some (.int .i64 c.val)) ∧
    w.cell? ⟨S.gs, 8, none⟩ = some (.pointer (some ⟨S.G.gd, 0, none⟩)) ∧ w.cell? ⟨S.gs, 9, none⟩ = some (.pointer (some ⟨S.G.gc, 0, none⟩)) ∧ w.cell? ⟨S.gs, 10, none⟩ = some (.pointer (some ⟨S.gp, 0, none⟩)) ∧ w.cell? ⟨S.gs, 11, none⟩ = some (.int .u32 k) :=
  ⟨⟨h.box.cell 0, h.box.cell 1, h.box.cell 2, h.box.cell 3, h.box.cell 4, h.box.cell 5, h.box.cell 6, h.box.cell 7⟩, h.box.cell 8, h.box.cell 9, h.box.cell 10, h.box.cell 11⟩

theorem IsShelf.blocks (h : IsShelf w S c k L H r s) : 5 ≤ c.blocks ∧ c.blocks ≤ 65536 ∧ 8 ≤ c.frames ∧ c.frames ≤ 64 ∧ 64 ≤ c.bytes ∧ c.bytes ≤ 65536 := by
  obtain ⟨_, h1, h2, h3, h4, h5, h6, _⟩ := h.right
  exact ⟨h1, h2, h3, h4, h5, h6⟩

theorem own_slice_keep {base e size n g cap : Nat} {xs : List Value} {T : Nat → Prop} (h : w.ownsRow base e size (.slice (some ⟨g, 0, none⟩) n cap) n xs) (hk : Keeps T w w') (hT : ¬ T g) : w'.ownsRow base e size (.slice (some ⟨g, 0, none⟩) n cap) n xs :=
  own_keep h (hk.block g (World.ownsRow.lt h g rfl).2 hT)

theorem IsCache.keepT {G : Ids} {F blocks bytes : Nat} {hole : Option Nat} {cs : Cs} {T : Nat → Prop} (h : IsCache w G F blocks bytes hole cs) (hk : Keeps T w w') (h1 : ∀ k, CFoot G k → ¬ T k) (h2 : ∀ k, T k → tag w k ≠ some (5 + 1)) : IsCache w' G F blocks bytes hole cs := by
  obtain ⟨gb, cb, hf⟩ := h.frames
  have hfoot : ∀ k, CFoot G k → ¬ T k := h1
  unfold CFoot at h1
  refine ⟨h.dev.keep hk (h1 _ (by simp)) (h1 _ (by simp)), h.box.keep hk (h1 _ (by simp)), ⟨gb, cb, hf.rows.keep hk (h1 _ (by simp)), fun f hF hu => ?_, fun f hF hu => ?_, hf.ne⟩, h.map.keep (hk.block _ h.map.lt (h1 _ (by simp))), own_slice_keep h.emp hk (h1 _ (by simp)), h.cap, h.chain.keep hk (h1 _ (by simp)) (h1 _ (by simp)), h.inv⟩
  · obtain ⟨cs', hb⟩ := hf.byt f hF hu
    exact (hf.bytes f hF hu).keep (hk.block _ hb.lt (fun ht => h2 _ ht hb.tag))
  · obtain ⟨cs', hb⟩ := hf.byt f hF hu
    exact ⟨cs', hb.keep hk (fun ht => h2 _ ht hb.tag)⟩

theorem IsShelf.keep {T : Nat → Prop} (h : IsShelf w S c k L H r s) (hk : Keeps T w w') (h1 : ∀ k, SFoot S k → ¬ T k) (h2 : ∀ k, T k → tag w k ≠ some (5 + 1)) (h3 : ¬ T 0) : IsShelf w' S c k L H r s := by
  obtain ⟨cs, a, b⟩ := h.cache
  unfold SFoot at h1
  exact ⟨h.box.keep hk (h1 _ (by simp)), h.inn, h.right, ⟨cs, a.keepT hk (fun k hk => h1 k (.inl hk)) h2, b⟩, h.pool.keep hk (h1 _ (by simp)) (h1 _ (by simp)) (h1 _ (by simp)) h3, h.tab⟩

theorem IsShelf.keep0 (h : IsShelf w S c k L H r s) (hk : Keeps (fun _ => False) w w') : IsShelf w' S c k L H r s := h.keep hk (fun _ _ e => e) (fun _ e => e.elim) (fun e => e)

theorem IsRow.parts {w : World} {gr gw n : Nat} {H : Nat → Bool} (h : IsRow w gr gw n H) : tag w gr = some (238 + 1) ∧ tag w gw = some (101 + 1) := by
  obtain ⟨W, a, b, _⟩ := h
  exact ⟨a.tag, b.tag⟩

/-- The shelf's own block, and the pool's, are none of the cache's. -/
theorem IsShelf.apart (h : IsShelf w S c k L H r s) : ¬ CFoot S.G S.gs ∧ ¬ CFoot S.G S.gp ∧ ¬ CFoot S.G S.gr ∧ ¬ CFoot S.G S.gw ∧ S.gs ≠ S.gp ∧ S.gs ≠ S.gr ∧ S.gs ≠ S.gw ∧ S.gp ≠ S.gr ∧ S.gp ≠ S.gw ∧ S.gr ≠ S.gw := by
  obtain ⟨cs, a, _⟩ := h.cache
  have t := a.tags
  have t1 := h.box.tag
  have t2 := h.pool.1.tag
  obtain ⟨t3, t4⟩ := h.pool.2.1.parts
  refine ⟨?_, ?_, ?_, ?_, tag_ne t1 t2 (by decide), tag_ne t1 t3 (by decide), tag_ne t1 t4 (by decide), tag_ne t2 t3 (by decide), tag_ne t2 t4 (by decide), tag_ne t3 t4 (by decide)⟩
  all_goals unfold CFoot
  · rintro (e | e | e | e | e | e | e | e)
    · exact tag_ne t1 t.d (by decide) e
    · exact tag_ne t1 t.i (by decide) e
    · exact tag_ne t1 t.c (by decide) e
    · exact tag_ne t1 t.f (by decide) e
    · exact tag_ne t1 t.m (by decide) e
    · exact tag_ne t1 t.e (by decide) e
    · exact tag_ne t1 t.l (by decide) e
    · exact tag_ne t1 t.ch (by decide) e
  · rintro (e | e | e | e | e | e | e | e)
    · exact tag_ne t2 t.d (by decide) e
    · exact tag_ne t2 t.i (by decide) e
    · exact tag_ne t2 t.c (by decide) e
    · exact tag_ne t2 t.f (by decide) e
    · exact tag_ne t2 t.m (by decide) e
    · exact tag_ne t2 t.e (by decide) e
    · exact tag_ne t2 t.l (by decide) e
    · exact tag_ne t2 t.ch (by decide) e
  · rintro (e | e | e | e | e | e | e | e)
    · exact tag_ne t3 t.d (by decide) e
    · exact tag_ne t3 t.i (by decide) e
    · exact tag_ne t3 t.c (by decide) e
    · exact tag_ne t3 t.f (by decide) e
    · exact tag_ne t3 t.m (by decide) e
    · exact tag_ne t3 t.e (by decide) e
    · exact tag_ne t3 t.l (by decide) e
    · exact tag_ne t3 t.ch (by decide) e
  · rintro (e | e | e | e | e | e | e | e)
    · exact tag_ne t4 t.d (by decide) e
    · exact tag_ne t4 t.i (by decide) e
    · exact tag_ne t4 t.c (by decide) e
    · exact tag_ne t4 t.f (by decide) e
    · exact tag_ne t4 t.m (by decide) e
    · exact tag_ne t4 t.e (by decide) e
    · exact tag_ne t4 t.l (by decide) e
    · exact tag_ne t4 t.ch (by decide) e

/-- Behind a call of the cache's. -/
theorem IsShelf.cached (h : IsShelf w S c k L H r s) (hk : Keeps (CFoot S.G) w w') {cs : Cs} {L' : Nat → List UInt8} (h1 : IsCache w' S.G c.frames.toNat c.blocks.toNat c.bytes.toNat none cs) (h2 : Fine (keptP k) cs) (h3 : ∀ i, i < c.blocks.toNat → Cont cs i = L' i) : IsShelf w' S c k L' H cs.r cs.s := by
  obtain ⟨a1, a2, a3, a4, _⟩ := h.apart
  exact ⟨h.box.keep hk a1, h.inn, h.right, ⟨cs, h1, h2, h3, rfl, rfl⟩, h.pool.keep hk a2 a3 a4 h.tab, h.tab⟩

end
end Go.Proofs.Sg
