/- Shelf2 · Shelf3 · Shelf4 · Shelf5 · Shelf6 · L18a, in one. -/
import Derived.Deep.RegionHeld3
import Derived.Test.YthkbpcnbnhiefaaGreatDoorKNew
import Derived.Test.YthkbpcnbnhiefaaGreatDoorJDec0
/-! A shelf: what its blocks hold. -/
namespace Go.Proofs.Sg
set_option linter.unusedSimpArgs false
set_option linter.unusedVariables false
open Go.RowKit Go.Lib

structure SIds where
  gs : Nat
  G : Ids
  gp : Nat
  gr : Nat
  gw : Nat

def SFoot (S : SIds) (k : Nat) : Prop := CFoot S.G k ∨ k = S.gs ∨ k = S.gp ∨ k = S.gr ∨ k = S.gw

def shelfCells (c : Cfg) (S : SIds) (k : Nat) : Array Value := #[.int .i64 c.blocks, .int .i64 c.bytes, .int .i64 c.frames, .int .i64 c.fan, .int .i64 c.buffer, .int .i64 c.leaf, .int .i64 c.key, .int .i64 c.val, .pointer (some ⟨S.G.gd, 0, none⟩), .pointer (some ⟨S.G.gc, 0, none⟩), .pointer (some ⟨S.gp, 0, none⟩), .int .u32 k]

/-- A shelf of settings c; k is kept (0: none); each block's bytes; who is held; the device's counts. -/
structure IsShelf (w : World) (S : SIds) (c : Cfg) (k : Nat) (L : Nat → List UInt8) (H : Nat → Bool) (r s : Nat) : Prop where
  box : Blk w S.gs 119 (shelfCells c S k)
  inn : c.In
  right : c.Right
  cache : ∃ cs, IsCache w S.G c.frames.toNat c.blocks.toNat c.bytes.toNat none cs ∧ Fine (keptP k) cs ∧ (∀ i, i < c.blocks.toNat → Cont cs i = L i) ∧ cs.r = r ∧ cs.s = s
  pool : IsPool w S.gp S.gr S.gw c.blocks.toNat H
  tab : ¬ CFoot S.G 0

section
variable {w w' : World} {S : SIds} {c : Cfg} {k : Nat} {L : Nat → List UInt8} {H : Nat → Bool} {r s : Nat}

theorem IsShelf.cells (h : IsShelf w S c k L H r s) :
    (w.cell? ⟨S.gs, 0, none⟩ = some (.int .i64 c.blocks) ∧ w.cell? ⟨S.gs, 1, none⟩ = some (.int .i64 c.bytes) ∧ w.cell? ⟨S.gs, 2, none⟩ = some (.int .i64 c.frames) ∧ w.cell? ⟨S.gs, 3, none⟩ = some (.int .i64 c.fan) ∧ w.cell? ⟨S.gs, 4, none⟩ = some (.int .i64 c.buffer) ∧ w.cell? ⟨S.gs, 5, none⟩ = some (.int .i64 c.leaf) ∧ w.cell? ⟨S.gs, 6, none⟩ = some (.int .i64 c.key) ∧ w.cell? ⟨S.gs, 7, none⟩ = some (.int .i64 c.val)) ∧
    w.cell? ⟨S.gs, 8, none⟩ = some (.pointer (some ⟨S.G.gd, 0, none⟩)) ∧ w.cell? ⟨S.gs, 9, none⟩ = some (.pointer (some ⟨S.G.gc, 0, none⟩)) ∧ w.cell? ⟨S.gs, 10, none⟩ = some (.pointer (some ⟨S.gp, 0, none⟩)) ∧ w.cell? ⟨S.gs, 11, none⟩ = some (.int .u32 k) :=
  ⟨⟨h.box.cell 0, h.box.cell 1, h.box.cell 2, h.box.cell 3, h.box.cell 4, h.box.cell 5, h.box.cell 6, h.box.cell 7⟩, h.box.cell 8, h.box.cell 9, h.box.cell 10, h.box.cell 11⟩

theorem IsShelf.blocks (h : IsShelf w S c k L H r s) : 5 ≤ c.blocks ∧ c.blocks ≤ 65536 ∧ 8 ≤ c.frames ∧ c.frames ≤ 64 ∧ 64 ≤ c.bytes ∧ c.bytes ≤ 65536 := by
  obtain ⟨_, h1, h2, h3, h4, h5, h6, _⟩ := h.right
  exact ⟨h1, h2, h3, h4, h5, h6⟩

theorem own_slice_keep {base e size n g cap : Nat} {xs : List Value} {T : Nat → Prop} (h : w.ownsRow base e size (.slice (some ⟨g, 0, none⟩) n cap) n xs) (hk : Keeps T w w') (hT : ¬ T g) : w'.ownsRow base e size (.slice (some ⟨g, 0, none⟩) n cap) n xs :=
  own_keep h (hk.block g (World.ownsRow.lt h g rfl).2 hT)

theorem IsCache.keepT {G : Ids} {F blocks bytes : Nat} {hole : Option Nat} {cs : Cs} {T : Nat → Prop} (h : IsCache w G F blocks bytes hole cs) (hk : Keeps T w w') (h1 : ∀ k, CFoot G k → ¬ T k) (h2 : ∀ k, T k → tag w k ≠ some (5 + 1)) : IsCache w' G F blocks bytes hole cs := by
  obtain ⟨gb, cb, hf⟩ := h.frames
  have hfoot : ∀ k, CFoot G k → ¬ T k := h1
  unfold CFoot at h1
  refine ⟨h.dev.keep hk (h1 _ (by simp)) (h1 _ (by simp)), h.box.keep hk (h1 _ (by simp)), ⟨gb, cb, hf.rows.keep hk (h1 _ (by simp)), fun f hF hu => ?_, fun f hF hu => ?_, hf.ne⟩, h.map.keep (hk.block _ h.map.lt (h1 _ (by simp))), own_slice_keep h.emp hk (h1 _ (by simp)), h.cap, h.chain.keep hk (h1 _ (by simp)) (h1 _ (by simp)), h.inv⟩
  · obtain ⟨cs', hb⟩ := hf.byt f hF hu
    exact (hf.bytes f hF hu).keep (hk.block _ hb.lt (fun ht => h2 _ ht hb.tag))
  · obtain ⟨cs', hb⟩ := hf.byt f hF hu
    exact ⟨cs', hb.keep hk (fun ht => h2 _ ht hb.tag)⟩

theorem IsShelf.keep {T : Nat → Prop} (h : IsShelf w S c k L H r s) (hk : Keeps T w w') (h1 : ∀ k, SFoot S k → ¬ T k) (h2 : ∀ k, T k → tag w k ≠ some (5 + 1)) (h3 : ¬ T 0) : IsShelf w' S c k L H r s := by
  obtain ⟨cs, a, b⟩ := h.cache
  unfold SFoot at h1
  exact ⟨h.box.keep hk (h1 _ (by simp)), h.inn, h.right, ⟨cs, a.keepT hk (fun k hk => h1 k (.inl hk)) h2, b⟩, h.pool.keep hk (h1 _ (by simp)) (h1 _ (by simp)) (h1 _ (by simp)) h3, h.tab⟩

theorem IsShelf.keep0 (h : IsShelf w S c k L H r s) (hk : Keeps (fun _ => False) w w') : IsShelf w' S c k L H r s := h.keep hk (fun _ _ e => e) (fun _ e => e.elim) (fun e => e)

theorem IsRow.parts {w : World} {gr gw n : Nat} {H : Nat → Bool} (h : IsRow w gr gw n H) : tag w gr = some (238 + 1) ∧ tag w gw = some (101 + 1) := by
  obtain ⟨W, a, b, _⟩ := h
  exact ⟨a.tag, b.tag⟩

/-- The shelf's own block, and the pool's, are none of the cache's. -/
theorem IsShelf.apart (h : IsShelf w S c k L H r s) : ¬ CFoot S.G S.gs ∧ ¬ CFoot S.G S.gp ∧ ¬ CFoot S.G S.gr ∧ ¬ CFoot S.G S.gw ∧ S.gs ≠ S.gp ∧ S.gs ≠ S.gr ∧ S.gs ≠ S.gw ∧ S.gp ≠ S.gr ∧ S.gp ≠ S.gw ∧ S.gr ≠ S.gw := by
  obtain ⟨cs, a, _⟩ := h.cache
  have t := a.tags
  have t1 := h.box.tag
  have t2 := h.pool.1.tag
  obtain ⟨t3, t4⟩ := h.pool.2.1.parts
  refine ⟨?_, ?_, ?_, ?_, tag_ne t1 t2 (by decide), tag_ne t1 t3 (by decide), tag_ne t1 t4 (by decide), tag_ne t2 t3 (by decide), tag_ne t2 t4 (by decide), tag_ne t3 t4 (by decide)⟩
  all_goals unfold CFoot
  · rintro (e | e | e | e | e | e | e | e)
    · exact tag_ne t1 t.d (by decide) e
    · exact tag_ne t1 t.i (by decide) e
    · exact tag_ne t1 t.c (by decide) e
    · exact tag_ne t1 t.f (by decide) e
    · exact tag_ne t1 t.m (by decide) e
    · exact tag_ne t1 t.e (by decide) e
    · exact tag_ne t1 t.l (by decide) e
    · exact tag_ne t1 t.ch (by decide) e
  · rintro (e | e | e | e | e | e | e | e)
    · exact tag_ne t2 t.d (by decide) e
    · exact tag_ne t2 t.i (by decide) e
    · exact tag_ne t2 t.c (by decide) e
    · exact tag_ne t2 t.f (by decide) e
    · exact tag_ne t2 t.m (by decide) e
    · exact tag_ne t2 t.e (by decide) e
    · exact tag_ne t2 t.l (by decide) e
    · exact tag_ne t2 t.ch (by decide) e
  · rintro (e | e | e | e | e | e | e | e)
    · exact tag_ne t3 t.d (by decide) e
    · exact tag_ne t3 t.i (by decide) e
    · exact tag_ne t3 t.c (by decide) e
    · exact tag_ne t3 t.f (by decide) e
    · exact tag_ne t3 t.m (by decide) e
    · exact tag_ne t3 t.e (by decide) e
    · exact tag_ne t3 t.l (by decide) e
    · exact tag_ne t3 t.ch (by decide) e
  · rintro (e | e | e | e | e | e | e | e)
    · exact tag_ne t4 t.d (by decide) e
    · exact tag_ne t4 t.i (by decide) e
    · exact tag_ne t4 t.c (by decide) e
    · exact tag_ne t4 t.f (by decide) e
    · exact tag_ne t4 t.m (by decide) e
    · exact tag_ne t4 t.e (by decide) e
    · exact tag_ne t4 t.l (by decide) e
    · exact tag_ne t4 t.ch (by decide) e

/-- Behind a call of the cache's. -/
theorem IsShelf.cached (h : IsShelf w S c k L H r s) (hk : Keeps (CFoot S.G) w w') {cs : Cs} {L' : Nat → List UInt8} (h1 : IsCache w' S.G c.frames.toNat c.blocks.toNat c.bytes.toNat none cs) (h2 : Fine (keptP k) cs) (h3 : ∀ i, i < c.blocks.toNat → Cont cs i = L' i) : IsShelf w' S c k L' H cs.r cs.s := by
  obtain ⟨a1, a2, a3, a4, _⟩ := h.apart
  exact ⟨h.box.keep hk a1, h.inn, h.right, ⟨cs, h1, h2, h3, rfl, rfl⟩, h.pool.keep hk a2 a3 a4 h.tab, h.tab⟩

end
end Go.Proofs.Sg
/-! A shelf: there, made, Left, Has, lay. -/
namespace Go.Proofs.Sg
set_option linter.unusedSimpArgs false
set_option linter.unusedVariables false
open Go.RowKit Go.Lib

section
variable {w w' : World} {S : SIds} {c : Cfg} {k : Nat} {L : Nat → List UInt8} {H : Nat → Bool} {r s : Nat}

theorem shelf_there_in (h : IsShelf w S c k L H r s) (i : Nat) (h0 : 0 < i) (hi : i < c.blocks.toNat) :
    Calls Tryz.prog 65 #[.pointer (some ⟨S.gs, 0, none⟩), .int .u32 i] w fun e w' => e = .returned (.int .i64 0) ∧ w = w' := by
  obtain ⟨⟨c0, c1, c2, c3, c4, c5, c6, c7⟩, c8, c9, c10, c11⟩ := h.cells
  have hb := h.blocks
  have hz : ((i : Int) == 0) = false := by simp; omega
  have hlt : ¬ c.blocks ≤ (i : Int) := by omega
  go_enter Tryz.func65, Tryz.ntmps65
  go_wp2
  go_ret
  exact ⟨rfl, rfl⟩

theorem shelf_there_zero (h : IsShelf w S c k L H r s) :
    Calls Tryz.prog 65 #[.pointer (some ⟨S.gs, 0, none⟩), .int .u32 0] w fun e w' => e = .returned (.int .i64 4) ∧ w = w' := by
  obtain ⟨⟨c0, c1, c2, c3, c4, c5, c6, c7⟩, c8, c9, c10, c11⟩ := h.cells
  go_enter Tryz.func65, Tryz.ntmps65
  go_wp2
  go_ret
  exact ⟨rfl, rfl⟩

theorem shelf_there_out (h : IsShelf w S c k L H r s) (i : Nat) (hi : c.blocks.toNat ≤ i) (hi2 : i < 4294967296) :
    Calls Tryz.prog 65 #[.pointer (some ⟨S.gs, 0, none⟩), .int .u32 i] w fun e w' => e = .returned (.int .i64 4) ∧ w = w' := by
  obtain ⟨⟨c0, c1, c2, c3, c4, c5, c6, c7⟩, c8, c9, c10, c11⟩ := h.cells
  have hb := h.blocks
  have hz : ((i : Int) == 0) = false := by simp; omega
  have hlt : c.blocks ≤ (i : Int) := by omega
  go_enter Tryz.func65, Tryz.ntmps65
  go_wp2
  go_ret
  exact ⟨rfl, rfl⟩

theorem shelf_made (h : IsShelf w S c k L H r s) :
    Calls Tryz.prog 83 #[.pointer (some ⟨S.gs, 0, none⟩)] w fun e w' => e = .returned (.int .i64 0) ∧ w = w' := by
  obtain ⟨⟨c0, c1, c2, c3, c4, c5, c6, c7⟩, c8, c9, c10, c11⟩ := h.cells
  go_enter Tryz.func83, Tryz.ntmps83
  go_wp2
  go_ret
  exact ⟨rfl, rfl⟩

theorem shelf_left (h : IsShelf w S c k L H r s) :
    Calls Tryz.prog 45 #[.pointer (some ⟨S.gs, 0, none⟩)] w fun e w' => e = .returned (.int .i64 (c.blocks - heldCount c.blocks.toNat H)) ∧ Keeps (fun _ => False) w w' := by
  obtain ⟨⟨c0, c1, c2, c3, c4, c5, c6, c7⟩, c8, c9, c10, c11⟩ := h.cells
  have hb := h.blocks
  have e : ((c.blocks.toNat : Nat) : Int) = c.blocks := by omega
  have hp := pool_free h.pool
  rw [e] at hp
  go_enter Tryz.func45, Tryz.ntmps45
  go_wp2_with fail
  refine hp.mono ?_
  rintro e w' ⟨rfl, q, rfl⟩
  go_wp2
  go_ret
  exact ⟨rfl, (Keeps.refl _ w).drewN q⟩

theorem shelf_has_in (h : IsShelf w S c k L H r s) (i : Nat) (hi : i < c.blocks.toNat) :
    Calls Tryz.prog 18 #[.pointer (some ⟨S.gs, 0, none⟩), .int .u32 i] w fun e w' => e = .returned (.bool (H i)) ∧ w = w' := by
  obtain ⟨⟨c0, c1, c2, c3, c4, c5, c6, c7⟩, c8, c9, c10, c11⟩ := h.cells
  have hb := h.blocks
  go_enter Tryz.func18, Tryz.ntmps18
  go_wp2_with fail
  refine (pool_has h.pool i hi).mono ?_
  rintro e w' ⟨rfl, rfl⟩
  go_wp2
  go_ret
  exact ⟨rfl, rfl⟩

theorem IsShelf.foot_lt (h : IsShelf w S c k L H r s) {x : Nat} (hx : SFoot S x) : x < w.heap.size := by
  obtain ⟨cs, a, _⟩ := h.cache
  obtain ⟨t3, t4⟩ := h.pool.2.1.parts
  rcases hx with hx | rfl | rfl | rfl | rfl
  · exact Foot_lt a.tags hx
  · exact h.box.lt
  · exact h.pool.1.lt
  · exact tag_lt t3
  · exact tag_lt t4

/-- A free block, or any but the kept one, is given bytes. -/
theorem shelf_given (h : IsShelf w S c k L H r s) (i : Nat) (h0 : 0 < i) (hi : i < c.blocks.toNat) (g off cc : Nat) (bs : List UInt8) (hb : BytesAt w g off bs) (hl : bs.length = c.bytes.toNat) (hg : ¬ SFoot S g) :
    Calls Tryz.prog 70 #[.pointer (some ⟨S.gs, 0, none⟩), .int .u32 i, .slice (some ⟨g, off, none⟩) c.bytes.toNat cc] w fun e w' => e = .returned (.int .i64 0) ∧
      ∃ s', IsShelf w' S c k (updD L i bs) H r s' ∧ s ≤ s' ∧ s' ≤ s + 1 ∧ (i = k → s' = s) ∧ Keeps (SFoot S) w w' := by
  obtain ⟨⟨c0, c1, c2, c3, c4, c5, c6, c7⟩, c8, c9, c10, c11⟩ := h.cells
  have hbk := h.blocks
  obtain ⟨cs, hc, hf, hL, rfl, rfl⟩ := h.cache
  by_cases hik : i = k
  · subst hik
    have hp : 0 < keptP i i := by
      have : i ≠ 0 := by omega
      simp [keptP, this]
    have hcall := cache_write_any hc hf i hi hp g off cc bs hb hl
    have A1 := Hd.mk hL
    clear hb hL
    go_enter Tryz.func70, Tryz.ntmps70
    go_wp2_with fail
    refine hcall.mono ?_
    rintro e w1 ⟨rfl, cs1, hc1, hf1, hL1, hr1, hs1, hk1⟩
    have hS := h.cached hk1 hc1 hf1 (L' := updD L i bs) (fun j hj => by rw [hL1]; unfold updD; split; rfl; exact A1.out j hj)
    rw [hr1, hs1] at hS
    have B1 := Hd.mk hS
    have B2 := Hd.mk hk1
    clear hS hk1 hL1 hf1 hc1 hcall hc hf h
    go_wp2_with fail
    go_ret
    exact ⟨rfl, _, B1.out, Nat.le_refl _, Nat.le_succ _, fun _ => rfl, B2.out.mono (fun _ _ e => .inl e)⟩
  · have hp : keptP k i = 0 := by simp [keptP, hik]
    have hcall := cache_fresh_any hc hf (by omega) i hi hp
    have A1 := Hd.mk hL
    have A2 := Hd.mk hb
    have hki : ((i : Int) == (k : Int)) = false := by simp; omega
    have ap := Hd.mk h.apart
    have B0 := Hd.mk h
    have hgf : g < w.heap.size := World.block_lt_of_cell? w _ (hb 0 (by rw [hl]; omega))
    clear hb hL h hc hf
    go_enter Tryz.func70, Tryz.ntmps70
    go_wp2_with fail
    refine hcall.mono ?_
    rintro e w1 ⟨rfl, cs1, hc1, hf1, hL1, hr1, hs1, hs1', hk1⟩
    have b1 : w1.cell? ⟨S.gs, 9, none⟩ = some (.pointer (some ⟨S.G.gc, 0, none⟩)) := (B0.out.box.keep hk1 ap.out.1).cell 9
    have hcall2 := cache_write_any hc1 hf1 i hi (by rw [upd_at]; omega) g off cc bs (A2.out.keep (hk1.block g hgf (fun e => hg (.inl e)))) hl
    have C1 := Hd.mk hL1
    have C2 := Hd.mk hk1
    clear hL1 hk1 hcall hc1 hf1
    go_wp2_with fail
    refine hcall2.mono ?_
    rintro e w2 ⟨rfl, cs2, hc2, hf2, hL2, hr2, hs2, hk2⟩
    have k02 := C2.out.trans hk2 (U := CFoot S.G) (fun _ _ e => e) (fun _ _ e => e)
    have b2 : w2.cell? ⟨S.gs, 9, none⟩ = some (.pointer (some ⟨S.G.gc, 0, none⟩)) := (B0.out.box.keep k02 ap.out.1).cell 9
    have hcall3 := cache_unpin_any hc2 hf2 i hi (by rw [upd_at]; omega) (by rw [upd_at]; omega)
    rw [upd_at] at hcall3
    have D1 := Hd.mk hL2
    have D2 := Hd.mk k02
    clear hL2 hk2 k02 hcall2 hc2 hf2
    go_wp2_with fail
    refine hcall3.mono ?_
    rintro e w3 ⟨rfl, cs3, hc3, hf3, hL3, hr3, hs3, hk3⟩
    have k03 := D2.out.trans hk3 (U := CFoot S.G) (fun _ _ e => e) (fun _ _ e => e)
    have hf3' : Fine (keptP k) cs3 := by
      have e : upd (upd (keptP k) i 1) i (1 - 1) = keptP k := by
        funext j; unfold upd; split
        · rename_i e; rw [e, hp]
        · rfl
      rwa [e] at hf3
    have hS := B0.out.cached k03 hc3 hf3' (L' := updD L i bs) (fun j hj => by
      rw [hL3, D1.out]; unfold updD; split
      · rfl
      · rename_i e
        rw [C1.out, updD, if_neg e]; exact A1.out j hj)
    rw [hr3, hr2, hr1] at hS
    have E1 := Hd.mk hS
    have E2 := Hd.mk k03
    clear hS k03 hf3' hL3 hf3 hc3 hk3 hcall3
    go_wp2_with fail
    go_ret
    exact ⟨rfl, _, E1.out, by omega, by omega, fun e => absurd e hik, E2.out.mono (fun _ _ e => .inl e)⟩

end
end Go.Proofs.Sg
/-! A shelf: Make. -/
namespace Go.Proofs.Sg
set_option linter.unusedSimpArgs false
set_option linter.unusedVariables false
open Go.RowKit Go.Lib

section
variable {w w' : World} {S : SIds} {c : Cfg} {k : Nat} {L : Nat → List UInt8} {H : Nat → Bool} {r s : Nat}

/-- Behind a call of the pool's. -/
theorem IsShelf.pooled (h : IsShelf w S c k L H r s) {H' : Nat → Bool} (hk : Keeps (fun x => x = S.gr ∨ x = S.gw) w w') (hp : IsPool w' S.gp S.gr S.gw c.blocks.toNat H') : IsShelf w' S c k L H' r s := by
  obtain ⟨a1, a2, a3, a4, a5, a6, a7, a8, a9, a10⟩ := h.apart
  obtain ⟨t3, t4⟩ := h.pool.2.1.parts
  obtain ⟨cs, b1, b2⟩ := h.cache
  refine ⟨h.box.keep hk (by rintro (e | e); exact a6 e; exact a7 e), h.inn, h.right, ⟨cs, b1.keepT hk ?_ ?_, b2⟩, hp, h.tab⟩
  · rintro x hx (rfl | rfl)
    · exact a3 hx
    · exact a4 hx
  · rintro x (rfl | rfl) e
    · rw [t3] at e; cases e
    · rw [t4] at e; cases e

set_option maxRecDepth 100000 in
set_option maxHeartbeats 4000000 in
theorem shelf_make_no (h : IsShelf w S c k L H r s) (l : Int) (a1 a2 a3 a4 : Value) (h1 : a1.oneCell' = true) (h2 : a2.oneCell' = true) (h3 : a3.oneCell' = true) (h4 : a4.oneCell' = true)
    (hE : ∀ w', Keeps (fun _ => False) w w' → Calls Tryz.prog 69 #[c.v, nodeV l a1 a2 a3 a4] w' fun e w'' => e = .returned (.tuple #[nilV, .int .i64 3]) ∧ Keeps (fun _ => False) w' w'') :
    Calls Tryz.prog 55 #[.pointer (some ⟨S.gs, 0, none⟩), nodeV l a1 a2 a3 a4] w fun e w' => e = .returned (.tuple #[.int .u32 0, .int .i64 3]) ∧ Keeps (fun _ => False) w w' := by
  have kN := (Keeps.refl (fun _ => False) w).alloc (.cells #[.int .i64 l, a1, a2, a3, a4] 42)
  have hN := h.keep0 kN
  obtain ⟨⟨c0, c1, c2, c3, c4, c5, c6, c7⟩, c8, c9, c10, c11⟩ := hN.cells
  obtain ⟨n0, n1, n2, n3, n4⟩ := (Blk.new w 42 #[.int .i64 l, a1, a2, a3, a4]).five
  have hbk := h.blocks
  unfold Cfg.v nodeV at *
  go_enter Tryz.func55, Tryz.ntmps55
  go_wp2_with fail
  generalize hw0 : w.alloc (.cells #[.int .i64 l, a1, a2, a3, a4] 42) = w0 at *
  clear hw0
  refine (shelf_made hN).mono ?_
  rintro e w' ⟨rfl, rfl⟩
  have hk0 := kN.drew
  have H0 := Hd.mk h
  clear hN h kN
  go_wp2_with fail
  refine wp_region_held_drew (S := (fun w' => w'.cell? ⟨S.gs, 0, none⟩ = some (.int .i64 c.blocks) ∧ w'.cell? ⟨S.gs, 1, none⟩ = some (.int .i64 c.bytes) ∧ w'.cell? ⟨S.gs, 2, none⟩ = some (.int .i64 c.frames) ∧ w'.cell? ⟨S.gs, 3, none⟩ = some (.int .i64 c.fan) ∧ w'.cell? ⟨S.gs, 4, none⟩ = some (.int .i64 c.buffer) ∧ w'.cell? ⟨S.gs, 5, none⟩ = some (.int .i64 c.leaf) ∧ w'.cell? ⟨S.gs, 6, none⟩ = some (.int .i64 c.key) ∧ w'.cell? ⟨S.gs, 7, none⟩ = some (.int .i64 c.val) ∧ w'.cell? ⟨w.heap.size, 0, none⟩ = some (.int .i64 l) ∧ w'.cell? ⟨w.heap.size, 1, none⟩ = some (a1) ∧ w'.cell? ⟨w.heap.size, 2, none⟩ = some (a2) ∧ w'.cell? ⟨w.heap.size, 3, none⟩ = some (a3) ∧ w'.cell? ⟨w.heap.size, 4, none⟩ = some (a4) ∧ Keeps (fun _ => False) w w')) (by kernel_rfl) (by go_keep) (fun hHeld => ?_)
  refine wpAnyH_take (i := 0) (oi := ⟨_, _, _, _, _, _⟩) (v := _) rfl (by kernel_rfl) (by kernel_rfl) (by kernel_rfl) (fun _ _ _ h => h) (Or.inl ⟨by rfl, fun _ _ => rfl⟩) hHeld ?_
  (try simp only [Act.put, Act.eval, List.setIfInBounds_toArray, List.set_cons_zero, List.set_cons_succ, List.getElem?_toArray, List.getElem?_cons_succ, List.getElem?_cons_zero, Array.getD_eq_getD_getElem?, Option.getD_some])
  refine wpAnyH_take (i := 1) (oi := ⟨_, _, _, _, _, _⟩) (v := _) rfl (by kernel_rfl) (by kernel_rfl) (by kernel_rfl) (fun _ _ _ h => h) (Or.inl ⟨by rfl, fun _ _ => rfl⟩) hHeld ?_
  (try simp only [Act.put, Act.eval, List.setIfInBounds_toArray, List.set_cons_zero, List.set_cons_succ, List.getElem?_toArray, List.getElem?_cons_succ, List.getElem?_cons_zero, Array.getD_eq_getD_getElem?, Option.getD_some])
  refine wpAnyH_take (i := 2) (oi := ⟨_, _, _, _, _, _⟩) (v := _) rfl (by kernel_rfl) (by kernel_rfl) (by kernel_rfl) (fun _ _ _ h => h) (Or.inl ⟨by rfl, fun _ _ => rfl⟩) hHeld ?_
  (try simp only [Act.put, Act.eval, List.setIfInBounds_toArray, List.set_cons_zero, List.set_cons_succ, List.getElem?_toArray, List.getElem?_cons_succ, List.getElem?_cons_zero, Array.getD_eq_getD_getElem?, Option.getD_some])
  refine wpAnyH_take (i := 3) (oi := ⟨_, _, _, _, _, _⟩) (v := ?v3) rfl (by kernel_rfl) (by kernel_rfl) (by kernel_rfl) (fun _ _ _ h => h) (Or.inl ⟨by rfl, ?hy3⟩) hHeld ?rest3
  case hy3 => ((intro w hSw; (try dsimp only at hSw); go_simp) <;> try with_reducible rfl)
  (try simp only [Act.put, Act.eval, List.setIfInBounds_toArray, List.set_cons_zero, List.set_cons_succ, List.getElem?_toArray, List.getElem?_cons_succ, List.getElem?_cons_zero, Array.getD_eq_getD_getElem?, Option.getD_some])
  refine wpAnyH_take (i := 4) (oi := ⟨_, _, _, _, _, _⟩) (v := ?v4) rfl (by kernel_rfl) (by kernel_rfl) (by kernel_rfl) (fun _ _ _ h => h) (Or.inl ⟨by rfl, ?hy4⟩) hHeld ?rest4
  case hy4 => ((intro w hSw; (try dsimp only at hSw); go_simp) <;> try with_reducible rfl)
  (try simp only [Act.put, Act.eval, List.setIfInBounds_toArray, List.set_cons_zero, List.set_cons_succ, List.getElem?_toArray, List.getElem?_cons_succ, List.getElem?_cons_zero, Array.getD_eq_getD_getElem?, Option.getD_some])
  refine wpAnyH_ready (rs := [5]) (by kernel_rfl) (by simp) ?_
  refine AllReadyH.cons (o := ⟨_, _, _, _, _, _⟩) rfl (fun K hK => ?_) AllReadyH.nil
  go_simp
  (go_at_call 69; refine (hE _ hHeld.2.2.2.2.2.2.2.2.2.2.2.2.2).mono ?_; rintro e w' ⟨rfl, hb⟩)
  go_wp2_with fail
  refine hK.out _ _ (encS_keeps hHeld hb) (fun hHeld => ?_)
  clear hK K
  (try simp only [Act.put, Act.eval, List.setIfInBounds_toArray, List.set_cons_zero, List.set_cons_succ, List.getElem?_toArray, List.getElem?_cons_succ, List.getElem?_cons_zero, Array.getD_eq_getD_getElem?, Option.getD_some])
  refine wpAnyH_take (i := 6) (oi := ⟨_, _, _, _, _, _⟩) (v := _) rfl (by kernel_rfl) (by kernel_rfl) (by kernel_rfl) (fun _ _ _ h => h) (Or.inl ⟨by rfl, fun _ _ => rfl⟩) hHeld ?_
  (try simp only [Act.put, Act.eval, List.setIfInBounds_toArray, List.set_cons_zero, List.set_cons_succ, List.getElem?_toArray, List.getElem?_cons_succ, List.getElem?_cons_zero, Array.getD_eq_getD_getElem?, Option.getD_some])
  refine wpAnyH_take (i := 7) (oi := ⟨_, _, _, _, _, _⟩) (v := _) rfl (by kernel_rfl) (by kernel_rfl) (by kernel_rfl) (fun _ _ _ h => h) (Or.inl ⟨by rfl, fun _ _ => rfl⟩) hHeld ?_
  (try simp only [Act.put, Act.eval, List.setIfInBounds_toArray, List.set_cons_zero, List.set_cons_succ, List.getElem?_toArray, List.getElem?_cons_succ, List.getElem?_cons_zero, Array.getD_eq_getD_getElem?, Option.getD_some])
  refine wpAnyH_take (i := 8) (oi := ⟨_, _, _, _, _, _⟩) (v := _) rfl (by kernel_rfl) (by kernel_rfl) (by kernel_rfl) (fun _ _ _ h => h) (Or.inl ⟨by rfl, fun _ _ => rfl⟩) hHeld ?_
  (try simp only [Act.put, Act.eval, List.setIfInBounds_toArray, List.set_cons_zero, List.set_cons_succ, List.getElem?_toArray, List.getElem?_cons_succ, List.getElem?_cons_zero, Array.getD_eq_getD_getElem?, Option.getD_some])
  refine wpAnyH_take (i := 9) (oi := ⟨_, _, _, _, _, _⟩) (v := _) rfl (by kernel_rfl) (by kernel_rfl) (by kernel_rfl) (fun _ _ _ h => h) (Or.inl ⟨by rfl, fun _ _ => rfl⟩) hHeld ?_
  (try simp only [Act.put, Act.eval, List.setIfInBounds_toArray, List.set_cons_zero, List.set_cons_succ, List.getElem?_toArray, List.getElem?_cons_succ, List.getElem?_cons_zero, Array.getD_eq_getD_getElem?, Option.getD_some])
  refine wpAnyH_take (i := 10) (oi := ⟨_, _, _, _, _, _⟩) (v := _) rfl (by kernel_rfl) (by kernel_rfl) (by kernel_rfl) (fun _ _ _ h => h) (Or.inl ⟨by rfl, fun _ _ => rfl⟩) hHeld ?_
  (try simp only [Act.put, Act.eval, List.setIfInBounds_toArray, List.set_cons_zero, List.set_cons_succ, List.getElem?_toArray, List.getElem?_cons_succ, List.getElem?_cons_zero, Array.getD_eq_getD_getElem?, Option.getD_some])
  refine wpAnyH_done (by kernel_rfl) ?_ _
  have hz0 := hk0.size
  clear hk0
  go_wp2
  go_ret2
  exact ⟨rfl, hHeld.2.2.2.2.2.2.2.2.2.2.2.2.2⟩

set_option maxRecDepth 100000 in
set_option maxHeartbeats 4000000 in
theorem shelf_make (h : IsShelf w S c k L H r s) (l : Int) (a1 a2 a3 a4 : Value) (h1 : a1.oneCell' = true) (h2 : a2.oneCell' = true) (h3 : a3.oneCell' = true) (h4 : a4.oneCell' = true) (bs : List UInt8) (hbs : bs.length = c.bytes.toNat) (hH0 : H 0 = true) (hfr : heldCount c.blocks.toNat H < c.blocks.toNat)
    (hE : ∀ w', Keeps (fun _ => False) w w' → Calls Tryz.prog 69 #[c.v, nodeV l a1 a2 a3 a4] w' fun e w'' => ∃ v', e = .returned (.tuple #[v', .int .i64 0]) ∧ OwnB w'' v' bs ∧ Grew w' w'' nilV v') :
    Calls Tryz.prog 55 #[.pointer (some ⟨S.gs, 0, none⟩), nodeV l a1 a2 a3 a4] w fun e w' => ∃ i : Nat, e = .returned (.tuple #[.int .u32 i, .int .i64 0]) ∧ 0 < i ∧ i < c.blocks.toNat ∧ H i = false ∧ (∀ q, q < i → H q = true) ∧ ∃ s', IsShelf w' S c k (updD L i bs) (updH H i true) r s' ∧ s ≤ s' ∧ s' ≤ s + 1 ∧ Keeps (SFoot S) w w' := by
  have kN := (Keeps.refl (fun _ => False) w).alloc (.cells #[.int .i64 l, a1, a2, a3, a4] 42)
  have hN := h.keep0 kN
  obtain ⟨⟨c0, c1, c2, c3, c4, c5, c6, c7⟩, c8, c9, c10, c11⟩ := hN.cells
  obtain ⟨n0, n1, n2, n3, n4⟩ := (Blk.new w 42 #[.int .i64 l, a1, a2, a3, a4]).five
  have hbk := h.blocks
  unfold Cfg.v nodeV at *
  go_enter Tryz.func55, Tryz.ntmps55
  go_wp2_with fail
  generalize hw0 : w.alloc (.cells #[.int .i64 l, a1, a2, a3, a4] 42) = w0 at *
  clear hw0
  refine (shelf_made hN).mono ?_
  rintro e w' ⟨rfl, rfl⟩
  have hk0 := kN.drew
  have H0 := Hd.mk h
  clear hN h kN
  go_wp2_with fail
  refine wp_region_held_drew (S := (fun w' => w'.cell? ⟨S.gs, 0, none⟩ = some (.int .i64 c.blocks) ∧ w'.cell? ⟨S.gs, 1, none⟩ = some (.int .i64 c.bytes) ∧ w'.cell? ⟨S.gs, 2, none⟩ = some (.int .i64 c.frames) ∧ w'.cell? ⟨S.gs, 3, none⟩ = some (.int .i64 c.fan) ∧ w'.cell? ⟨S.gs, 4, none⟩ = some (.int .i64 c.buffer) ∧ w'.cell? ⟨S.gs, 5, none⟩ = some (.int .i64 c.leaf) ∧ w'.cell? ⟨S.gs, 6, none⟩ = some (.int .i64 c.key) ∧ w'.cell? ⟨S.gs, 7, none⟩ = some (.int .i64 c.val) ∧ w'.cell? ⟨w.heap.size, 0, none⟩ = some (.int .i64 l) ∧ w'.cell? ⟨w.heap.size, 1, none⟩ = some (a1) ∧ w'.cell? ⟨w.heap.size, 2, none⟩ = some (a2) ∧ w'.cell? ⟨w.heap.size, 3, none⟩ = some (a3) ∧ w'.cell? ⟨w.heap.size, 4, none⟩ = some (a4) ∧ Keeps (fun _ => False) w w')) (by kernel_rfl) (by go_keep) (fun hHeld => ?_)
  refine wpAnyH_take (i := 0) (oi := ⟨_, _, _, _, _, _⟩) (v := _) rfl (by kernel_rfl) (by kernel_rfl) (by kernel_rfl) (fun _ _ _ h => h) (Or.inl ⟨by rfl, fun _ _ => rfl⟩) hHeld ?_
  (try simp only [Act.put, Act.eval, List.setIfInBounds_toArray, List.set_cons_zero, List.set_cons_succ, List.getElem?_toArray, List.getElem?_cons_succ, List.getElem?_cons_zero, Array.getD_eq_getD_getElem?, Option.getD_some])
  refine wpAnyH_take (i := 1) (oi := ⟨_, _, _, _, _, _⟩) (v := _) rfl (by kernel_rfl) (by kernel_rfl) (by kernel_rfl) (fun _ _ _ h => h) (Or.inl ⟨by rfl, fun _ _ => rfl⟩) hHeld ?_
  (try simp only [Act.put, Act.eval, List.setIfInBounds_toArray, List.set_cons_zero, List.set_cons_succ, List.getElem?_toArray, List.getElem?_cons_succ, List.getElem?_cons_zero, Array.getD_eq_getD_getElem?, Option.getD_some])
  refine wpAnyH_take (i := 2) (oi := ⟨_, _, _, _, _, _⟩) (v := _) rfl (by kernel_rfl) (by kernel_rfl) (by kernel_rfl) (fun _ _ _ h => h) (Or.inl ⟨by rfl, fun _ _ => rfl⟩) hHeld ?_
  (try simp only [Act.put, Act.eval, List.setIfInBounds_toArray, List.set_cons_zero, List.set_cons_succ, List.getElem?_toArray, List.getElem?_cons_succ, List.getElem?_cons_zero, Array.getD_eq_getD_getElem?, Option.getD_some])
  refine wpAnyH_take (i := 3) (oi := ⟨_, _, _, _, _, _⟩) (v := ?v3) rfl (by kernel_rfl) (by kernel_rfl) (by kernel_rfl) (fun _ _ _ h => h) (Or.inl ⟨by rfl, ?hy3⟩) hHeld ?rest3
  case hy3 => ((intro w hSw; (try dsimp only at hSw); go_simp) <;> try with_reducible rfl)
  (try simp only [Act.put, Act.eval, List.setIfInBounds_toArray, List.set_cons_zero, List.set_cons_succ, List.getElem?_toArray, List.getElem?_cons_succ, List.getElem?_cons_zero, Array.getD_eq_getD_getElem?, Option.getD_some])
  refine wpAnyH_take (i := 4) (oi := ⟨_, _, _, _, _, _⟩) (v := ?v4) rfl (by kernel_rfl) (by kernel_rfl) (by kernel_rfl) (fun _ _ _ h => h) (Or.inl ⟨by rfl, ?hy4⟩) hHeld ?rest4
  case hy4 => ((intro w hSw; (try dsimp only at hSw); go_simp) <;> try with_reducible rfl)
  (try simp only [Act.put, Act.eval, List.setIfInBounds_toArray, List.set_cons_zero, List.set_cons_succ, List.getElem?_toArray, List.getElem?_cons_succ, List.getElem?_cons_zero, Array.getD_eq_getD_getElem?, Option.getD_some])
  refine wpAnyH_ready (rs := [5]) (by kernel_rfl) (by simp) ?_
  refine AllReadyH.cons (o := ⟨_, _, _, _, _, _⟩) rfl (fun K hK => ?_) AllReadyH.nil
  go_simp
  (go_at_call 69; refine (hE _ hHeld.2.2.2.2.2.2.2.2.2.2.2.2.2).mono ?_; rintro e w' ⟨v', rfl, hO, hg⟩)
  go_wp2_with fail
  refine hK.out _ _ (encS_keeps hHeld hg.fresh) (fun hHeld => ?_)
  clear hK K
  (try simp only [Act.put, Act.eval, List.setIfInBounds_toArray, List.set_cons_zero, List.set_cons_succ, List.getElem?_toArray, List.getElem?_cons_succ, List.getElem?_cons_zero, Array.getD_eq_getD_getElem?, Option.getD_some])
  refine wpAnyH_take (i := 6) (oi := ⟨_, _, _, _, _, _⟩) (v := _) rfl (by kernel_rfl) (by kernel_rfl) (by kernel_rfl) (fun _ _ _ h => h) (Or.inl ⟨by rfl, fun _ _ => rfl⟩) hHeld ?_
  (try simp only [Act.put, Act.eval, List.setIfInBounds_toArray, List.set_cons_zero, List.set_cons_succ, List.getElem?_toArray, List.getElem?_cons_succ, List.getElem?_cons_zero, Array.getD_eq_getD_getElem?, Option.getD_some])
  refine wpAnyH_take (i := 7) (oi := ⟨_, _, _, _, _, _⟩) (v := _) rfl (by kernel_rfl) (by kernel_rfl) (by kernel_rfl) (fun _ _ _ h => h) (Or.inl ⟨by rfl, fun _ _ => rfl⟩) hHeld ?_
  (try simp only [Act.put, Act.eval, List.setIfInBounds_toArray, List.set_cons_zero, List.set_cons_succ, List.getElem?_toArray, List.getElem?_cons_succ, List.getElem?_cons_zero, Array.getD_eq_getD_getElem?, Option.getD_some])
  refine wpAnyH_take (i := 8) (oi := ⟨_, _, _, _, _, _⟩) (v := _) rfl (by kernel_rfl) (by kernel_rfl) (by kernel_rfl) (fun _ _ _ h => h) (Or.inl ⟨by rfl, fun _ _ => rfl⟩) hHeld ?_
  (try simp only [Act.put, Act.eval, List.setIfInBounds_toArray, List.set_cons_zero, List.set_cons_succ, List.getElem?_toArray, List.getElem?_cons_succ, List.getElem?_cons_zero, Array.getD_eq_getD_getElem?, Option.getD_some])
  refine wpAnyH_take (i := 9) (oi := ⟨_, _, _, _, _, _⟩) (v := _) rfl (by kernel_rfl) (by kernel_rfl) (by kernel_rfl) (fun _ _ _ h => h) (Or.inl ⟨by rfl, fun _ _ => rfl⟩) hHeld ?_
  (try simp only [Act.put, Act.eval, List.setIfInBounds_toArray, List.set_cons_zero, List.set_cons_succ, List.getElem?_toArray, List.getElem?_cons_succ, List.getElem?_cons_zero, Array.getD_eq_getD_getElem?, Option.getD_some])
  refine wpAnyH_take (i := 10) (oi := ⟨_, _, _, _, _, _⟩) (v := _) rfl (by kernel_rfl) (by kernel_rfl) (by kernel_rfl) (fun _ _ _ h => h) (Or.inl ⟨by rfl, fun _ _ => rfl⟩) hHeld ?_
  (try simp only [Act.put, Act.eval, List.setIfInBounds_toArray, List.set_cons_zero, List.set_cons_succ, List.getElem?_toArray, List.getElem?_cons_succ, List.getElem?_cons_zero, Array.getD_eq_getD_getElem?, Option.getD_some])
  refine wpAnyH_done (by kernel_rfl) ?_ _
  have hz0 := hk0.size
  clear hk0
  have k1 : Keeps (fun _ => False) w _ := hHeld.2.2.2.2.2.2.2.2.2.2.2.2.2
  have hS1 := H0.out.keep0 k1
  obtain ⟨g, cc, rfl, hby, hlt, hlc, hgb⟩ := hO.at (by intro e; rw [e] at hbs; simp at hbs; omega)
  have hgS : ¬ SFoot S g := fun e => by
    have e1 := H0.out.foot_lt e
    rcases hg.own g rfl with e2 | e2
    · simp [Value.ownBlock] at e2
    · have := k1.size
      omega
  rw [hbs]
  have A1 := Hd.mk hby
  have hEp := Hd.mk k1
  clear hby hO hg k1 hHeld hE hgb
  obtain ⟨⟨c0, c1, c2, c3, c4, c5, c6, c7⟩, c8, c9, c10, c11⟩ := hS1.cells
  go_wp2_with fail
  refine (pool_take_one hS1.pool hfr).mono ?_
  rintro e w2 ⟨p, rfl, hp1, hp2, hp3, hP, hkp⟩
  have hS2 := hS1.pooled hkp hP
  have hp0 : 0 < p := by
    rcases Nat.eq_zero_or_pos p with e | e
    · rw [e, hH0] at hp2; cases hp2
    · exact e
  have hby2 := A1.out.keep (hkp.block g hlt (by rintro (e | e); exact hgS (.inr (.inr (.inr (.inl e)))); exact hgS (.inr (.inr (.inr (.inr e))))))
  have hlay := shelf_given hS2 p hp0 hp1 g 0 cc bs hby2 hbs hgS
  have B1 := Hd.mk hkp
  have B2 := Hd.mk hp2
  have B3 := Hd.mk hp3
  clear hkp hP hp2 hp3 hby2 c0 c1 c2 c3 c4 c5 c6 c7 c8 c9 c10 c11 A1 hS1
  go_wp2_with fail
  refine hlay.mono ?_
  rintro e w3 ⟨rfl, s', hS3, hs1, hs2, hs3, hk3⟩
  have C1 := Hd.mk hS3
  have C2 := Hd.mk hk3
  clear hS3 hk3 hlay hS2 hs3
  go_wp2_with fail
  go_ret2
  refine ⟨p, rfl, hp0, hp1, B2.out, B3.out, s', C1.out, hs1, hs2, ?_⟩
  exact (hEp.out.trans B1.out (U := fun x => x = S.gr ∨ x = S.gw) (fun _ _ e => e.elim) (fun _ _ e => e)).trans C2.out (fun _ _ e => by rcases e with e | e; exact .inr (.inr (.inr (.inl e))); exact .inr (.inr (.inr (.inr e)))) (fun _ _ e => e)

end
end Go.Proofs.Sg
/-! A shelf: Load. -/
namespace Go.Proofs.Sg
set_option linter.unusedSimpArgs false
set_option linter.unusedVariables false
open Go.RowKit Go.Lib

/-- A slice, whichever. -/
def IsSl (v : Value) : Prop := ∃ p n m, v = .slice p n m

section
variable {w w' : World} {S : SIds} {c : Cfg} {k : Nat} {L : Nat → List UInt8} {H : Nat → Bool} {r s : Nat}

theorem shelf_load_out (h : IsShelf w S c k L H r s) (i : Nat) (hi : i = 0 ∨ c.blocks.toNat ≤ i) (hi2 : i < 4294967296) :
    Calls Tryz.prog 21 #[.pointer (some ⟨S.gs, 0, none⟩), .int .u32 i] w fun e w' => e = .returned (.tuple #[nodeV 0 nilV nilV nilV nilV, .int .i64 4]) ∧ Keeps (fun _ => False) w w' := by
  have hN := h.keep0 ((Keeps.refl (fun _ => False) w).alloc (.cells #[.int .i64 0, nilV, nilV, nilV, nilV] 42))
  have ht : Calls Tryz.prog 65 #[.pointer (some ⟨S.gs, 0, none⟩), .int .u32 i] (w.alloc (.cells #[.int .i64 0, nilV, nilV, nilV, nilV] 42)) fun e w' => e = .returned (.int .i64 4) ∧ (w.alloc (.cells #[.int .i64 0, nilV, nilV, nilV, nilV] 42)) = w' := by
    rcases hi with rfl | hi
    · exact shelf_there_zero hN
    · exact shelf_there_out hN i hi hi2
  unfold nodeV
  go_enter Tryz.func21, Tryz.ntmps21
  go_wp2_with fail
  refine ht.mono ?_
  rintro e w' ⟨rfl, rfl⟩
  clear ht hN
  go_wp2_with fail
  refine bodyPost_ret (v := .tuple #[.agg #[.int .i64 0, nilV, nilV, nilV, nilV], .int .i64 4]) (by simp [results, Tryz.results21, go_sem]) rfl ⟨rfl, ?_⟩
  repeat refine Keeps.setCell ?_ (fun h => absurd h (Nat.lt_irrefl _)) _
  exact (Keeps.refl (fun _ => False) w).alloc _

set_option maxRecDepth 100000 in
set_option maxHeartbeats 2000000 in
/-- What a block's bytes are decoded to: Q. -/
theorem shelf_load (h : IsShelf w S c k L H r s) (i : Nat) (h0 : 0 < i) (hi : i < c.blocks.toNat) (Q : World → Int → Value → Value → Value → Value → Int → Prop)
    (hQ : ∀ w1 w2 l a1 a2 a3 a4 x, Keeps (fun g => g = w.heap.size) w1 w2 → tag w1 w.heap.size = some (42 + 1) → Q w1 l a1 a2 a3 a4 x → Q w2 l a1 a2 a3 a4 x)
    (hD : ∀ w' b off cap, Keeps (SFoot S) w w' → BytesAt w' b off (L i) → w.heap.size < w'.heap.size → Calls Tryz.prog 35 #[c.v, .slice (some ⟨b, off, none⟩) c.bytes.toNat cap] w' fun e w'' => ∃ l a1 a2 a3 a4 x, e = .returned (.tuple #[nodeV l a1 a2 a3 a4, .int .i64 x]) ∧
      (IsSl a1 ∧ IsSl a2 ∧ IsSl a3 ∧ IsSl a4) ∧ Q w'' l a1 a2 a3 a4 x ∧ Keeps (fun _ => False) w' w'') :
    Calls Tryz.prog 21 #[.pointer (some ⟨S.gs, 0, none⟩), .int .u32 i] w fun e w' => ∃ l a1 a2 a3 a4 x, e = .returned (.tuple #[nodeV l a1 a2 a3 a4, .int .i64 x]) ∧
      (IsSl a1 ∧ IsSl a2 ∧ IsSl a3 ∧ IsSl a4) ∧ Q w' l a1 a2 a3 a4 x ∧ ∃ r' s', IsShelf w' S c k L H r' s' ∧ r ≤ r' ∧ r' ≤ r + 1 ∧ s ≤ s' ∧ s' ≤ s + 1 ∧ (i = k → r' = r ∧ s' = s) ∧ Keeps (SFoot S) w w' := by
  have kN := (Keeps.refl (fun _ => False) w).alloc (.cells #[.int .i64 0, nilV, nilV, nilV, nilV] 42)
  have bN := Blk.new w 42 #[.int .i64 0, nilV, nilV, nilV, nilV]
  have zN : (w.alloc (.cells #[.int .i64 0, nilV, nilV, nilV, nilV] 42)).heap.size = w.heap.size + 1 := by simp
  have hN := h.keep0 kN
  have hbk := h.blocks
  have hT := Hd.mk h.pool.2.2.lt
  generalize hw0 : w.alloc (.cells #[.int .i64 0, nilV, nilV, nilV, nilV] 42) = w0 at *
  obtain ⟨⟨c0, c1, c2, c3, c4, c5, c6, c7⟩, c8, c9, c10, c11⟩ := hN.cells
  obtain ⟨cs, hc, hf, hL, rfl, rfl⟩ := hN.cache
  have ap := Hd.mk h.apart
  have hlt := Hd.mk (fun x => h.foot_lt (x := x))
  have hpin := cache_pin_any hc hf (by omega) i hi
  have hat : i = k → cs.at_ i ≠ none := fun e => hf.held i (by
    subst e
    have : i ≠ 0 := by omega
    simp [keptP, this])
  have hL' := Hd.mk hL
  clear h hc hf hL
  unfold Cfg.v nodeV at *
  go_enter Tryz.func21, Tryz.ntmps21
  go_wp2_with fail
  clear hw0
  refine (shelf_there_in hN i h0 hi).mono ?_
  rintro e w' ⟨rfl, rfl⟩
  go_wp2_with fail
  refine hpin.mono ?_
  rintro e w1 ⟨rfl, cs1, hc1, hf1, hL1, hr1, hr1', hs1, hs1', hn1, hk1⟩
  have b1 : w1.cell? ⟨S.gs, 9, none⟩ = some (.pointer (some ⟨S.G.gc, 0, none⟩)) := (hN.box.keep hk1 ap.out.1).cell 9
  have hread := cache_read_any hc1 hf1 i hi (by rw [upd_at]; omega)
  have A1 := Hd.mk hL1
  have A2 := Hd.mk hk1
  have A3 := Hd.mk hc1
  have A4 := Hd.mk hf1
  clear hpin hL1 hk1 hc1 hf1
  go_wp2_with fail
  refine hread.mono ?_
  rintro e w2 ⟨g, cc, rfl, hg1, hg2, hgb, hby, hb2⟩
  have hc2 := A3.out.keep (S := fun _ => False) (Keeps.of_below hb2) (fun _ _ e => e)
  have k02 := A2.out.trans (Keeps.of_below (S := fun _ => False) hb2) (U := CFoot S.G) (fun _ _ e => e) (fun _ _ e => e.elim)
  have b2 : w2.cell? ⟨S.gs, 9, none⟩ = some (.pointer (some ⟨S.G.gc, 0, none⟩)) := (hN.box.keep k02 ap.out.1).cell 9
  have hunp := cache_unpin_any hc2 A4.out i hi (by rw [upd_at]; omega) (by rw [upd_at]; have := keptP_le k i; omega)
  rw [upd_at] at hunp
  have B1 := Hd.mk hby
  have B2 := Hd.mk k02
  have hgf : ∀ x, CFoot S.G x → x < w1.heap.size := fun x hx => Nat.lt_of_lt_of_le (hlt.out x (.inl hx)) (Nat.le_trans (by omega) A2.out.size)
  have B3 := Hd.mk hgf
  clear hread hby hb2 hc2 k02 A3 b1 hgf hgb
  go_wp2_with fail
  refine hunp.mono ?_
  rintro e w3 ⟨rfl, cs3, hc3, hf3, hL3, hr3, hs3, hk3⟩
  have k03 := B2.out.trans hk3 (U := CFoot S.G) (fun _ _ e => e) (fun _ _ e => e)
  have hf3' : Fine (keptP k) cs3 := by
    have e : upd (upd (keptP k) i (keptP k i + 1)) i (keptP k i + 1 - 1) = keptP k := by
      funext j; unfold upd; split
      · rename_i e; rw [e]; omega
      · rfl
    rwa [e] at hf3
  have hS3 := hN.cached k03 hc3 hf3' (L' := L) (fun j hj => by rw [hL3, A1.out]; exact hL'.out j hj)
  have hb3 : BytesAt w3 g 0 (L i) := by
    have e := B1.out.keep (hk3.block g hg2 (fun e => by have := B3.out g e; omega))
    rw [A1.out, hL'.out i hi] at e
    exact e
  have kk : Keeps (SFoot S) w w3 := kN.trans k03 (U := SFoot S) (fun _ _ e => e.elim) (fun _ _ e => .inl e)
  have bN3 : Blk w3 w.heap.size 42 #[.int .i64 0, nilV, nilV, nilV, nilV] := bN.keep k03 (fun e => by have := hlt.out _ (.inl e); omega)
  have hdec := hD w3 g 0 cc kk hb3 bN3.lt
  obtain ⟨⟨c0', c1', c2', c3', c4', c5', c6', c7'⟩, c8', c9', c10', c11'⟩ := hS3.cells
  have C1 := Hd.mk hS3
  have C2 := Hd.mk kk
  have C3 := Hd.mk bN3
  clear hunp hL3 hk3 hc3 hf3 hf3' hS3 hb3 kk bN3 k03 B1 B2 hD c0 c1 c2 c3 c4 c5 c6 c7 c8 c9 c10 c11 b2
  go_wp2_with fail
  refine hdec.mono ?_
  rintro e w4 ⟨l, a1, a2, a3, a4, x, rfl, ⟨⟨p1, n1, m1, rfl⟩, ⟨p2, n2, m2, rfl⟩, ⟨p3, n3, m3, rfl⟩, ⟨p4, n4, m4, rfl⟩⟩, hq, hk4⟩
  have bN4 := C3.out.keep hk4 (fun e => e)
  obtain ⟨y0, y1, y2, y3, y4⟩ := bN4.five
  have fz : ∀ k, _ := bN4.frozen
  have D1 := Hd.mk ((((((bN4.set_ 0 (.int .i64 l)).set_ 1 (.slice p1 n1 m1)).set_ 2 (.slice p2 n2 m2)).set_ 3 (.slice p3 n3 m3)).set_ 4 (.slice p4 n4 m4)))
  have D2 := Hd.mk (C2.out.trans hk4 (U := SFoot S) (fun _ _ e => e) (fun _ _ e => e.elim))
  have D3 := Hd.mk (C1.out.keep0 hk4)
  have D4 := Hd.mk hq
  have D5 := Hd.mk bN4.tag
  clear hdec hk4 bN4 hq C1 C2 C3
  go_wp2_with fail
  have q0 : World.cell? _ ⟨w.heap.size, 0, none⟩ = some (.int .i64 l) := D1.out.cell 0
  have q1 : World.cell? _ ⟨w.heap.size, 1, none⟩ = some (.slice p1 n1 m1) := D1.out.cell 1
  have q2 : World.cell? _ ⟨w.heap.size, 2, none⟩ = some (.slice p2 n2 m2) := D1.out.cell 2
  have q3 : World.cell? _ ⟨w.heap.size, 3, none⟩ = some (.slice p3 n3 m3) := D1.out.cell 3
  have q4 : World.cell? _ ⟨w.heap.size, 4, none⟩ = some (.slice p4 n4 m4) := D1.out.cell 4
  have k5 : Keeps (fun g => g = w.heap.size) w4 (((((w4.setCell ⟨w.heap.size, 0, none⟩ (.int .i64 l)).setCell ⟨w.heap.size, 1, none⟩ (.slice p1 n1 m1)).setCell ⟨w.heap.size, 2, none⟩ (.slice p2 n2 m2)).setCell ⟨w.heap.size, 3, none⟩ (.slice p3 n3 m3)).setCell ⟨w.heap.size, 4, none⟩ (.slice p4 n4 m4)) := by
    exact (((((Keeps.refl (fun g => g = w.heap.size) w4).setCell (p := ⟨w.heap.size, 0, none⟩) (fun _ => rfl) _).setCell (p := ⟨w.heap.size, 1, none⟩) (fun _ => rfl) _).setCell (p := ⟨w.heap.size, 2, none⟩) (fun _ => rfl) _).setCell (p := ⟨w.heap.size, 3, none⟩) (fun _ => rfl) _).setCell (p := ⟨w.heap.size, 4, none⟩) (fun _ => rfl) _
  refine bodyPost_ret (v := .tuple #[.agg #[.int .i64 l, .slice p1 n1 m1, .slice p2 n2 m2, .slice p3 n3 m3, .slice p4 n4 m4], .int .i64 x]) (by simp [results, Tryz.results21, go_sem, q0, q1, q2, q3, q4]) rfl ⟨l, _, _, _, _, x, rfl, ⟨⟨_, _, _, rfl⟩, ⟨_, _, _, rfl⟩, ⟨_, _, _, rfl⟩, ⟨_, _, _, rfl⟩⟩, hQ _ _ _ _ _ _ _ _ k5 D5.out D4.out, _, _, D3.out.keep k5 ?_ ?_ ?_, ?_, ?_, ?_, ?_, ?_, ?_⟩
  · rintro y hy rfl
    exact Nat.lt_irrefl _ (hlt.out _ hy)
  · rintro y rfl
    rw [D5.out]
    decide
  · intro e
    have := hT.out
    omega
  · omega
  · omega
  · omega
  · omega
  · intro e
    have := hn1 (hat e)
    omega
  · exact D2.out.trans k5 (U := SFoot S) (fun _ _ e => e) (fun _ h e => by omega)

end
end Go.Proofs.Sg
/-! A shelf: New. -/
namespace Go.Proofs.Sg
set_option linter.unusedSimpArgs false
set_option linter.unusedVariables false
open Go.RowKit Go.Lib

section
variable {w w' : World} {c : Cfg}

theorem shelf_new_arg (hc : c.In) (hr : ¬ c.Right) (d : Option Addr) :
    Calls Tryz.prog 51 #[c.v, .pointer d] w fun e w' => e = .returned (.tuple #[.pointer none, .int .i64 2]) ∧ Keeps (fun _ => False) w w' := by
  have hch := fun w => conf_check (w := w) c hc
  rw [if_neg hr] at hch
  unfold Cfg.v at *
  go_enter Tryz.func51, Tryz.ntmps51
  go_wp2_with fail
  refine (hch _).mono ?_
  rintro e w1 ⟨rfl, hb⟩
  have K := Hd.mk (((Keeps.refl (fun _ => False) w).alloc (.cells c.cells 23)).trans hb (U := fun _ => False) (fun _ _ e => e) (fun _ _ e => e))
  clear hb hch
  go_wp2_with fail
  go_ret2
  exact ⟨rfl, K.out⟩

theorem dev_blocks' {gd gi B Y r s : Nat} {D : Nat → List UInt8} (h : IsDev w gd gi B Y D r s) :
    Calls Tryz.prog 53 #[.pointer (some ⟨gd, 0, none⟩)] w fun e w' => e = .returned (.int .i64 B) ∧ Keeps (fun _ => False) w w' :=
  (dev_blocks h).mono fun _ _ ⟨h1, q, h2⟩ => ⟨h1, h2 ▸ (Keeps.refl _ w).drewN q⟩

theorem dev_blocks_nil : Calls Tryz.prog 53 #[.pointer none] w fun e w' => e = .returned (.int .i64 0) ∧ w = w' := by
  go_enter Tryz.func53, Tryz.ntmps53
  go_wp2
  go_ret
  exact ⟨rfl, rfl⟩

theorem cache_new_nil (F : Int) : Calls Tryz.prog 103 #[.pointer none, .int .i64 F] w fun e w' => e = .returned (.tuple #[.pointer none, .int .i64 1]) ∧ w = w' := by
  go_enter Tryz.func103, Tryz.ntmps103
  go_wp2_with fail
  refine dev_blocks_nil.mono ?_
  rintro e w' ⟨rfl, rfl⟩
  go_wp2_with fail
  go_ret2
  exact ⟨rfl, rfl⟩

theorem shelf_new_nil (hc : c.In) (hr : c.Right) :
    Calls Tryz.prog 51 #[c.v, .pointer none] w fun e w' => e = .returned (.tuple #[.pointer none, .int .i64 1]) ∧ Keeps (fun _ => False) w w' := by
  have hch := fun w => conf_check (w := w) c hc
  rw [if_pos hr] at hch
  have b0 := Blk.new w 23 c.cells
  unfold Cfg.v at *
  go_enter Tryz.func51, Tryz.ntmps51
  go_wp2_with fail
  refine (hch _).mono ?_
  rintro e w1 ⟨rfl, hb⟩
  obtain ⟨c0, c1, c2, c3, c4, c5, c6, c7⟩ := Cfg.at (b0.keep hb (fun e => e))
  have K := Hd.mk (((Keeps.refl (fun _ => False) w).alloc (.cells c.cells 23)).trans hb (U := fun _ => False) (fun _ _ e => e) (fun _ _ e => e))
  clear hb hch
  go_wp2_with fail
  refine (cache_new_nil _).mono ?_
  rintro e w' ⟨rfl, rfl⟩
  go_wp2_with fail
  go_ret2
  exact ⟨rfl, K.out⟩

set_option maxRecDepth 100000 in
set_option maxHeartbeats 4000000 in
theorem shelf_new_blocks {gd gi B Y r s : Nat} {D : Nat → List UInt8} (hc : c.In) (hr : c.Right) (hd : IsDev w gd gi B Y D r s) (hne : c.blocks ≠ (B : Int)) :
    Calls Tryz.prog 51 #[c.v, .pointer (some ⟨gd, 0, none⟩)] w fun e w' => e = .returned (.tuple #[.pointer none, .int .i64 3]) ∧ Keeps (fun _ => False) w w' := by
  have hch := fun w => conf_check (w := w) c hc
  rw [if_pos hr] at hch
  have hf : 8 ≤ c.frames ∧ c.frames ≤ 64 ∧ 5 ≤ c.blocks ∧ c.blocks ≤ 65536 := by
    obtain ⟨_, h1, h2, h3, h4, _⟩ := hr
    exact ⟨h3, h4, h1, h2⟩
  have ef : Hd (c.frames = (c.frames.toNat : Int)) := ⟨by omega⟩
  have i' : ((B : Int) == c.blocks) = false := by simp; omega
  have z' : ((B : Int) != c.blocks) = true := by simp; omega
  have Xi' := Hd.mk i'
  have Xz' := Hd.mk z'
  have Xhne := Hd.mk hne
  clear i' z' hne
  have b0 := Blk.new w 23 c.cells
  have k0 := (Keeps.refl (fun _ => False) w).alloc (.cells c.cells 23)
  unfold Cfg.v at *
  go_enter Tryz.func51, Tryz.ntmps51
  go_wp2_with fail
  refine (hch _).mono ?_
  rintro e w1 ⟨rfl, hb⟩
  have b1 := b0.keep hb (fun e => e)
  have k1 := k0.trans hb (U := fun _ => False) (fun _ _ e => e) (fun _ _ e => e)
  have hcn := cache_new (F := c.frames.toNat) (hd.keep k1 (fun e => e) (fun e => e)) (by omega) (by omega)
  rw [← ef.out] at hcn
  obtain ⟨c0, c1, c2, c3, c4, c5, c6, c7⟩ := Cfg.at b1
  have z1 := k1.size
  clear hb hch k0 b0
  go_wp2_with fail
  refine hcn.mono ?_
  rintro e w2 ⟨G, rfl, hG1, hG2, hC, hbl, hft⟩
  have b2 := b1.keep (Keeps.of_below (S := fun _ => False) hbl) (fun e => e)
  have k2 := k1.trans (Keeps.of_below (S := fun _ => False) hbl) (U := fun _ => False) (fun _ _ e => e) (fun _ _ e => e)
  have hd2 := hC.dev
  rw [hG1, hG2] at hd2
  obtain ⟨c0, c1, c2, c3, c4, c5, c6, c7⟩ := Cfg.at b2
  have hk0 : Keeps (fun _ => False) w2 w2.drew := (Keeps.refl _ w2).drew
  clear hcn hbl b1
  go_wp2_with fail
  have i' := Xi'.out
  have z' := Xz'.out
  refine wp_region_held_drew (S := (fun w' => w'.cell? ⟨w.heap.size, 0, none⟩ = some (.int .i64 c.blocks) ∧ w'.cell? ⟨w.heap.size, 1, none⟩ = some (.int .i64 c.bytes) ∧ w'.cell? ⟨w.heap.size, 2, none⟩ = some (.int .i64 c.frames) ∧ w'.cell? ⟨w.heap.size, 3, none⟩ = some (.int .i64 c.fan) ∧ w'.cell? ⟨w.heap.size, 4, none⟩ = some (.int .i64 c.buffer) ∧ w'.cell? ⟨w.heap.size, 5, none⟩ = some (.int .i64 c.leaf) ∧ w'.cell? ⟨w.heap.size, 6, none⟩ = some (.int .i64 c.key) ∧ w'.cell? ⟨w.heap.size, 7, none⟩ = some (.int .i64 c.val) ∧ Keeps (fun _ => False) w2 w')) (by kernel_rfl) (by go_keep) (fun hHeld => ?_)
  refine wpAnyH_take (i := 0) (oi := ⟨_, _, _, _, _, _⟩) (v := _) rfl (by kernel_rfl) (by kernel_rfl) (by kernel_rfl) (fun _ _ _ h => h) (Or.inl ⟨by rfl, fun _ _ => rfl⟩) hHeld ?_
  (try simp only [Act.put, Act.eval, List.setIfInBounds_toArray, List.set_cons_zero, List.set_cons_succ, List.getElem?_toArray, List.getElem?_cons_succ, List.getElem?_cons_zero, Array.getD_eq_getD_getElem?, Option.getD_some])
  refine wpAnyH_take (i := 2) (oi := ⟨_, _, _, _, _, _⟩) (v := _) rfl (by kernel_rfl) (by kernel_rfl) (by kernel_rfl) (fun _ _ _ h => h) (Or.inl ⟨by rfl, fun _ _ => rfl⟩) hHeld ?_
  (try simp only [Act.put, Act.eval, List.setIfInBounds_toArray, List.set_cons_zero, List.set_cons_succ, List.getElem?_toArray, List.getElem?_cons_succ, List.getElem?_cons_zero, Array.getD_eq_getD_getElem?, Option.getD_some])
  refine wpAnyH_take (i := 3) (oi := ⟨_, _, _, _, _, _⟩) (v := ?v3) rfl (by kernel_rfl) (by kernel_rfl) (by kernel_rfl) (fun _ _ _ h => h) (Or.inl ⟨by rfl, ?hy3⟩) hHeld ?rest3
  case hy3 => ((intro w hSw; (try dsimp only at hSw); go_simp) <;> try with_reducible rfl)
  (try simp only [Act.put, Act.eval, List.setIfInBounds_toArray, List.set_cons_zero, List.set_cons_succ, List.getElem?_toArray, List.getElem?_cons_succ, List.getElem?_cons_zero, Array.getD_eq_getD_getElem?, Option.getD_some])
  refine wpAnyH_ready (rs := [1]) (by kernel_rfl) (by simp) ?_
  refine AllReadyH.cons (o := ⟨_, _, _, _, _, _⟩) rfl (fun K hK => ?_) AllReadyH.nil
  go_simp
  (go_at_call 53; refine (dev_blocks' (hd2.keep hHeld.2.2.2.2.2.2.2.2 (fun e => e) (fun e => e))).mono ?_; rintro e w' ⟨rfl, hb⟩)
  go_wp2_with fail
  refine hK.out _ _ (cfgS_keeps hHeld hb) (fun hHeld => ?_)
  clear hK K
  (try simp only [Act.put, Act.eval, List.setIfInBounds_toArray, List.set_cons_zero, List.set_cons_succ, List.getElem?_toArray, List.getElem?_cons_succ, List.getElem?_cons_zero, Array.getD_eq_getD_getElem?, Option.getD_some])
  refine wpAnyH_take (i := 4) (oi := ⟨_, _, _, _, _, _⟩) (v := (.bool true)) rfl (by kernel_rfl) (by kernel_rfl) (by kernel_rfl) (fun _ _ _ h => h) (Or.inl ⟨by rfl, fun w hSw => by first | (go_simp; done) | (go_simp; exact Xhe.out.symm) | (go_simp; exact Xhy.out.symm) | (go_simp; exact fun e => Xhne.out e.symm) | (go_simp; simp [i', z']; done) | (simp [execOp, i', z', go_sem]; done)⟩) hHeld ?_
  (try simp only [Act.put, Act.eval, List.setIfInBounds_toArray, List.set_cons_zero, List.set_cons_succ, List.getElem?_toArray, List.getElem?_cons_succ, List.getElem?_cons_zero, Array.getD_eq_getD_getElem?, Option.getD_some])
  refine wpAnyH_take (i := 5) (oi := ⟨_, _, _, _, _, _⟩) (v := _) rfl (by kernel_rfl) (by kernel_rfl) (by kernel_rfl) (fun _ _ _ h => h) (Or.inl ⟨by rfl, fun _ _ => rfl⟩) hHeld ?_
  (try simp only [Act.put, Act.eval, List.setIfInBounds_toArray, List.set_cons_zero, List.set_cons_succ, List.getElem?_toArray, List.getElem?_cons_succ, List.getElem?_cons_zero, Array.getD_eq_getD_getElem?, Option.getD_some])
  refine wpAnyH_take (i := 6) (oi := ⟨_, _, _, _, _, _⟩) (v := undef) rfl (by kernel_rfl) (by kernel_rfl) (by kernel_rfl) (fun _ _ _ h => h) (Or.inr ⟨by rfl, rfl⟩) hHeld ?_
  (try simp only [Act.put, Act.eval, List.setIfInBounds_toArray, List.set_cons_zero, List.set_cons_succ, List.getElem?_toArray, List.getElem?_cons_succ, List.getElem?_cons_zero, Array.getD_eq_getD_getElem?, Option.getD_some])
  refine wpAnyH_take (i := 7) (oi := ⟨_, _, _, _, _, _⟩) (v := undef) rfl (by kernel_rfl) (by kernel_rfl) (by kernel_rfl) (fun _ _ _ h => h) (Or.inr ⟨by rfl, rfl⟩) hHeld ?_
  (try simp only [Act.put, Act.eval, List.setIfInBounds_toArray, List.set_cons_zero, List.set_cons_succ, List.getElem?_toArray, List.getElem?_cons_succ, List.getElem?_cons_zero, Array.getD_eq_getD_getElem?, Option.getD_some])
  refine wpAnyH_take (i := 8) (oi := ⟨_, _, _, _, _, _⟩) (v := undef) rfl (by kernel_rfl) (by kernel_rfl) (by kernel_rfl) (fun _ _ _ h => h) (Or.inr ⟨by rfl, rfl⟩) hHeld ?_
  (try simp only [Act.put, Act.eval, List.setIfInBounds_toArray, List.set_cons_zero, List.set_cons_succ, List.getElem?_toArray, List.getElem?_cons_succ, List.getElem?_cons_zero, Array.getD_eq_getD_getElem?, Option.getD_some])
  refine wpAnyH_take (i := 9) (oi := ⟨_, _, _, _, _, _⟩) (v := undef) rfl (by kernel_rfl) (by kernel_rfl) (by kernel_rfl) (fun _ _ _ h => h) (Or.inr ⟨by rfl, rfl⟩) hHeld ?_
  (try simp only [Act.put, Act.eval, List.setIfInBounds_toArray, List.set_cons_zero, List.set_cons_succ, List.getElem?_toArray, List.getElem?_cons_succ, List.getElem?_cons_zero, Array.getD_eq_getD_getElem?, Option.getD_some])
  refine wpAnyH_take (i := 10) (oi := ⟨_, _, _, _, _, _⟩) (v := undef) rfl (by kernel_rfl) (by kernel_rfl) (by kernel_rfl) (fun _ _ _ h => h) (Or.inr ⟨by rfl, rfl⟩) hHeld ?_
  (try simp only [Act.put, Act.eval, List.setIfInBounds_toArray, List.set_cons_zero, List.set_cons_succ, List.getElem?_toArray, List.getElem?_cons_succ, List.getElem?_cons_zero, Array.getD_eq_getD_getElem?, Option.getD_some])
  refine wpAnyH_take (i := 11) (oi := ⟨_, _, _, _, _, _⟩) (v := _) rfl (by kernel_rfl) (by kernel_rfl) (by kernel_rfl) (fun _ _ _ h => h) (Or.inl ⟨by rfl, fun _ _ => rfl⟩) hHeld ?_
  (try simp only [Act.put, Act.eval, List.setIfInBounds_toArray, List.set_cons_zero, List.set_cons_succ, List.getElem?_toArray, List.getElem?_cons_succ, List.getElem?_cons_zero, Array.getD_eq_getD_getElem?, Option.getD_some])
  refine wpAnyH_done (by kernel_rfl) ?_ _
  have kf := k2.trans hHeld.2.2.2.2.2.2.2.2 (U := fun _ => False) (fun _ _ e => e) (fun _ _ e => e)
  clear hft hC hd2 hHeld hG1 hG2 hd hr hc i' z' hk0 ef
  go_wp2
  go_ret2
  exact ⟨rfl, kf⟩

set_option maxRecDepth 100000 in
set_option maxHeartbeats 4000000 in
theorem shelf_new_bytes {gd gi B Y r s : Nat} {D : Nat → List UInt8} (hc : c.In) (hr : c.Right) (hd : IsDev w gd gi B Y D r s) (he : c.blocks = (B : Int)) (hne : c.bytes ≠ (Y : Int)) :
    Calls Tryz.prog 51 #[c.v, .pointer (some ⟨gd, 0, none⟩)] w fun e w' => e = .returned (.tuple #[.pointer none, .int .i64 3]) ∧ Keeps (fun _ => False) w w' := by
  have hch := fun w => conf_check (w := w) c hc
  rw [if_pos hr] at hch
  have hf : 8 ≤ c.frames ∧ c.frames ≤ 64 ∧ 5 ≤ c.blocks ∧ c.blocks ≤ 65536 := by
    obtain ⟨_, h1, h2, h3, h4, _⟩ := hr
    exact ⟨h3, h4, h1, h2⟩
  have ef : Hd (c.frames = (c.frames.toNat : Int)) := ⟨by omega⟩
  have i' : ((Y : Int) == c.bytes) = false := by simp; omega
  have z' : ((B : Int) == c.blocks) = true := by simp; omega
  have Xi' := Hd.mk i'
  have Xz' := Hd.mk z'
  have Xhne := Hd.mk hne
  have Xhe := Hd.mk he
  clear i' z' hne he
  have b0 := Blk.new w 23 c.cells
  have k0 := (Keeps.refl (fun _ => False) w).alloc (.cells c.cells 23)
  unfold Cfg.v at *
  go_enter Tryz.func51, Tryz.ntmps51
  go_wp2_with fail
  refine (hch _).mono ?_
  rintro e w1 ⟨rfl, hb⟩
  have b1 := b0.keep hb (fun e => e)
  have k1 := k0.trans hb (U := fun _ => False) (fun _ _ e => e) (fun _ _ e => e)
  have hcn := cache_new (F := c.frames.toNat) (hd.keep k1 (fun e => e) (fun e => e)) (by omega) (by omega)
  rw [← ef.out] at hcn
  obtain ⟨c0, c1, c2, c3, c4, c5, c6, c7⟩ := Cfg.at b1
  have z1 := k1.size
  clear hb hch k0 b0
  go_wp2_with fail
  refine hcn.mono ?_
  rintro e w2 ⟨G, rfl, hG1, hG2, hC, hbl, hft⟩
  have b2 := b1.keep (Keeps.of_below (S := fun _ => False) hbl) (fun e => e)
  have k2 := k1.trans (Keeps.of_below (S := fun _ => False) hbl) (U := fun _ => False) (fun _ _ e => e) (fun _ _ e => e)
  have hd2 := hC.dev
  rw [hG1, hG2] at hd2
  obtain ⟨c0, c1, c2, c3, c4, c5, c6, c7⟩ := Cfg.at b2
  have hk0 : Keeps (fun _ => False) w2 w2.drew := (Keeps.refl _ w2).drew
  clear hcn hbl b1
  go_wp2_with fail
  have i' := Xi'.out
  have z' := Xz'.out
  refine wp_region_held_drew (S := (fun w' => w'.cell? ⟨w.heap.size, 0, none⟩ = some (.int .i64 c.blocks) ∧ w'.cell? ⟨w.heap.size, 1, none⟩ = some (.int .i64 c.bytes) ∧ w'.cell? ⟨w.heap.size, 2, none⟩ = some (.int .i64 c.frames) ∧ w'.cell? ⟨w.heap.size, 3, none⟩ = some (.int .i64 c.fan) ∧ w'.cell? ⟨w.heap.size, 4, none⟩ = some (.int .i64 c.buffer) ∧ w'.cell? ⟨w.heap.size, 5, none⟩ = some (.int .i64 c.leaf) ∧ w'.cell? ⟨w.heap.size, 6, none⟩ = some (.int .i64 c.key) ∧ w'.cell? ⟨w.heap.size, 7, none⟩ = some (.int .i64 c.val) ∧ Keeps (fun _ => False) w2 w')) (by kernel_rfl) (by go_keep) (fun hHeld => ?_)
  refine wpAnyH_take (i := 0) (oi := ⟨_, _, _, _, _, _⟩) (v := _) rfl (by kernel_rfl) (by kernel_rfl) (by kernel_rfl) (fun _ _ _ h => h) (Or.inl ⟨by rfl, fun _ _ => rfl⟩) hHeld ?_
  (try simp only [Act.put, Act.eval, List.setIfInBounds_toArray, List.set_cons_zero, List.set_cons_succ, List.getElem?_toArray, List.getElem?_cons_succ, List.getElem?_cons_zero, Array.getD_eq_getD_getElem?, Option.getD_some])
  refine wpAnyH_take (i := 2) (oi := ⟨_, _, _, _, _, _⟩) (v := _) rfl (by kernel_rfl) (by kernel_rfl) (by kernel_rfl) (fun _ _ _ h => h) (Or.inl ⟨by rfl, fun _ _ => rfl⟩) hHeld ?_
  (try simp only [Act.put, Act.eval, List.setIfInBounds_toArray, List.set_cons_zero, List.set_cons_succ, List.getElem?_toArray, List.getElem?_cons_succ, List.getElem?_cons_zero, Array.getD_eq_getD_getElem?, Option.getD_some])
  refine wpAnyH_take (i := 3) (oi := ⟨_, _, _, _, _, _⟩) (v := ?v3) rfl (by kernel_rfl) (by kernel_rfl) (by kernel_rfl) (fun _ _ _ h => h) (Or.inl ⟨by rfl, ?hy3⟩) hHeld ?rest3
  case hy3 => ((intro w hSw; (try dsimp only at hSw); go_simp) <;> try with_reducible rfl)
  (try simp only [Act.put, Act.eval, List.setIfInBounds_toArray, List.set_cons_zero, List.set_cons_succ, List.getElem?_toArray, List.getElem?_cons_succ, List.getElem?_cons_zero, Array.getD_eq_getD_getElem?, Option.getD_some])
  refine wpAnyH_ready (rs := [1]) (by kernel_rfl) (by simp) ?_
  refine AllReadyH.cons (o := ⟨_, _, _, _, _, _⟩) rfl (fun K hK => ?_) AllReadyH.nil
  go_simp
  (go_at_call 53; refine (dev_blocks' (hd2.keep hHeld.2.2.2.2.2.2.2.2 (fun e => e) (fun e => e))).mono ?_; rintro e w' ⟨rfl, hb⟩)
  go_wp2_with fail
  refine hK.out _ _ (cfgS_keeps hHeld hb) (fun hHeld => ?_)
  clear hK K
  (try simp only [Act.put, Act.eval, List.setIfInBounds_toArray, List.set_cons_zero, List.set_cons_succ, List.getElem?_toArray, List.getElem?_cons_succ, List.getElem?_cons_zero, Array.getD_eq_getD_getElem?, Option.getD_some])
  refine wpAnyH_take (i := 4) (oi := ⟨_, _, _, _, _, _⟩) (v := (.bool false)) rfl (by kernel_rfl) (by kernel_rfl) (by kernel_rfl) (fun _ _ _ h => h) (Or.inl ⟨by rfl, fun w hSw => by first | (go_simp; done) | (go_simp; exact Xhe.out.symm) | (go_simp; exact Xhy.out.symm) | (go_simp; exact fun e => Xhne.out e.symm) | (go_simp; simp [i', z']; done) | (simp [execOp, i', z', go_sem]; done)⟩) hHeld ?_
  (try simp only [Act.put, Act.eval, List.setIfInBounds_toArray, List.set_cons_zero, List.set_cons_succ, List.getElem?_toArray, List.getElem?_cons_succ, List.getElem?_cons_zero, Array.getD_eq_getD_getElem?, Option.getD_some])
  refine wpAnyH_take (i := 5) (oi := ⟨_, _, _, _, _, _⟩) (v := _) rfl (by kernel_rfl) (by kernel_rfl) (by kernel_rfl) (fun _ _ _ h => h) (Or.inl ⟨by rfl, fun _ _ => rfl⟩) hHeld ?_
  (try simp only [Act.put, Act.eval, List.setIfInBounds_toArray, List.set_cons_zero, List.set_cons_succ, List.getElem?_toArray, List.getElem?_cons_succ, List.getElem?_cons_zero, Array.getD_eq_getD_getElem?, Option.getD_some])
  refine wpAnyH_take (i := 6) (oi := ⟨_, _, _, _, _, _⟩) (v := _) rfl (by kernel_rfl) (by kernel_rfl) (by kernel_rfl) (fun _ _ _ h => h) (Or.inl ⟨by rfl, fun _ _ => rfl⟩) hHeld ?_
  (try simp only [Act.put, Act.eval, List.setIfInBounds_toArray, List.set_cons_zero, List.set_cons_succ, List.getElem?_toArray, List.getElem?_cons_succ, List.getElem?_cons_zero, Array.getD_eq_getD_getElem?, Option.getD_some])
  refine wpAnyH_take (i := 8) (oi := ⟨_, _, _, _, _, _⟩) (v := _) rfl (by kernel_rfl) (by kernel_rfl) (by kernel_rfl) (fun _ _ _ h => h) (Or.inl ⟨by rfl, fun _ _ => rfl⟩) hHeld ?_
  (try simp only [Act.put, Act.eval, List.setIfInBounds_toArray, List.set_cons_zero, List.set_cons_succ, List.getElem?_toArray, List.getElem?_cons_succ, List.getElem?_cons_zero, Array.getD_eq_getD_getElem?, Option.getD_some])
  refine wpAnyH_take (i := 9) (oi := ⟨_, _, _, _, _, _⟩) (v := ?v9) rfl (by kernel_rfl) (by kernel_rfl) (by kernel_rfl) (fun _ _ _ h => h) (Or.inl ⟨by rfl, ?hy9⟩) hHeld ?rest9
  case hy9 => ((intro w hSw; (try dsimp only at hSw); go_simp) <;> try with_reducible rfl)
  (try simp only [Act.put, Act.eval, List.setIfInBounds_toArray, List.set_cons_zero, List.set_cons_succ, List.getElem?_toArray, List.getElem?_cons_succ, List.getElem?_cons_zero, Array.getD_eq_getD_getElem?, Option.getD_some])
  refine wpAnyH_ready (rs := [7]) (by kernel_rfl) (by simp) ?_
  refine AllReadyH.cons (o := ⟨_, _, _, _, _, _⟩) rfl (fun K hK => ?_) AllReadyH.nil
  go_simp
  (go_at_call 54; refine (dev_bytes (hd2.keep hHeld.2.2.2.2.2.2.2.2 (fun e => e) (fun e => e))).mono ?_; rintro e w' ⟨rfl, rfl⟩)
  go_wp2_with fail
  refine hK.out _ _ hHeld (fun hHeld => ?_)
  clear hK K
  (try simp only [Act.put, Act.eval, List.setIfInBounds_toArray, List.set_cons_zero, List.set_cons_succ, List.getElem?_toArray, List.getElem?_cons_succ, List.getElem?_cons_zero, Array.getD_eq_getD_getElem?, Option.getD_some])
  refine wpAnyH_take (i := 10) (oi := ⟨_, _, _, _, _, _⟩) (v := (.bool true)) rfl (by kernel_rfl) (by kernel_rfl) (by kernel_rfl) (fun _ _ _ h => h) (Or.inl ⟨by rfl, fun w hSw => by first | (go_simp; done) | (go_simp; exact Xhe.out.symm) | (go_simp; exact Xhy.out.symm) | (go_simp; exact fun e => Xhne.out e.symm) | (go_simp; simp [i', z']; done) | (simp [execOp, i', z', go_sem]; done)⟩) hHeld ?_
  (try simp only [Act.put, Act.eval, List.setIfInBounds_toArray, List.set_cons_zero, List.set_cons_succ, List.getElem?_toArray, List.getElem?_cons_succ, List.getElem?_cons_zero, Array.getD_eq_getD_getElem?, Option.getD_some])
  refine wpAnyH_take (i := 11) (oi := ⟨_, _, _, _, _, _⟩) (v := _) rfl (by kernel_rfl) (by kernel_rfl) (by kernel_rfl) (fun _ _ _ h => h) (Or.inl ⟨by rfl, fun _ _ => rfl⟩) hHeld ?_
  (try simp only [Act.put, Act.eval, List.setIfInBounds_toArray, List.set_cons_zero, List.set_cons_succ, List.getElem?_toArray, List.getElem?_cons_succ, List.getElem?_cons_zero, Array.getD_eq_getD_getElem?, Option.getD_some])
  refine wpAnyH_done (by kernel_rfl) ?_ _
  have kf := k2.trans hHeld.2.2.2.2.2.2.2.2 (U := fun _ => False) (fun _ _ e => e) (fun _ _ e => e)
  clear hft hC hd2 hHeld hG1 hG2 hd hr hc i' z' hk0 ef
  go_wp2
  go_ret2
  exact ⟨rfl, kf⟩

set_option maxRecDepth 100000 in
set_option maxHeartbeats 4000000 in
theorem shelf_new {gd gi B Y r s : Nat} {D : Nat → List UInt8} (hc : c.In) (hr : c.Right) (hd : IsDev w gd gi B Y D r s) (he : c.blocks = (B : Int)) (hy : c.bytes = (Y : Int)) (hT : Tab w) (hgt : gd ≠ 0) (hit : gi ≠ 0) :
    Calls Tryz.prog 51 #[c.v, .pointer (some ⟨gd, 0, none⟩)] w fun e w' => ∃ S, e = .returned (.tuple #[.pointer (some ⟨S.gs, 0, none⟩), .int .i64 0]) ∧ IsShelf w' S c 0 D (fun j => decide (j = 0)) r s ∧ S.G.gd = gd ∧ S.G.gi = gi ∧ Keeps (fun _ => False) w w' ∧ (∀ k, SFoot S k → k = gd ∨ k = gi ∨ w.heap.size ≤ k) := by
  have hch := fun w => conf_check (w := w) c hc
  rw [if_pos hr] at hch
  have hf : 8 ≤ c.frames ∧ c.frames ≤ 64 ∧ 5 ≤ c.blocks ∧ c.blocks ≤ 65536 := by
    obtain ⟨_, h1, h2, h3, h4, _⟩ := hr
    exact ⟨h3, h4, h1, h2⟩
  have ef : Hd (c.frames = (c.frames.toNat : Int)) := ⟨by omega⟩
  have i' : ((Y : Int) == c.bytes) = true := by simp; omega
  have z' : ((B : Int) == c.blocks) = true := by simp; omega
  have Xi' := Hd.mk i'
  have Xz' := Hd.mk z'
  have Xhe := Hd.mk he
  have Xhy := Hd.mk hy
  clear i' z' he hy
  have b0 := Blk.new w 23 c.cells
  have k0 := (Keeps.refl (fun _ => False) w).alloc (.cells c.cells 23)
  unfold Cfg.v at *
  go_enter Tryz.func51, Tryz.ntmps51
  go_wp2_with fail
  refine (hch _).mono ?_
  rintro e w1 ⟨rfl, hb⟩
  have b1 := b0.keep hb (fun e => e)
  have k1 := k0.trans hb (U := fun _ => False) (fun _ _ e => e) (fun _ _ e => e)
  have hcn := cache_new (F := c.frames.toNat) (hd.keep k1 (fun e => e) (fun e => e)) (by omega) (by omega)
  rw [← ef.out] at hcn
  obtain ⟨c0, c1, c2, c3, c4, c5, c6, c7⟩ := Cfg.at b1
  have z1 := k1.size
  clear hb hch k0 b0
  go_wp2_with fail
  refine hcn.mono ?_
  rintro e w2 ⟨G, rfl, hG1, hG2, hC, hbl, hft⟩
  have b2 := b1.keep (Keeps.of_below (S := fun _ => False) hbl) (fun e => e)
  have k2 := k1.trans (Keeps.of_below (S := fun _ => False) hbl) (U := fun _ => False) (fun _ _ e => e) (fun _ _ e => e)
  have hd2 := hC.dev
  rw [hG1, hG2] at hd2
  obtain ⟨c0, c1, c2, c3, c4, c5, c6, c7⟩ := Cfg.at b2
  have hk0 : Keeps (fun _ => False) w2 w2.drew := (Keeps.refl _ w2).drew
  clear hcn hbl b1
  go_wp2_with fail
  have i' := Xi'.out
  have z' := Xz'.out
  refine wp_region_held_drew (S := (fun w' => w'.cell? ⟨w.heap.size, 0, none⟩ = some (.int .i64 c.blocks) ∧ w'.cell? ⟨w.heap.size, 1, none⟩ = some (.int .i64 c.bytes) ∧ w'.cell? ⟨w.heap.size, 2, none⟩ = some (.int .i64 c.frames) ∧ w'.cell? ⟨w.heap.size, 3, none⟩ = some (.int .i64 c.fan) ∧ w'.cell? ⟨w.heap.size, 4, none⟩ = some (.int .i64 c.buffer) ∧ w'.cell? ⟨w.heap.size, 5, none⟩ = some (.int .i64 c.leaf) ∧ w'.cell? ⟨w.heap.size, 6, none⟩ = some (.int .i64 c.key) ∧ w'.cell? ⟨w.heap.size, 7, none⟩ = some (.int .i64 c.val) ∧ Keeps (fun _ => False) w2 w')) (by kernel_rfl) (by go_keep) (fun hHeld => ?_)
  refine wpAnyH_take (i := 0) (oi := ⟨_, _, _, _, _, _⟩) (v := _) rfl (by kernel_rfl) (by kernel_rfl) (by kernel_rfl) (fun _ _ _ h => h) (Or.inl ⟨by rfl, fun _ _ => rfl⟩) hHeld ?_
  (try simp only [Act.put, Act.eval, List.setIfInBounds_toArray, List.set_cons_zero, List.set_cons_succ, List.getElem?_toArray, List.getElem?_cons_succ, List.getElem?_cons_zero, Array.getD_eq_getD_getElem?, Option.getD_some])
  refine wpAnyH_take (i := 2) (oi := ⟨_, _, _, _, _, _⟩) (v := _) rfl (by kernel_rfl) (by kernel_rfl) (by kernel_rfl) (fun _ _ _ h => h) (Or.inl ⟨by rfl, fun _ _ => rfl⟩) hHeld ?_
  (try simp only [Act.put, Act.eval, List.setIfInBounds_toArray, List.set_cons_zero, List.set_cons_succ, List.getElem?_toArray, List.getElem?_cons_succ, List.getElem?_cons_zero, Array.getD_eq_getD_getElem?, Option.getD_some])
  refine wpAnyH_take (i := 3) (oi := ⟨_, _, _, _, _, _⟩) (v := ?v3) rfl (by kernel_rfl) (by kernel_rfl) (by kernel_rfl) (fun _ _ _ h => h) (Or.inl ⟨by rfl, ?hy3⟩) hHeld ?rest3
  case hy3 => ((intro w hSw; (try dsimp only at hSw); go_simp) <;> try with_reducible rfl)
  (try simp only [Act.put, Act.eval, List.setIfInBounds_toArray, List.set_cons_zero, List.set_cons_succ, List.getElem?_toArray, List.getElem?_cons_succ, List.getElem?_cons_zero, Array.getD_eq_getD_getElem?, Option.getD_some])
  refine wpAnyH_ready (rs := [1]) (by kernel_rfl) (by simp) ?_
  refine AllReadyH.cons (o := ⟨_, _, _, _, _, _⟩) rfl (fun K hK => ?_) AllReadyH.nil
  go_simp
  (go_at_call 53; refine (dev_blocks' (hd2.keep hHeld.2.2.2.2.2.2.2.2 (fun e => e) (fun e => e))).mono ?_; rintro e w' ⟨rfl, hb⟩)
  go_wp2_with fail
  refine hK.out _ _ (cfgS_keeps hHeld hb) (fun hHeld => ?_)
  clear hK K
  (try simp only [Act.put, Act.eval, List.setIfInBounds_toArray, List.set_cons_zero, List.set_cons_succ, List.getElem?_toArray, List.getElem?_cons_succ, List.getElem?_cons_zero, Array.getD_eq_getD_getElem?, Option.getD_some])
  refine wpAnyH_take (i := 4) (oi := ⟨_, _, _, _, _, _⟩) (v := (.bool false)) rfl (by kernel_rfl) (by kernel_rfl) (by kernel_rfl) (fun _ _ _ h => h) (Or.inl ⟨by rfl, fun w hSw => by first | (go_simp; done) | (go_simp; exact Xhe.out.symm) | (go_simp; exact Xhy.out.symm) | (go_simp; exact fun e => Xhne.out e.symm) | (go_simp; simp [i', z']; done) | (simp [execOp, i', z', go_sem]; done)⟩) hHeld ?_
  (try simp only [Act.put, Act.eval, List.setIfInBounds_toArray, List.set_cons_zero, List.set_cons_succ, List.getElem?_toArray, List.getElem?_cons_succ, List.getElem?_cons_zero, Array.getD_eq_getD_getElem?, Option.getD_some])
  refine wpAnyH_take (i := 5) (oi := ⟨_, _, _, _, _, _⟩) (v := _) rfl (by kernel_rfl) (by kernel_rfl) (by kernel_rfl) (fun _ _ _ h => h) (Or.inl ⟨by rfl, fun _ _ => rfl⟩) hHeld ?_
  (try simp only [Act.put, Act.eval, List.setIfInBounds_toArray, List.set_cons_zero, List.set_cons_succ, List.getElem?_toArray, List.getElem?_cons_succ, List.getElem?_cons_zero, Array.getD_eq_getD_getElem?, Option.getD_some])
  refine wpAnyH_take (i := 6) (oi := ⟨_, _, _, _, _, _⟩) (v := _) rfl (by kernel_rfl) (by kernel_rfl) (by kernel_rfl) (fun _ _ _ h => h) (Or.inl ⟨by rfl, fun _ _ => rfl⟩) hHeld ?_
  (try simp only [Act.put, Act.eval, List.setIfInBounds_toArray, List.set_cons_zero, List.set_cons_succ, List.getElem?_toArray, List.getElem?_cons_succ, List.getElem?_cons_zero, Array.getD_eq_getD_getElem?, Option.getD_some])
  refine wpAnyH_take (i := 8) (oi := ⟨_, _, _, _, _, _⟩) (v := _) rfl (by kernel_rfl) (by kernel_rfl) (by kernel_rfl) (fun _ _ _ h => h) (Or.inl ⟨by rfl, fun _ _ => rfl⟩) hHeld ?_
  (try simp only [Act.put, Act.eval, List.setIfInBounds_toArray, List.set_cons_zero, List.set_cons_succ, List.getElem?_toArray, List.getElem?_cons_succ, List.getElem?_cons_zero, Array.getD_eq_getD_getElem?, Option.getD_some])
  refine wpAnyH_take (i := 9) (oi := ⟨_, _, _, _, _, _⟩) (v := ?v9) rfl (by kernel_rfl) (by kernel_rfl) (by kernel_rfl) (fun _ _ _ h => h) (Or.inl ⟨by rfl, ?hy9⟩) hHeld ?rest9
  case hy9 => ((intro w hSw; (try dsimp only at hSw); go_simp) <;> try with_reducible rfl)
  (try simp only [Act.put, Act.eval, List.setIfInBounds_toArray, List.set_cons_zero, List.set_cons_succ, List.getElem?_toArray, List.getElem?_cons_succ, List.getElem?_cons_zero, Array.getD_eq_getD_getElem?, Option.getD_some])
  refine wpAnyH_ready (rs := [7]) (by kernel_rfl) (by simp) ?_
  refine AllReadyH.cons (o := ⟨_, _, _, _, _, _⟩) rfl (fun K hK => ?_) AllReadyH.nil
  go_simp
  (go_at_call 54; refine (dev_bytes (hd2.keep hHeld.2.2.2.2.2.2.2.2 (fun e => e) (fun e => e))).mono ?_; rintro e w' ⟨rfl, rfl⟩)
  go_wp2_with fail
  refine hK.out _ _ hHeld (fun hHeld => ?_)
  clear hK K
  (try simp only [Act.put, Act.eval, List.setIfInBounds_toArray, List.set_cons_zero, List.set_cons_succ, List.getElem?_toArray, List.getElem?_cons_succ, List.getElem?_cons_zero, Array.getD_eq_getD_getElem?, Option.getD_some])
  refine wpAnyH_take (i := 10) (oi := ⟨_, _, _, _, _, _⟩) (v := (.bool false)) rfl (by kernel_rfl) (by kernel_rfl) (by kernel_rfl) (fun _ _ _ h => h) (Or.inl ⟨by rfl, fun w hSw => by first | (go_simp; done) | (go_simp; exact Xhe.out.symm) | (go_simp; exact Xhy.out.symm) | (go_simp; exact fun e => Xhne.out e.symm) | (go_simp; simp [i', z']; done) | (simp [execOp, i', z', go_sem]; done)⟩) hHeld ?_
  (try simp only [Act.put, Act.eval, List.setIfInBounds_toArray, List.set_cons_zero, List.set_cons_succ, List.getElem?_toArray, List.getElem?_cons_succ, List.getElem?_cons_zero, Array.getD_eq_getD_getElem?, Option.getD_some])
  refine wpAnyH_take (i := 11) (oi := ⟨_, _, _, _, _, _⟩) (v := _) rfl (by kernel_rfl) (by kernel_rfl) (by kernel_rfl) (fun _ _ _ h => h) (Or.inl ⟨by rfl, fun _ _ => rfl⟩) hHeld ?_
  (try simp only [Act.put, Act.eval, List.setIfInBounds_toArray, List.set_cons_zero, List.set_cons_succ, List.getElem?_toArray, List.getElem?_cons_succ, List.getElem?_cons_zero, Array.getD_eq_getD_getElem?, Option.getD_some])
  refine wpAnyH_done (by kernel_rfl) ?_ _
  have k3 := k2.trans hHeld.2.2.2.2.2.2.2.2 (U := fun _ => False) (fun _ _ e => e) (fun _ _ e => e)
  obtain ⟨c0, c1, c2, c3, c4, c5, c6, c7, kk⟩ := hHeld
  have b3 := b2.keep kk (fun e => e)
  have hC3 := hC.keep (S := fun _ => False) kk (fun _ _ e => e)
  have eb : c.blocks = (c.blocks.toNat : Int) := by omega
  have hpn := pool_new (w := _) c.blocks.toNat (by omega) (by omega) (hT.keeps k3 (fun e => e))
  rw [← eb] at hpn
  clear eb
  have K3 := Hd.mk k3
  have HT := Hd.mk (And.intro hT.lt (And.intro hgt hit))
  have KK := Hd.mk kk
  have HF := Hd.mk hft
  have HG := Hd.mk (And.intro hG1 hG2)
  have HR := Hd.mk (And.intro hc hr)
  have HC := Hd.mk hC3
  clear hk0 k3 kk i' z' hC hft hG1 hG2 hd hr hc hd2 ef hC3
  go_wp2_with fail
  refine hpn.mono ?_
  rintro e w4 ⟨gp, gr, gw, rfl, hP, hbl, hg1, hg2, hg3⟩
  have b4 := b3.keep (Keeps.of_below (S := fun _ => False) hbl) (fun e => e)
  have k4 := K3.out.trans (Keeps.of_below (S := fun _ => False) hbl) (U := fun _ => False) (fun _ _ e => e) (fun _ _ e => e)
  have hC4 := HC.out.keep (S := fun _ => False) (Keeps.of_below hbl) (fun _ _ e => e)
  obtain ⟨c0, c1, c2, c3, c4, c5, c6, c7⟩ := Cfg.at b4
  have z3 := K3.out.size
  have z4 := hbl.size
  have K4 := Hd.mk k4
  have P4 := Hd.mk hP
  have C4 := Hd.mk hC4
  have Q4 := Hd.mk (And.intro hg1 (And.intro hg2 hg3))
  clear hpn hbl b4 k4 hP hC4 b3 b2 k2 k1 hT hgt hit hg1 hg2 hg3
  go_wp2_with fail
  go_ret2
  have eB : c.blocks.toNat = B := by have := Xhe.out; omega
  have eY : c.bytes.toNat = Y := by have := Xhy.out; omega
  obtain ⟨q1, q2, q3⟩ := Q4.out
  have kA : Keeps (fun _ => False) w4 (w4.alloc (.cells (shelfCells c ⟨w4.heap.size, G, gp, gr, gw⟩ 0) 119)) := (Keeps.refl _ w4).alloc _
  have eA : (w4.alloc (.cells (shelfCells c ⟨w4.heap.size, G, gp, gr, gw⟩ 0) 119)) = w4.alloc (.cells #[.int .i64 c.blocks, .int .i64 c.bytes, .int .i64 c.frames, .int .i64 c.fan, .int .i64 c.buffer, .int .i64 c.leaf, .int .i64 c.key, .int .i64 c.val, .pointer (some ⟨gd, 0, none⟩), .pointer (some ⟨G.gc, 0, none⟩), .pointer (some ⟨gp, 0, none⟩), .int .u32 0] 119) := by
    simp [shelfCells, HG.out.1]
  rw [← eA]
  refine ⟨⟨w4.heap.size, G, gp, gr, gw⟩, rfl, ⟨Blk.new w4 _ _, HR.out.1, HR.out.2, ⟨newC c.frames.toNat D r s, ?_, (newC_fine _ _ _ _).1, fun i _ => (newC_fine _ _ _ _).2 i, rfl, rfl⟩, P4.out.keep kA (fun e => e) (fun e => e) (fun e => e) (fun e => e), ?_⟩, HG.out.1, HG.out.2, K4.out.trans kA (fun _ _ e => e) (fun _ _ e => e), ?_⟩
  · have := C4.out.keep (S := fun _ => False) kA (fun _ _ e => e)
    rw [eB, eY]
    exact this
  · intro e
    rcases HF.out _ e with e | e | e
    · exact HT.out.2.1 e.symm
    · exact HT.out.2.2 e.symm
    · have := HT.out.1
      omega
  · rintro x (hx | rfl | rfl | rfl | rfl)
    · rcases HF.out x hx with e | e | e
      · exact .inl e
      · exact .inr (.inl e)
      · exact .inr (.inr (by omega))
    · exact .inr (.inr (by show _ ≤ w4.heap.size; omega))
    · exact .inr (.inr (by omega))
    · exact .inr (.inr (by omega))
    · exact .inr (.inr (by omega))

end
end Go.Proofs.Sg
/-! The statements' helpers of layer 18: Begun, least, awake. -/
namespace Go.Proofs.Sg
set_option linter.unusedSimpArgs false
set_option linter.unusedVariables false
open Go.RowKit Go.Lib

section
variable {w w' : World} {c : Cfg}

theorem begun (hc : c.In) (hr : c.Right) (hT : Tab w) :
    Calls Tryz.prog 27 #[c.v] w fun e w' => ∃ S : SIds, e = .returned (.tuple #[.pointer (some ⟨S.gs, 0, none⟩), .pointer (some ⟨S.G.gd, 0, none⟩)]) ∧
      IsShelf w' S c 0 (fun _ => List.replicate c.bytes.toNat 0) (fun j => decide (j = 0)) 0 0 ∧ Keeps (fun _ => False) w w' ∧ (∀ k, SFoot S k → w.heap.size ≤ k) := by
  have hb : 5 ≤ c.blocks ∧ c.blocks ≤ 65536 ∧ 64 ≤ c.bytes ∧ c.bytes ≤ 65536 := by
    obtain ⟨_, h1, h2, h3, h4, h5, h6, _⟩ := hr
    exact ⟨h1, h2, h5, h6⟩
  have e1 : c.blocks = (c.blocks.toNat : Int) := by omega
  have e2 : c.bytes = (c.bytes.toNat : Int) := by omega
  have b0 := Blk.new w 23 c.cells
  have k0 := (Keeps.refl (fun _ => False) w).alloc (.cells c.cells 23)
  have hdn := dev_new (w := w.alloc (.cells c.cells 23)) c.blocks.toNat c.bytes.toNat (by omega) (by omega) (by omega) (by omega)
  rw [← e1, ← e2] at hdn
  have E := Hd.mk (And.intro e1 e2)
  have hT0 := Hd.mk (hT.keeps k0 (fun e => e))
  have hTl := hT.lt
  have z0 := k0.size
  have HR := Hd.mk (And.intro hc hr)
  have K0 := Hd.mk k0
  have B0 := Hd.mk b0
  have hn : ∀ w2 gd gi (hd : IsDev w2 gd gi c.blocks.toNat c.bytes.toNat (fun _ => List.replicate c.bytes.toNat 0) 0 0) (hT : Tab w2) (hgt : gd ≠ 0) (hit : gi ≠ 0), _ := fun w2 gd gi hd hT hgt hit => shelf_new (w := w2) HR.out.1 HR.out.2 hd E.out.1 E.out.2 hT hgt hit
  clear e1 e2 hT hc hr k0 b0
  obtain ⟨c0, c1, c2, c3, c4, c5, c6, c7⟩ := Cfg.at B0.out
  unfold Cfg.v at *
  go_enter Tryz.func27, Tryz.ntmps27
  go_wp2_with fail
  refine hdn.mono ?_
  rintro e w1 ⟨gd, gi, rfl, hd, hbl, hg1, hg2⟩
  have b1 := B0.out.keep (Keeps.of_below (S := fun _ => False) hbl) (fun e => e)
  have k1 := K0.out.trans (Keeps.of_below (S := fun _ => False) hbl) (U := fun _ => False) (fun _ _ e => e) (fun _ _ e => e)
  have hnew := hn w1 gd gi hd (hT0.out.keeps (Keeps.of_below (S := fun _ => False) hbl) (fun e => e)) (by omega) (by omega)
  obtain ⟨c0, c1, c2, c3, c4, c5, c6, c7⟩ := Cfg.at b1
  have K1 := Hd.mk k1
  clear hdn hbl hd hn k1 b1
  go_wp2_with fail
  refine hnew.mono ?_
  rintro e w2 ⟨S, rfl, hS, hG1, hG2, hk2, hft⟩
  have A1 := Hd.mk hS
  have A2 := Hd.mk hk2
  have A3 := Hd.mk hft
  have z1 := K1.out.size
  have A4 := Hd.mk hG1
  have A5 := Hd.mk hG2
  clear hS hk2 hft hnew hG1 hG2
  go_wp2_with fail
  go_ret2
  refine ⟨S, by rw [A4.out]; rfl, A1.out, K1.out.trans A2.out (fun _ _ e => e) (fun _ _ e => e), fun x hx => ?_⟩
  rcases A3.out x hx with e | e | e <;> omega

def leastC : Cfg := ⟨9, 200, 8, 8, 16, 16, 2, 1⟩
theorem leastC_right : leastC.Right := by decide
theorem leastC_in : leastC.In := by unfold Cfg.In in64; decide

theorem least_ : Calls Tryz.prog 76 #[] w fun e w' => e = .returned leastC.v ∧ Keeps (fun _ => False) w w' := by
  go_enter Tryz.func76, Tryz.ntmps76
  go_wp2_with fail
  refine bodyPost_ret (v := leastC.v) (by simp [results, Tryz.results76, go_sem, Cfg.v, leastC]) rfl ⟨rfl, ?_⟩
  refine Keeps.of_below ?_
  go_grown

/-- The bytes of a leaf with no pairs. -/
def leafB (c : Cfg) : List UInt8 := slot (frontB 1 0 0 0) c.bytes.toNat
theorem leafB_length (hr : c.Right) : (leafB c).length = c.bytes.toNat := by
  unfold leafB
  refine slot_length ?_
  obtain ⟨_, _, _, _, _, h5, _⟩ := hr
  simp
  omega

theorem encode_none (hc : c.In) (hr : c.Right) (p1 p2 p3 p4 : Option Addr) (m1 m2 m3 m4 : Nat) :
    Calls Tryz.prog 69 #[c.v, nodeV 0 (.slice p1 0 m1) (.slice p2 0 m2) (.slice p3 0 m3) (.slice p4 0 m4)] w fun e w' => ∃ v', e = .returned (.tuple #[v', .int .i64 0]) ∧ OwnB w' v' (leafB c) ∧ Grew w w' nilV v' := by
  have h0 : 0 ≤ c.leaf := by
    obtain ⟨⟨h1, h2, h3, h4, h5, h6, h7, h8, h9, h10⟩, _⟩ := hr
    omega
  have h64 : 64 ≤ c.bytes := by
    obtain ⟨_, _, _, _, _, h5, _⟩ := hr
    exact h5
  exact encode_outer c hc hr 0 _ _ _ _ rfl rfl rfl rfl (fun w' _ => node_right_none c hc h0 _ _ _ p1 p2 p3 p4 m1 m2 m3 m4) (by omega) (frontB 1 0 0 0) (by intro e; have := congrArg List.length e; simp at this) (by simp; omega) (fun w' _ => write_outer_none c 0 p1 p2 p3 p4 m1 m2 m3 m4)

theorem shelf_load_zeros {S : SIds} {k : Nat} {L : Nat → List UInt8} {H : Nat → Bool} {r s : Nat} (h : IsShelf w S c k L H r s) (i : Nat) (h0 : 0 < i) (hi : i < c.blocks.toNat) (hz : L i = List.replicate c.bytes.toNat 0) :
    Calls Tryz.prog 21 #[.pointer (some ⟨S.gs, 0, none⟩), .int .u32 i] w fun e w' => e = .returned (.tuple #[nodeV 0 nilV nilV nilV nilV, .int .i64 12]) ∧ ∃ r' s', IsShelf w' S c k L H r' s' ∧ Keeps (SFoot S) w w' := by
  refine (shelf_load h i h0 hi (fun _ l a1 a2 a3 a4 x => l = 0 ∧ a1 = nilV ∧ a2 = nilV ∧ a3 = nilV ∧ a4 = nilV ∧ x = 12) (fun _ _ _ _ _ _ _ _ _ _ h => h) (fun w1 b off cap _ hb _ => ?_)).mono ?_
  · rw [hz] at hb
    refine (decode_zeros c h.inn h.right hb).mono ?_
    rintro e w2 ⟨rfl, hk⟩
    exact ⟨0, nilV, nilV, nilV, nilV, 12, rfl, ⟨⟨_, _, _, rfl⟩, ⟨_, _, _, rfl⟩, ⟨_, _, _, rfl⟩, ⟨_, _, _, rfl⟩⟩, ⟨rfl, rfl, rfl, rfl, rfl, rfl⟩, hk⟩
  · rintro e w2 ⟨l, a1, a2, a3, a4, x, rfl, _, ⟨rfl, rfl, rfl, rfl, rfl, rfl⟩, r', s', hS, _, _, _, _, _, hk⟩
    exact ⟨rfl, r', s', hS, hk⟩

set_option maxRecDepth 100000 in
set_option maxHeartbeats 1000000 in
theorem awake18 (hT : Tab w) : Calls Tryz.prog 29 #[] w fun e w' => e = .returned (.bool true) ∧ Keeps (fun _ => False) w w' := by
  have hTl := hT.lt
  have HT := Hd.mk hT
  clear hT
  go_enter Tryz.func29, Tryz.ntmps29
  go_wp2_with fail
  refine least_.mono ?_
  rintro e w1 ⟨rfl, k1⟩
  have hbg := begun leastC_in leastC_right (HT.out.keeps k1 (fun e => e))
  have K1s := Hd.mk k1.size
  have K1 := Hd.mk k1
  clear k1
  generalize hcv : leastC.v = cv at *
  go_wp2_with fail
  refine hbg.mono ?_
  rintro e w2 ⟨S, rfl, hS, k2, hft⟩
  have A1 := Hd.mk hft
  have K2 := Hd.mk (K1.out.trans k2 (U := fun _ => False) (fun _ _ e => e) (fun _ _ e => e))
  have hmk := shelf_make hS 0 nilV nilV nilV nilV rfl rfl rfl rfl (leafB leastC) (leafB_length leastC_right) rfl (by decide) (fun w' _ => encode_none leastC_in leastC_right none none none none 0 0 0 0)
  unfold nodeV at hmk
  clear hft k2 hbg K1 hS
  have HV := Hd.mk hcv
  clear hcv
  go_wp2_with fail
  refine hmk.mono ?_
  rintro e w3 ⟨i, rfl, hi0, hi1, hi2, hi3, s', hS3, hs1, hs2, hk3⟩
  have e1 : i = 1 := by
    rcases Nat.lt_or_ge 1 i with h | h
    · have := hi3 1 h; simp at this
    · omega
  subst e1
  have k3 := K2.out.trans hk3 (U := fun x => w1.heap.size ≤ x) (fun _ _ e => e.elim) (fun x _ e => A1.out x e)
  have hld := shelf_load_zeros hS3 2 (by omega) (by decide) (by simp [updD])
  unfold nodeV at hld
  have K3 := Hd.mk k3
  clear hmk k3 hk3 hS3 hi2 hi3 hi1 hi0 K2
  go_wp2_with fail
  refine hld.mono ?_
  rintro e w4 ⟨rfl, r4, s4, hS4, hk4⟩
  have k4 := K3.out.trans hk4 (U := fun x => w1.heap.size ≤ x) (fun _ _ e => e) (fun x _ e => A1.out x e)
  have kA : Keeps (fun _ => False) w4 (w4.alloc (.cells #[.int .i64 0, nilV, nilV, nilV, nilV] 42)) := (Keeps.refl _ w4).alloc _
  have hS5 := hS4.keep0 kA
  have hlf := shelf_left hS5
  have e7 : leastC.blocks - (heldCount leastC.blocks.toNat (updH (fun j => decide (j = 0)) 1 true) : Int) = 7 := by decide
  rw [e7] at hlf
  have K4 := Hd.mk (k4.trans kA (U := fun x => w1.heap.size ≤ x) (fun _ _ e => e) (fun _ _ e => e.elim))
  have S5 := Hd.mk hS5
  clear hld k4 hk4 hS4 kA hS5 e7
  go_wp2_with fail
  generalize w4.alloc (.cells #[.int .i64 0, nilV, nilV, nilV, nilV] 42) = w5 at *
  refine hlf.mono ?_
  rintro e w6 ⟨rfl, hk6⟩
  have hhs := shelf_has_in (S5.out.keep0 hk6) 1 (by decide)
  have K6 := Hd.mk (K4.out.trans hk6 (U := fun x => w1.heap.size ≤ x) (fun _ _ e => e) (fun _ _ e => e.elim))
  clear hlf hk6 S5
  go_wp2_with fail
  refine hhs.mono ?_
  rintro e w7 ⟨rfl, rfl⟩
  go_wp2_with fail
  go_ret
  refine ⟨rfl, K6.out.mono (fun x hx e => ?_)⟩
  have := K1s.out
  omega

end
end Go.Proofs.Sg
