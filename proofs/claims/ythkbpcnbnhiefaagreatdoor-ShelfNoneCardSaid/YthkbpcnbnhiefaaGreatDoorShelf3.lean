/- A shelf: there, made, Left, Has, lay. -/
import Derived.Test.YthkbpcnbnhiefaaGreatDoorShelf2
namespace Go.Proofs.Sg
set_option linter.unusedSimpArgs false
set_option linter.unusedVariables false
open Go.RowKit Go.Lib

section
variable {w w' : World} {S : SIds} {c : Cfg} {k : Nat} {L : Nat → List UInt8} {H : Nat → Bool} {r s : Nat}

theorem shelf_there_in (h : IsShelf w S c k L H r s) (i : Nat) (h0 : 0 < i) (hi : i < c.blocks.toNat) :
    Calls Tryz.prog 65 #[.pointer (some ⟨S.gs, 0, none⟩), .int .u32 i] w fun e w' => e = .returned (.int .i64 0) ∧ w = w' := by
  obtain ⟨⟨c0, c1, c2, c3, c4, c5, c6, c7⟩, c8, c9, c10, c11⟩ := h.cells
  have hb := h.blocks
  have hz : ((i : Int) == 0) = false := by simp; omega
  have hlt : ¬ c.blocks ≤ (i : Int) := by omega
  go_enter Tryz.func65, Tryz.ntmps65
  go_wp2
  go_ret
  exact ⟨rfl, rfl⟩

theorem shelf_there_zero (h : IsShelf w S c k L H r s) :
    Calls Tryz.prog 65 #[.pointer (some ⟨S.gs, 0, none⟩), .int .u32 0] w fun e w' => e = .returned (.int .i64 4) ∧ w = w' := by
  obtain ⟨⟨c0, c1, c2, c3, c4, c5, c6, c7⟩, c8, c9, c10, c11⟩ := h.cells
  go_enter Tryz.func65, Tryz.ntmps65
  go_wp2
  go_ret
  exact ⟨rfl, rfl⟩

theorem shelf_there_out (h : IsShelf w S c k L H r s) (i : Nat) (hi : c.blocks.toNat ≤ i) (hi2 : i < 4294967296) :
    Calls Tryz.prog 65 #[.pointer (some ⟨S.gs, 0, none⟩), .int .u32 i] w fun e w' => e = .returned (.int .i64 4) ∧ w = w' := by
  obtain ⟨⟨c0, c1, c2, c3, c4, c5, c6, c7⟩, c8, c9, c10, c11⟩ := h.cells
  have hb := h.blocks
  have hz : ((i : Int) == 0) = false := by simp; omega
  have hlt : c.blocks ≤ (i : Int) := by omega
  go_enter Tryz.func65, Tryz.ntmps65
  go_wp2
  go_ret
  exact ⟨rfl, rfl⟩

theorem shelf_made (h : IsShelf w S c k L H r s) :
    Calls Tryz.prog 83 #[.pointer (some ⟨S.gs, 0, none⟩)] w fun e w' => e = .returned (.int .i64 0) ∧ w = w' := by
  obtain ⟨⟨c0, c1, c2, c3, c4, c5, c6, c7⟩, c8, c9, c10, c11⟩ := h.cells
  go_enter Tryz.func83, Tryz.ntmps83
  go_wp2
  go_ret
  exact ⟨rfl, rfl⟩

theorem shelf_left (h : IsShelf w S c k L H r s) :
    Calls Tryz.prog 45 #[.pointer (some ⟨S.gs, 0, none⟩)] w fun e w' => e = .returned (.int .i64 (c.blocks - heldCount c.blocks.toNat H)) ∧ Keeps (fun _ => False) w w' := by
  obtain ⟨⟨c0, c1, c2, c3, c4, c5, c6, c7⟩, c8, c9, c10, c11⟩ := h.cells
  have hb := h.blocks
  have e : ((c.blocks.toNat : Nat) : Int) = c.blocks := by omega
  have hp := pool_free h.pool
  rw [e] at hp
  go_enter Tryz.func45, Tryz.ntmps45
  go_wp2_with fail
  refine hp.mono ?_
  rintro e w' ⟨rfl, q, rfl⟩
  go_wp2
  go_ret
  exact ⟨rfl, (Keeps.refl _ w).drewN q⟩

theorem shelf_has_in (h : IsShelf w S c k L H r s) (i : Nat) (hi : i < c.blocks.toNat) :
    Calls Tryz.prog 18 #[.pointer (some ⟨S.gs, 0, none⟩), .int .u32 i] w fun e w' => e = .returned (.bool (H i)) ∧ w = w' := by
  obtain ⟨⟨c0, c1, c2, c3, c4, c5, c6, c7⟩, c8, c9, c10, c11⟩ := h.cells
  have hb := h.blocks
  go_enter Tryz.func18, Tryz.ntmps18
  go_wp2_with fail
  refine (pool_has h.pool i hi).mono ?_
  rintro e w' ⟨rfl, rfl⟩
  go_wp2
  go_ret
  exact ⟨rfl, rfl⟩

theorem IsShelf.foot_lt (h : IsShelf w S c k L H r s) {x : Nat} (hx : SFoot S x) : x < w.heap.size := by
  obtain ⟨cs, a, _⟩ := h.cache
  obtain ⟨t3, t4⟩ := h.pool.2.1.parts
  rcases hx with hx | rfl | rfl | rfl | rfl
  · exact Foot_lt a.tags hx
  · exact h.box.lt
  · exact h.pool.1.lt
  · exact tag_lt t3
  · exact tag_lt t4

/-- A free block, or any but the kept one, is given bytes. -/
theorem shelf_given (h : IsShelf w S c k L H r s) (i : Nat) (h0 : 0 < i) (hi : i < c.blocks.toNat) (g off cc : Nat) (bs : List UInt8) (hb : BytesAt w g off bs) (hl : bs.length = c.bytes.toNat) (hg : ¬ SFoot S g) :
    Calls Tryz.prog 70 #[.pointer (some ⟨S.gs, 0, none⟩), .int .u32 i, .slice (some ⟨g, off, none⟩) c.bytes.toNat cc] w fun e w' => e = .returned (.int .i64 0) ∧
      ∃ s', IsShelf w' S c k (updD L i bs) H r s' ∧ s ≤ s' ∧ s' ≤ s + 1 ∧ (i = k → s' = s) ∧ Keeps (SFoot S) w w' := by
  obtain ⟨⟨c0, c1, c2, c3, c4, c5, c6, c7⟩, c8, c9, c10, c11⟩ := h.cells
  have hbk := h.blocks
  obtain ⟨cs, hc, hf, hL, rfl, rfl⟩ := h.cache
  by_cases hik : i = k
  · subst hik
    have hp : 0 < keptP i i := by
      have : i ≠ 0 := by omega
      simp [keptP, this]
    have hcall := cache_write_any hc hf i hi hp g off cc bs hb hl
    have A1 := Hd.mk hL
    clear hb hL
    go_enter Tryz.func70, Tryz.ntmps70
    go_wp2_with fail
    refine hcall.mono ?_
    rintro e w1 ⟨rfl, cs1, hc1, hf1, hL1, hr1, hs1, hk1⟩
    have hS := h.cached hk1 hc1 hf1 (L' := updD L i bs) (fun j hj => by rw [hL1]; unfold updD; split; rfl; exact A1.out j hj)
    rw [hr1, hs1] at hS
    have B1 := Hd.mk hS
    have B2 := Hd.mk hk1
    clear hS hk1 hL1 hf1 hc1 hcall hc hf h
    go_wp2_with fail
    go_ret
    exact ⟨rfl, _, B1.out, Nat.le_refl _, Nat.le_succ _, fun _ => rfl, B2.out.mono (fun _ _ e => .inl e)⟩
  · have hp : keptP k i = 0 := by simp [keptP, hik]
    have hcall := cache_fresh_any hc hf (by omega) i hi hp
    have A1 := Hd.mk hL
    have A2 := Hd.mk hb
    have hki : ((i : Int) == (k : Int)) = false := by simp; omega
    have ap := Hd.mk h.apart
    have B0 := Hd.mk h
    have hgf : g < w.heap.size := World.block_lt_of_cell? w _ (hb 0 (by rw [hl]; omega))
    clear hb hL h hc hf
    go_enter Tryz.func70, Tryz.ntmps70
    go_wp2_with fail
    refine hcall.mono ?_
    rintro e w1 ⟨rfl, cs1, hc1, hf1, hL1, hr1, hs1, hs1', hk1⟩
    have b1 : w1.cell? ⟨S.gs, 9, none⟩ = some (.pointer (some ⟨S.G.gc, 0, none⟩)) := (B0.out.box.keep hk1 ap.out.1).cell 9
    have hcall2 := cache_write_any hc1 hf1 i hi (by rw [upd_at]; omega) g off cc bs (A2.out.keep (hk1.block g hgf (fun e => hg (.inl e)))) hl
    have C1 := Hd.mk hL1
    have C2 := Hd.mk hk1
    clear hL1 hk1 hcall hc1 hf1
    go_wp2_with fail
    refine hcall2.mono ?_
    rintro e w2 ⟨rfl, cs2, hc2, hf2, hL2, hr2, hs2, hk2⟩
    have k02 := C2.out.trans hk2 (U := CFoot S.G) (fun _ _ e => e) (fun _ _ e => e)
    have b2 : w2.cell? ⟨S.gs, 9, none⟩ = some (.pointer (some ⟨S.G.gc, 0, none⟩)) := (B0.out.box.keep k02 ap.out.1).cell 9
    have hcall3 := cache_unpin_any hc2 hf2 i hi (by rw [upd_at]; omega) (by rw [upd_at]; omega)
    rw [upd_at] at hcall3
    have D1 := Hd.mk hL2
    have D2 := Hd.mk k02
    clear hL2 hk2 k02 hcall2 hc2 hf2
    go_wp2_with fail
    refine hcall3.mono ?_
    rintro e w3 ⟨rfl, cs3, hc3, hf3, hL3, hr3, hs3, hk3⟩
    have k03 := D2.out.trans hk3 (U := CFoot S.G) (fun _ _ e => e) (fun _ _ e => e)
    have hf3' : Fine (keptP k) cs3 := by
      have e : upd (upd (keptP k) i 1) i (1 - 1) = keptP k := by
        funext j; unfold upd; split
        · rename_i e; rw [e, hp]
        · rfl
      rwa [e] at hf3
    have hS := B0.out.cached k03 hc3 hf3' (L' := updD L i bs) (fun j hj => by
      rw [hL3, D1.out]; unfold updD; split
      · rfl
      · rename_i e
        rw [C1.out, updD, if_neg e]; exact A1.out j hj)
    rw [hr3, hr2, hr1] at hS
    have E1 := Hd.mk hS
    have E2 := Hd.mk k03
    clear hS k03 hf3' hL3 hf3 hc3 hk3 hcall3
    go_wp2_with fail
    go_ret
    exact ⟨rfl, _, E1.out, by omega, by omega, fun e => absurd e hik, E2.out.mono (fun _ _ e => .inl e)⟩

end
end Go.Proofs.Sg
