/- A shelf: Load. -/
import Derived.Test.YthkbpcnbnhiefaaGreatDoorShelf4
namespace Go.Proofs.Sg
set_option linter.unusedSimpArgs false
set_option linter.unusedVariables false
open Go.RowKit Go.Lib

/-- A slice, whichever. -/
def IsSl (v : Value) : Prop := ∃ p n m, v = .slice p n m

section
variable {w w' : World} {S : SIds} {c : Cfg} {k : Nat} {L : Nat → List UInt8} {H : Nat → Bool} {r s : Nat}

theorem shelf_load_out (h : IsShelf w S c k L H r s) (i : Nat) (hi : i = 0 ∨ c.blocks.toNat ≤ i) (hi2 : i < 4294967296) :
    Calls Tryz.prog 21 #[.pointer (some ⟨S.gs, 0, none⟩), .int .u32 i] w fun e w' => e = .returned (.tuple #[nodeV 0 nilV nilV nilV nilV, .int .i64 4]) ∧ Keeps (fun _ => False) w w' := by
  have hN := h.keep0 ((Keeps.refl (fun _ => False) w).alloc (.cells #[.int .i64 0, nilV, nilV, nilV, nilV] 42))
  have ht : Calls Tryz.prog 65 #[.pointer (some ⟨S.gs, 0, none⟩), .int .u32 i] (w.alloc (.cells #[.int .i64 0, nilV, nilV, nilV, nilV] 42)) fun e w' => e = .returned (.int .i64 4) ∧ (w.alloc (.cells #[.int .i64 0, nilV, nilV, nilV, nilV] 42)) = w' := by
    rcases hi with rfl | hi
    · exact shelf_there_zero hN
    · exact shelf_there_out hN i hi hi2
  unfold nodeV
  go_enter Tryz.func21, Tryz.ntmps21
  go_wp2_with fail
  refine ht.mono ?_
  rintro e w' ⟨rfl, rfl⟩
  clear ht hN
  go_wp2_with fail
  refine bodyPost_ret (v := .tuple #[.agg #[.int .i64 0, nilV, nilV, nilV, nilV], .int .i64 4]) (by simp [results, Tryz.results21, go_sem]) rfl ⟨rfl, ?_⟩
  repeat refine Keeps.setCell ?_ (fun h => absurd h (Nat.lt_irrefl _)) _
  exact (Keeps.refl (fun _ => False) w).alloc _

set_option maxRecDepth 100000 in
set_option maxHeartbeats 2000000 in
/-- What a block's bytes are decoded to: Q. -/
theorem shelf_load (h : IsShelf w S c k L H r s) (i : Nat) (h0 : 0 < i) (hi : i < c.blocks.toNat) (Q : World → Int → Value → Value → Value → Value → Int → Prop)
    (hQ : ∀ w1 w2 l a1 a2 a3 a4 x, Keeps (fun g => g = w.heap.size) w1 w2 → tag w1 w.heap.size = some (42 + 1) → Q w1 l a1 a2 a3 a4 x → Q w2 l a1 a2 a3 a4 x)
    (hD : ∀ w' b off cap, Keeps (SFoot S) w w' → BytesAt w' b off (L i) → w.heap.size < w'.heap.size → Calls Tryz.prog 35 #[c.v, .slice (some ⟨b, off, none⟩) c.bytes.toNat cap] w' fun e w'' => ∃ l a1 a2 a3 a4 x, e = .returned (.tuple #[nodeV l a1 a2 a3 a4, .int .i64 x]) ∧
      (IsSl a1 ∧ IsSl a2 ∧ IsSl a3 ∧ IsSl a4) ∧ Q w'' l a1 a2 a3 a4 x ∧ Keeps (fun _ => False) w' w'') :
    Calls Tryz.prog 21 #[.pointer (some ⟨S.gs, 0, none⟩), .int .u32 i] w fun e w' => ∃ l a1 a2 a3 a4 x, e = .returned (.tuple #[nodeV l a1 a2 a3 a4, .int .i64 x]) ∧
      (IsSl a1 ∧ IsSl a2 ∧ IsSl a3 ∧ IsSl a4) ∧ Q w' l a1 a2 a3 a4 x ∧ ∃ r' s', IsShelf w' S c k L H r' s' ∧ r ≤ r' ∧ r' ≤ r + 1 ∧ s ≤ s' ∧ s' ≤ s + 1 ∧ (i = k → r' = r ∧ s' = s) ∧ Keeps (SFoot S) w w' := by
  have kN := (Keeps.refl (fun _ => False) w).alloc (.cells #[.int .i64 0, nilV, nilV, nilV, nilV] 42)
  have bN := Blk.new w 42 #[.int .i64 0, nilV, nilV, nilV, nilV]
  have zN : (w.alloc (.cells #[.int .i64 0, nilV, nilV, nilV, nilV] 42)).heap.size = w.heap.size + 1 := by simp
  have hN := h.keep0 kN
  have hbk := h.blocks
  have hT := Hd.mk h.pool.2.2.lt
  generalize hw0 : w.alloc (.cells #[.int .i64 0, nilV, nilV, nilV, nilV] 42) = w0 at *
  obtain ⟨⟨c0, c1, c2, c3, c4, c5, c6, c7⟩, c8, c9, c10, c11⟩ := hN.cells
  obtain ⟨cs, hc, hf, hL, rfl, rfl⟩ := hN.cache
  have ap := Hd.mk h.apart
  have hlt := Hd.mk (fun x => h.foot_lt (x := x))
  have hpin := cache_pin_any hc hf (by omega) i hi
  have hat : i = k → cs.at_ i ≠ none := fun e => hf.held i (by
    subst e
    have : i ≠ 0 := by omega
    simp [keptP, this])
  have hL' := Hd.mk hL
  clear h hc hf hL
  unfold Cfg.v nodeV at *
  go_enter Tryz.func21, Tryz.ntmps21
  go_wp2_with fail
  clear hw0
  refine (shelf_there_in hN i h0 hi).mono ?_
  rintro e w' ⟨rfl, rfl⟩
  go_wp2_with fail
  refine hpin.mono ?_
  rintro e w1 ⟨rfl, cs1, hc1, hf1, hL1, hr1, hr1', hs1, hs1', hn1, hk1⟩
  have b1 : w1.cell? ⟨S.gs, 9, none⟩ = some (.pointer (some ⟨S.G.gc, 0, none⟩)) := (hN.box.keep hk1 ap.out.1).cell 9
  have hread := cache_read_any hc1 hf1 i hi (by rw [upd_at]; omega)
  have A1 := Hd.mk hL1
  have A2 := Hd.mk hk1
  have A3 := Hd.mk hc1
  have A4 := Hd.mk hf1
  clear hpin hL1 hk1 hc1 hf1
  go_wp2_with fail
  refine hread.mono ?_
  rintro e w2 ⟨g, cc, rfl, hg1, hg2, hgb, hby, hb2⟩
  have hc2 := A3.out.keep (S := fun _ => False) (Keeps.of_below hb2) (fun _ _ e => e)
  have k02 := A2.out.trans (Keeps.of_below (S := fun _ => False) hb2) (U := CFoot S.G) (fun _ _ e => e) (fun _ _ e => e.elim)
  have b2 : w2.cell? ⟨S.gs, 9, none⟩ = some (.pointer (some ⟨S.G.gc, 0, none⟩)) := (hN.box.keep k02 ap.out.1).cell 9
  have hunp := cache_unpin_any hc2 A4.out i hi (by rw [upd_at]; omega) (by rw [upd_at]; have := keptP_le k i; omega)
  rw [upd_at] at hunp
  have B1 := Hd.mk hby
  have B2 := Hd.mk k02
  have hgf : ∀ x, CFoot S.G x → x < w1.heap.size := fun x hx => Nat.lt_of_lt_of_le (hlt.out x (.inl hx)) (Nat.le_trans (by omega) A2.out.size)
  have B3 := Hd.mk hgf
  clear hread hby hb2 hc2 k02 A3 b1 hgf hgb
  go_wp2_with fail
  refine hunp.mono ?_
  rintro e w3 ⟨rfl, cs3, hc3, hf3, hL3, hr3, hs3, hk3⟩
  have k03 := B2.out.trans hk3 (U := CFoot S.G) (fun _ _ e => e) (fun _ _ e => e)
  have hf3' : Fine (keptP k) cs3 := by
    have e : upd (upd (keptP k) i (keptP k i + 1)) i (keptP k i + 1 - 1) = keptP k := by
      funext j; unfold upd; split
      · rename_i e; rw [e]; omega
      · rfl
    rwa [e] at hf3
  have hS3 := hN.cached k03 hc3 hf3' (L' := L) (fun j hj => by rw [hL3, A1.out]; exact hL'.out j hj)
  have hb3 : BytesAt w3 g 0 (L i) := by
    have e := B1.out.keep (hk3.block g hg2 (fun e => by have := B3.out g e; omega))
    rw [A1.out, hL'.out i hi] at e
    exact e
  have kk : Keeps (SFoot S) w w3 := kN.trans k03 (U := SFoot S) (fun _ _ e => e.elim) (fun _ _ e => .inl e)
  have bN3 : Blk w3 w.heap.size 42 #[.int .i64 0, nilV, nilV, nilV, nilV] := bN.keep k03 (fun e => by have := hlt.out _ (.inl e); omega)
  have hdec := hD w3 g 0 cc kk hb3 bN3.lt
  obtain ⟨⟨c0', c1', c2', c3', c4', c5', c6', c7'⟩, c8', c9', c10', c11'⟩ := hS3.cells
  have C1 := Hd.mk hS3
  have C2 := Hd.mk kk
  have C3 := Hd.mk bN3
  clear hunp hL3 hk3 hc3 hf3 hf3' hS3 hb3 kk bN3 k03 B1 B2 hD c0 c1 c2 c3 c4 c5 c6 c7 c8 c9 c10 c11 b2
  go_wp2_with fail
  refine hdec.mono ?_
  rintro e w4 ⟨l, a1, a2, a3, a4, x, rfl, ⟨⟨p1, n1, m1, rfl⟩, ⟨p2, n2, m2, rfl⟩, ⟨p3, n3, m3, rfl⟩, ⟨p4, n4, m4, rfl⟩⟩, hq, hk4⟩
  have bN4 := C3.out.keep hk4 (fun e => e)
  obtain ⟨y0, y1, y2, y3, y4⟩ := bN4.five
  have fz : ∀ k, _ := bN4.frozen
  have D1 := Hd.mk ((((((bN4.set_ 0 (.int .i64 l)).set_ 1 (.slice p1 n1 m1)).set_ 2 (.slice p2 n2 m2)).set_ 3 (.slice p3 n3 m3)).set_ 4 (.slice p4 n4 m4)))
  have D2 := Hd.mk (C2.out.trans hk4 (U := SFoot S) (fun _ _ e => e) (fun _ _ e => e.elim))
  have D3 := Hd.mk (C1.out.keep0 hk4)
  have D4 := Hd.mk hq
  have D5 := Hd.mk bN4.tag
  clear hdec hk4 bN4 hq C1 C2 C3
  go_wp2_with fail
  have q0 : World.cell? _ ⟨w.heap.size, 0, none⟩ = some (.int .i64 l) := D1.out.cell 0
  have q1 : World.cell? _ ⟨w.heap.size, 1, none⟩ = some (.slice p1 n1 m1) := D1.out.cell 1
  have q2 : World.cell? _ ⟨w.heap.size, 2, none⟩ = some (.slice p2 n2 m2) := D1.out.cell 2
  have q3 : World.cell? _ ⟨w.heap.size, 3, none⟩ = some (.slice p3 n3 m3) := D1.out.cell 3
  have q4 : World.cell? _ ⟨w.heap.size, 4, none⟩ = some (.slice p4 n4 m4) := D1.out.cell 4
  have k5 : Keeps (fun g => g = w.heap.size) w4 (((((w4.setCell ⟨w.heap.size, 0, none⟩ (.int .i64 l)).setCell ⟨w.heap.size, 1, none⟩ (.slice p1 n1 m1)).setCell ⟨w.heap.size, 2, none⟩ (.slice p2 n2 m2)).setCell ⟨w.heap.size, 3, none⟩ (.slice p3 n3 m3)).setCell ⟨w.heap.size, 4, none⟩ (.slice p4 n4 m4)) := by
    exact (((((Keeps.refl (fun g => g = w.heap.size) w4).setCell (p := ⟨w.heap.size, 0, none⟩) (fun _ => rfl) _).setCell (p := ⟨w.heap.size, 1, none⟩) (fun _ => rfl) _).setCell (p := ⟨w.heap.size, 2, none⟩) (fun _ => rfl) _).setCell (p := ⟨w.heap.size, 3, none⟩) (fun _ => rfl) _).setCell (p := ⟨w.heap.size, 4, none⟩) (fun _ => rfl) _
  refine bodyPost_ret (v := .tuple #[.agg #[.int .i64 l, .slice p1 n1 m1, .slice p2 n2 m2, .slice p3 n3 m3, .slice p4 n4 m4], .int .i64 x]) (by simp [results, Tryz.results21, go_sem, q0, q1, q2, q3, q4]) rfl ⟨l, _, _, _, _, x, rfl, ⟨⟨_, _, _, rfl⟩, ⟨_, _, _, rfl⟩, ⟨_, _, _, rfl⟩, ⟨_, _, _, rfl⟩⟩, hQ _ _ _ _ _ _ _ _ k5 D5.out D4.out, _, _, D3.out.keep k5 ?_ ?_ ?_, ?_, ?_, ?_, ?_, ?_, ?_⟩
  · rintro y hy rfl
    exact Nat.lt_irrefl _ (hlt.out _ hy)
  · rintro y rfl
    rw [D5.out]
    decide
  · intro e
    have := hT.out
    omega
  · omega
  · omega
  · omega
  · omega
  · intro e
    have := hn1 (hat e)
    omega
  · exact D2.out.trans k5 (U := SFoot S) (fun _ _ e => e) (fun _ h e => by omega)

end
end Go.Proofs.Sg
