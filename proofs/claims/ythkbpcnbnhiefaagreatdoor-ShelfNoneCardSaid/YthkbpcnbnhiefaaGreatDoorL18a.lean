/- The statements' helpers of layer 18: Begun, least, awake. -/
import Derived.Test.YthkbpcnbnhiefaaGreatDoorShelf6
namespace Go.Proofs.Sg
set_option linter.unusedSimpArgs false
set_option linter.unusedVariables false
open Go.RowKit Go.Lib

section
variable {w w' : World} {c : Cfg}

theorem begun (hc : c.In) (hr : c.Right) (hT : Tab w) :
    Calls Tryz.prog 27 #[c.v] w fun e w' => ∃ S : SIds, e = .returned (.tuple #[.pointer (some ⟨S.gs, 0, none⟩), .pointer (some ⟨S.G.gd, 0, none⟩)]) ∧
      IsShelf w' S c 0 (fun _ => List.replicate c.bytes.toNat 0) (fun j => decide (j = 0)) 0 0 ∧ Keeps (fun _ => False) w w' ∧ (∀ k, SFoot S k → w.heap.size ≤ k) := by
  have hb : 5 ≤ c.blocks ∧ c.blocks ≤ 65536 ∧ 64 ≤ c.bytes ∧ c.bytes ≤ 65536 := by
    obtain ⟨_, h1, h2, h3, h4, h5, h6, _⟩ := hr
    exact ⟨h1, h2, h5, h6⟩
  have e1 : c.blocks = (c.blocks.toNat : Int) := by omega
  have e2 : c.bytes = (c.bytes.toNat : Int) := by omega
  have b0 := Blk.new w 23 c.cells
  have k0 := (Keeps.refl (fun _ => False) w).alloc (.cells c.cells 23)
  have hdn := dev_new (w := w.alloc (.cells c.cells 23)) c.blocks.toNat c.bytes.toNat (by omega) (by omega) (by omega) (by omega)
  rw [← e1, ← e2] at hdn
  have E := Hd.mk (And.intro e1 e2)
  have hT0 := Hd.mk (hT.keeps k0 (fun e => e))
  have hTl := hT.lt
  have z0 := k0.size
  have HR := Hd.mk (And.intro hc hr)
  have K0 := Hd.mk k0
  have B0 := Hd.mk b0
  have hn : ∀ w2 gd gi (hd : IsDev w2 gd gi c.blocks.toNat c.bytes.toNat (fun _ => List.replicate c.bytes.toNat 0) 0 0) (hT : Tab w2) (hgt : gd ≠ 0) (hit : gi ≠ 0), _ := fun w2 gd gi hd hT hgt hit => shelf_new (w := w2) HR.out.1 HR.out.2 hd E.out.1 E.out.2 hT hgt hit
  clear e1 e2 hT hc hr k0 b0
  obtain ⟨c0, c1, c2, c3, c4, c5, c6, c7⟩ := Cfg.at B0.out
  unfold Cfg.v at *
  go_enter Tryz.func27, Tryz.ntmps27
  go_wp2_with fail
  refine hdn.mono ?_
  rintro e w1 ⟨gd, gi, rfl, hd, hbl, hg1, hg2⟩
  have b1 := B0.out.keep (Keeps.of_below (S := fun _ => False) hbl) (fun e => e)
  have k1 := K0.out.trans (Keeps.of_below (S := fun _ => False) hbl) (U := fun _ => False) (fun _ _ e => e) (fun _ _ e => e)
  have hnew := hn w1 gd gi hd (hT0.out.keeps (Keeps.of_below (S := fun _ => False) hbl) (fun e => e)) (by omega) (by omega)
  obtain ⟨c0, c1, c2, c3, c4, c5, c6, c7⟩ := Cfg.at b1
  have K1 := Hd.mk k1
  clear hdn hbl hd hn k1 b1
  go_wp2_with fail
  refine hnew.mono ?_
  rintro e w2 ⟨S, rfl, hS, hG1, hG2, hk2, hft⟩
  have A1 := Hd.mk hS
  have A2 := Hd.mk hk2
  have A3 := Hd.mk hft
  have z1 := K1.out.size
  have A4 := Hd.mk hG1
  have A5 := Hd.mk hG2
  clear hS hk2 hft hnew hG1 hG2
  go_wp2_with fail
  go_ret2
  refine ⟨S, by rw [A4.out]; rfl, A1.out, K1.out.trans A2.out (fun _ _ e => e) (fun _ _ e => e), fun x hx => ?_⟩
  rcases A3.out x hx with e | e | e <;> omega

def leastC : Cfg := ⟨9, 200, 8, 8, 16, 16, 2, 1⟩
theorem leastC_right : leastC.Right := by decide
theorem leastC_in : leastC.In := by unfold Cfg.In in64; decide

theorem least_ : Calls Tryz.prog 76 #[] w fun e w' => e = .returned leastC.v ∧ Keeps (fun _ => False) w w' := by
  go_enter Tryz.func76, Tryz.ntmps76
  go_wp2_with fail
  refine bodyPost_ret (v := leastC.v) (by simp [results, Tryz.results76, go_sem, Cfg.v, leastC]) rfl ⟨rfl, ?_⟩
  refine Keeps.of_below ?_
  go_grown

/-- The bytes of a leaf with no pairs. -/
def leafB (c : Cfg) : List UInt8 := slot (frontB 1 0 0 0) c.bytes.toNat
theorem leafB_length (hr : c.Right) : (leafB c).length = c.bytes.toNat := by
  unfold leafB
  refine slot_length ?_
  obtain ⟨_, _, _, _, _, h5, _⟩ := hr
  simp
  omega

theorem encode_none (hc : c.In) (hr : c.Right) (p1 p2 p3 p4 : Option Addr) (m1 m2 m3 m4 : Nat) :
    Calls Tryz.prog 69 #[c.v, nodeV 0 (.slice p1 0 m1) (.slice p2 0 m2) (.slice p3 0 m3) (.slice p4 0 m4)] w fun e w' => ∃ v', e = .returned (.tuple #[v', .int .i64 0]) ∧ OwnB w' v' (leafB c) ∧ Grew w w' nilV v' := by
  have h0 : 0 ≤ c.leaf := by
    obtain ⟨⟨h1, h2, h3, h4, h5, h6, h7, h8, h9, h10⟩, _⟩ := hr
    omega
  have h64 : 64 ≤ c.bytes := by
    obtain ⟨_, _, _, _, _, h5, _⟩ := hr
    exact h5
  exact encode_outer c hc hr 0 _ _ _ _ rfl rfl rfl rfl (fun w' _ => node_right_none c hc h0 _ _ _ p1 p2 p3 p4 m1 m2 m3 m4) (by omega) (frontB 1 0 0 0) (by intro e; have := congrArg List.length e; simp at this) (by simp; omega) (fun w' _ => write_outer_none c 0 p1 p2 p3 p4 m1 m2 m3 m4)

theorem shelf_load_zeros {S : SIds} {k : Nat} {L : Nat → List UInt8} {H : Nat → Bool} {r s : Nat} (h : IsShelf w S c k L H r s) (i : Nat) (h0 : 0 < i) (hi : i < c.blocks.toNat) (hz : L i = List.replicate c.bytes.toNat 0) :
    Calls Tryz.prog 21 #[.pointer (some ⟨S.gs, 0, none⟩), .int .u32 i] w fun e w' => e = .returned (.tuple #[nodeV 0 nilV nilV nilV nilV, .int .i64 12]) ∧ ∃ r' s', IsShelf w' S c k L H r' s' ∧ Keeps (SFoot S) w w' := by
  refine (shelf_load h i h0 hi (fun _ l a1 a2 a3 a4 x => l = 0 ∧ a1 = nilV ∧ a2 = nilV ∧ a3 = nilV ∧ a4 = nilV ∧ x = 12) (fun _ _ _ _ _ _ _ _ _ _ h => h) (fun w1 b off cap _ hb _ => ?_)).mono ?_
  · rw [hz] at hb
    refine (decode_zeros c h.inn h.right hb).mono ?_
    rintro e w2 ⟨rfl, hk⟩
    exact ⟨0, nilV, nilV, nilV, nilV, 12, rfl, ⟨⟨_, _, _, rfl⟩, ⟨_, _, _, rfl⟩, ⟨_, _, _, rfl⟩, ⟨_, _, _, rfl⟩⟩, ⟨rfl, rfl, rfl, rfl, rfl, rfl⟩, hk⟩
  · rintro e w2 ⟨l, a1, a2, a3, a4, x, rfl, _, ⟨rfl, rfl, rfl, rfl, rfl, rfl⟩, r', s', hS, _, _, _, _, _, hk⟩
    exact ⟨rfl, r', s', hS, hk⟩

set_option maxRecDepth 100000 in
set_option maxHeartbeats 1000000 in
theorem awake18 (hT : Tab w) : Calls Tryz.prog 29 #[] w fun e w' => e = .returned (.bool true) ∧ Keeps (fun _ => False) w w' := by
  have hTl := hT.lt
  have HT := Hd.mk hT
  clear hT
  go_enter Tryz.func29, Tryz.ntmps29
  go_wp2_with fail
  refine least_.mono ?_
  rintro e w1 ⟨rfl, k1⟩
  have hbg := begun leastC_in leastC_right (HT.out.keeps k1 (fun e => e))
  have K1s := Hd.mk k1.size
  have K1 := Hd.mk k1
  clear k1
  generalize hcv : leastC.v = cv at *
  go_wp2_with fail
  refine hbg.mono ?_
  rintro e w2 ⟨S, rfl, hS, k2, hft⟩
  have A1 := Hd.mk hft
  have K2 := Hd.mk (K1.out.trans k2 (U := fun _ => False) (fun _ _ e => e) (fun _ _ e => e))
  have hmk := shelf_make hS 0 nilV nilV nilV nilV rfl rfl rfl rfl (leafB leastC) (leafB_length leastC_right) rfl (by decide) (fun w' _ => encode_none leastC_in leastC_right none none none none 0 0 0 0)
  unfold nodeV at hmk
  clear hft k2 hbg K1 hS
  have HV := Hd.mk hcv
  clear hcv
  go_wp2_with fail
  refine hmk.mono ?_
  rintro e w3 ⟨i, rfl, hi0, hi1, hi2, hi3, s', hS3, hs1, hs2, hk3⟩
  have e1 : i = 1 := by
    rcases Nat.lt_or_ge 1 i with h | h
    · have := hi3 1 h; simp at this
    · omega
  subst e1
  have k3 := K2.out.trans hk3 (U := fun x => w1.heap.size ≤ x) (fun _ _ e => e.elim) (fun x _ e => A1.out x e)
  have hld := shelf_load_zeros hS3 2 (by omega) (by decide) (by simp [updD])
  unfold nodeV at hld
  have K3 := Hd.mk k3
  clear hmk k3 hk3 hS3 hi2 hi3 hi1 hi0 K2
  go_wp2_with fail
  refine hld.mono ?_
  rintro e w4 ⟨rfl, r4, s4, hS4, hk4⟩
  have k4 := K3.out.trans hk4 (U := fun x => w1.heap.size ≤ x) (fun _ _ e => e) (fun x _ e => A1.out x e)
  have kA : Keeps (fun _ => False) w4 (w4.alloc (.cells #[.int .i64 0, nilV, nilV, nilV, nilV] 42)) := (Keeps.refl _ w4).alloc _
  have hS5 := hS4.keep0 kA
  have hlf := shelf_left hS5
  have e7 : leastC.blocks - (heldCount leastC.blocks.toNat (updH (fun j => decide (j = 0)) 1 true) : Int) = 7 := by decide
  rw [e7] at hlf
  have K4 := Hd.mk (k4.trans kA (U := fun x => w1.heap.size ≤ x) (fun _ _ e => e) (fun _ _ e => e.elim))
  have S5 := Hd.mk hS5
  clear hld k4 hk4 hS4 kA hS5 e7
  go_wp2_with fail
  generalize w4.alloc (.cells #[.int .i64 0, nilV, nilV, nilV, nilV] 42) = w5 at *
  refine hlf.mono ?_
  rintro e w6 ⟨rfl, hk6⟩
  have hhs := shelf_has_in (S5.out.keep0 hk6) 1 (by decide)
  have K6 := Hd.mk (K4.out.trans hk6 (U := fun x => w1.heap.size ≤ x) (fun _ _ e => e) (fun _ _ e => e.elim))
  clear hlf hk6 S5
  go_wp2_with fail
  refine hhs.mono ?_
  rintro e w7 ⟨rfl, rfl⟩
  go_wp2_with fail
  go_ret
  refine ⟨rfl, K6.out.mono (fun x hx e => ?_)⟩
  have := K1s.out
  omega

end
end Go.Proofs.Sg
