/- Settings: the program's Least and Check. -/
import Derived.Test.YthkbpcnbnhiefaaGreatDoorConf3
import Derived.Deep.RegionWith
import Derived.Laws.Cover1
namespace Go.Proofs.Sg
set_option linter.unusedSimpArgs false
set_option linter.unusedVariables false
open Go.RowKit

def Cfg.least (c : Cfg) : Int := max (max 64 c.inner) c.outer

theorem least_if (c : Cfg) : (if (if 64 < c.inner then c.inner else 64) < c.outer then c.outer else if 64 < c.inner then c.inner else 64) = c.least := by
  unfold Cfg.least
  split <;> split <;> omega

set_option maxRecDepth 100000 in
set_option maxHeartbeats 4000000 in
theorem conf_least {w : World} (c : Cfg) (hc : c.In) (hs : c.Sized) : Calls Tryz.prog 151 #[c.v] w fun e w' => e = .returned { c with bytes := c.least }.v ∧ Keeps (fun _ => False) w w' := by
  have h9 := fun w => conf_sized (w := w) c hc
  have h1 := fun w => conf_inner (w := w) c hc hs
  have h2 := fun w => conf_outer (w := w) c hc hs
  rw [decide_eq_true hs] at h9
  have HS := Hd.mk hs
  clear hs
  unfold Cfg.v at *
  go_enter Tryz.func151, Tryz.ntmps151
  go_wp2_with fail
  refine (h9 _).mono ?_
  rintro e w1 ⟨rfl, hb⟩
  have hA := (((Keeps.refl (fun _ => False) w).alloc (.cells #[.int .i64 c.blocks, .int .i64 c.bytes, .int .i64 c.frames, .int .i64 c.fan, .int .i64 c.buffer, .int .i64 c.leaf, .int .i64 c.key, .int .i64 c.val] 23)).alloc (.cells #[.int .i64 0, .int .i64 0, .int .i64 0, .int .i64 0, .int .i64 0, .int .i64 0, .int .i64 0, .int .i64 0] 23))
  have hB := (Blk.new w 23 #[.int .i64 c.blocks, .int .i64 c.bytes, .int .i64 c.frames, .int .i64 c.fan, .int .i64 c.buffer, .int .i64 c.leaf, .int .i64 c.key, .int .i64 c.val]).alloc (.cells #[.int .i64 0, .int .i64 0, .int .i64 0, .int .i64 0, .int .i64 0, .int .i64 0, .int .i64 0, .int .i64 0] 23)
  have hC := Blk.new (w.alloc (.cells #[.int .i64 c.blocks, .int .i64 c.bytes, .int .i64 c.frames, .int .i64 c.fan, .int .i64 c.buffer, .int .i64 c.leaf, .int .i64 c.key, .int .i64 c.val] 23)) 23 #[.int .i64 0, .int .i64 0, .int .i64 0, .int .i64 0, .int .i64 0, .int .i64 0, .int .i64 0, .int .i64 0]
  generalize hW : ((w.alloc (.cells #[.int .i64 c.blocks, .int .i64 c.bytes, .int .i64 c.frames, .int .i64 c.fan, .int .i64 c.buffer, .int .i64 c.leaf, .int .i64 c.key, .int .i64 c.val] 23)).alloc (.cells #[.int .i64 0, .int .i64 0, .int .i64 0, .int .i64 0, .int .i64 0, .int .i64 0, .int .i64 0, .int .i64 0] 23)) = W at *
  have k01 : Keeps (fun _ => False) w w1 := hA.trans (T := fun _ => False) (Keeps.of_below hb) (fun _ _ e => e) (fun _ _ e => e)
  have hB1 := hB.keep (Keeps.of_below (S := fun _ => False) hb) (fun e => e)
  have hC1 := hC.keep (Keeps.of_below (S := fun _ => False) hb) (fun e => e)
  have c0 : w1.cell? ⟨w.heap.size, 0, none⟩ = some (.int .i64 c.blocks) := hB1.cell 0
  have c1 : w1.cell? ⟨w.heap.size, 1, none⟩ = some (.int .i64 c.bytes) := hB1.cell 1
  have c2 : w1.cell? ⟨w.heap.size, 2, none⟩ = some (.int .i64 c.frames) := hB1.cell 2
  have c3 : w1.cell? ⟨w.heap.size, 3, none⟩ = some (.int .i64 c.fan) := hB1.cell 3
  have c4 : w1.cell? ⟨w.heap.size, 4, none⟩ = some (.int .i64 c.buffer) := hB1.cell 4
  have c5 : w1.cell? ⟨w.heap.size, 5, none⟩ = some (.int .i64 c.leaf) := hB1.cell 5
  have c6 : w1.cell? ⟨w.heap.size, 6, none⟩ = some (.int .i64 c.key) := hB1.cell 6
  have c7 : w1.cell? ⟨w.heap.size, 7, none⟩ = some (.int .i64 c.val) := hB1.cell 7
  have A0 := Hd.mk hA
  have A1 := Hd.mk hB1
  have hC2 : Blk w1 (w.heap.size + 1) 23 #[.int .i64 0, .int .i64 0, .int .i64 0, .int .i64 0, .int .i64 0, .int .i64 0, .int .i64 0, .int .i64 0] := by simpa using hC1
  have A2 := Hd.mk hC2
  have A3 := Hd.mk k01
  clear hA hB hC hB1 hC1 hC2 k01 hb hW
  go_wp2_with fail
  go_region_with (first | (go_at_call 204; refine (h1 _).mono ?_; rintro e w2 ⟨rfl, hb⟩; obtain ⟨d0, d1, d2, d3, d4, d5, d6, d7, -⟩ := cfgS_stay (w := w1) (w1 := w1.drew) (g := w.heap.size) (c := c) ⟨c0, c1, c2, c3, c4, c5, c6, c7, (Keeps.refl _ w1).drew⟩ hb) | (go_at_call 205; refine (h2 _).mono ?_; rintro e w3 ⟨rfl, hb2⟩; obtain ⟨e0, e1, e2, e3, e4, e5, e6, e7, -⟩ := cfgS_stay (w := w2) (w1 := w2) (g := w.heap.size) (c := c) ⟨d0, d1, d2, d3, d4, d5, d6, d7, Keeps.refl _ _⟩ hb2; have z1 := ((A1.out.drew.keep (Keeps.of_below (S := fun _ => False) hb) (fun e => e)).keep (Keeps.of_below (S := fun _ => False) hb2) (fun e => e)).frozen 1))
  all_goals generalize hm : (if (if 64 < c.inner then c.inner else 64) < c.outer then c.outer else if 64 < c.inner then c.inner else 64) = m
  all_goals have b3 := (((A1.out.drew.keep (Keeps.of_below (S := fun _ => False) hb) (fun e => e)).keep (Keeps.of_below (S := fun _ => False) hb2) (fun e => e))).set_ 1 (.int .i64 m)
  all_goals have b4 := (((A2.out.drew.keep (Keeps.of_below (S := fun _ => False) hb) (fun e => e)).keep (Keeps.of_below (S := fun _ => False) hb2) (fun e => e))).far (p := ⟨w.heap.size, 1, none⟩) (by simp) (.int .i64 m)
  all_goals have r0 : World.cell? _ ⟨w.heap.size, 0, none⟩ = some (.int .i64 c.blocks) := b3.cell 0
  all_goals have r1 : World.cell? _ ⟨w.heap.size, 1, none⟩ = some (.int .i64 m) := b3.cell 1
  all_goals have r2 : World.cell? _ ⟨w.heap.size, 2, none⟩ = some (.int .i64 c.frames) := b3.cell 2
  all_goals have r3 : World.cell? _ ⟨w.heap.size, 3, none⟩ = some (.int .i64 c.fan) := b3.cell 3
  all_goals have r4 : World.cell? _ ⟨w.heap.size, 4, none⟩ = some (.int .i64 c.buffer) := b3.cell 4
  all_goals have r5 : World.cell? _ ⟨w.heap.size, 5, none⟩ = some (.int .i64 c.leaf) := b3.cell 5
  all_goals have r6 : World.cell? _ ⟨w.heap.size, 6, none⟩ = some (.int .i64 c.key) := b3.cell 6
  all_goals have r7 : World.cell? _ ⟨w.heap.size, 7, none⟩ = some (.int .i64 c.val) := b3.cell 7
  all_goals have t0 : World.cell? _ ⟨w.heap.size + 1, 0, none⟩ = some (.int .i64 0) := b4.cell 0
  all_goals have t1 : World.cell? _ ⟨w.heap.size + 1, 1, none⟩ = some (.int .i64 0) := b4.cell 1
  all_goals have t2 : World.cell? _ ⟨w.heap.size + 1, 2, none⟩ = some (.int .i64 0) := b4.cell 2
  all_goals have t3 : World.cell? _ ⟨w.heap.size + 1, 3, none⟩ = some (.int .i64 0) := b4.cell 3
  all_goals have t4 : World.cell? _ ⟨w.heap.size + 1, 4, none⟩ = some (.int .i64 0) := b4.cell 4
  all_goals have t5 : World.cell? _ ⟨w.heap.size + 1, 5, none⟩ = some (.int .i64 0) := b4.cell 5
  all_goals have t6 : World.cell? _ ⟨w.heap.size + 1, 6, none⟩ = some (.int .i64 0) := b4.cell 6
  all_goals have t7 : World.cell? _ ⟨w.heap.size + 1, 7, none⟩ = some (.int .i64 0) := b4.cell 7
  all_goals have tz : ∀ k, _ := b4.frozen
  all_goals clear b3 b4
  all_goals go_wp2
  all_goals refine bodyPost_ret (v := .agg #[.int .i64 c.blocks, .int .i64 m, .int .i64 c.frames, .int .i64 c.fan, .int .i64 c.buffer, .int .i64 c.leaf, .int .i64 c.key, .int .i64 c.val]) (by simp [results, Tryz.results151, go_sem, t0, t1, t2, t3, t4, t5, t6, t7]) rfl ⟨?_, ?_⟩
  all_goals have k3 : Keeps (fun _ => False) w w3 := (A3.out.drew.trans (T := fun _ => False) (Keeps.of_below hb) (fun _ _ e => e) (fun _ _ e => e)).trans (T := fun _ => False) (Keeps.of_below hb2) (fun _ _ e => e) (fun _ _ e => e)
  all_goals first
    | (rw [hm.symm.trans (least_if c)]; done)
    | (repeat refine Keeps.setCell ?_ (fun h => absurd h (by simp)) _
       exact k3)

end Go.Proofs.Sg
