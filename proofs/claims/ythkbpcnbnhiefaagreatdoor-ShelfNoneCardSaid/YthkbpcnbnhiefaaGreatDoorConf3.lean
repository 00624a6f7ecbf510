/- Settings: the program's Inner, Outer, Least. -/
import Derived.Test.YthkbpcnbnhiefaaGreatDoorConf2
namespace Go.Proofs.Sg
set_option linter.unusedSimpArgs false
set_option linter.unusedVariables false
open Go.RowKit

theorem cfg_cells {w w' : World} (c : Cfg) (hb : Below (w.alloc (.cells #[.int .i64 c.blocks, .int .i64 c.bytes, .int .i64 c.frames, .int .i64 c.fan, .int .i64 c.buffer, .int .i64 c.leaf, .int .i64 c.key, .int .i64 c.val] 23)).heap.size (w.alloc (.cells #[.int .i64 c.blocks, .int .i64 c.bytes, .int .i64 c.frames, .int .i64 c.fan, .int .i64 c.buffer, .int .i64 c.leaf, .int .i64 c.key, .int .i64 c.val] 23)) w') :
    w'.cell? ⟨w.heap.size, 0, none⟩ = some (.int .i64 c.blocks) ∧ w'.cell? ⟨w.heap.size, 1, none⟩ = some (.int .i64 c.bytes) ∧ w'.cell? ⟨w.heap.size, 2, none⟩ = some (.int .i64 c.frames) ∧ w'.cell? ⟨w.heap.size, 3, none⟩ = some (.int .i64 c.fan) ∧ w'.cell? ⟨w.heap.size, 4, none⟩ = some (.int .i64 c.buffer) ∧ w'.cell? ⟨w.heap.size, 5, none⟩ = some (.int .i64 c.leaf) ∧ w'.cell? ⟨w.heap.size, 6, none⟩ = some (.int .i64 c.key) ∧ w'.cell? ⟨w.heap.size, 7, none⟩ = some (.int .i64 c.val) ∧ Below w.heap.size w w' := by
  have e : ∀ i, w'.cell? ⟨w.heap.size, i, none⟩ = (#[.int .i64 c.blocks, .int .i64 c.bytes, .int .i64 c.frames, .int .i64 c.fan, .int .i64 c.buffer, .int .i64 c.leaf, .int .i64 c.key, .int .i64 c.val] : Array Value)[i]? := fun i => (World.cell?_of_block (hb.block _ (by simp))).trans (Blk.cell (Blk.new w _ _) i)
  exact ⟨e 0, e 1, e 2, e 3, e 4, e 5, e 6, e 7, ((Below.refl _ w).alloc (Nat.le_refl _) _).trans (hb.mono (by simp))⟩

theorem conf_inner {w : World} (c : Cfg) (hc : c.In) (hs : c.Sized) : Calls Tryz.prog 204 #[c.v] w fun e w' => e = .returned (.int .i64 c.inner) ∧ Below w.heap.size w w' := by
  have h9 := fun w => conf_sized (w := w) c hc
  obtain ⟨s1, s2, s3, s4, s5, s6, s7, s8, s9, s10⟩ := hs
  rw [decide_eq_true ⟨s1, s2, s3, s4, s5, s6, s7, s8, s9, s10⟩] at h9
  have m1 : 0 ≤ (c.fan - 1) * (1 + c.key) := Int.mul_nonneg (by omega) (by omega)
  have m2 : (c.fan - 1) * (1 + c.key) ≤ 63 * 65 := Int.mul_le_mul (by omega) (by omega) (by omega) (by omega)
  have m3 : 0 ≤ c.buffer * (4 + c.key + c.val) := Int.mul_nonneg (by omega) (by omega)
  have m4 : c.buffer * (4 + c.key + c.val) ≤ 512 * 324 := Int.mul_le_mul (by omega) (by omega) (by omega) (by omega)
  unfold Cfg.v at *
  go_enter Tryz.func204, Tryz.ntmps204
  go_wp2_with fail
  refine (h9 _).mono ?_
  rintro e w' ⟨rfl, hb⟩
  obtain ⟨c0, c1, c2, c3, c4, c5, c6, c7, hbw⟩ := cfg_cells c hb
  go_wp2_with fail
  go_ret
  refine ⟨?_, hbw⟩
  apply ret_int
  unfold Cfg.inner
  omega

theorem conf_outer {w : World} (c : Cfg) (hc : c.In) (hs : c.Sized) : Calls Tryz.prog 205 #[c.v] w fun e w' => e = .returned (.int .i64 c.outer) ∧ Below w.heap.size w w' := by
  have h9 := fun w => conf_sized (w := w) c hc
  obtain ⟨s1, s2, s3, s4, s5, s6, s7, s8, s9, s10⟩ := hs
  rw [decide_eq_true ⟨s1, s2, s3, s4, s5, s6, s7, s8, s9, s10⟩] at h9
  have m3 : 0 ≤ c.leaf * (3 + c.key + c.val) := Int.mul_nonneg (by omega) (by omega)
  have m4 : c.leaf * (3 + c.key + c.val) ≤ 1024 * 323 := Int.mul_le_mul (by omega) (by omega) (by omega) (by omega)
  unfold Cfg.v at *
  go_enter Tryz.func205, Tryz.ntmps205
  go_wp2_with fail
  refine (h9 _).mono ?_
  rintro e w' ⟨rfl, hb⟩
  obtain ⟨c0, c1, c2, c3, c4, c5, c6, c7, hbw⟩ := cfg_cells c hb
  go_wp2_with fail
  go_ret
  refine ⟨?_, hbw⟩
  apply ret_int
  unfold Cfg.outer
  omega

end Go.Proofs.Sg
