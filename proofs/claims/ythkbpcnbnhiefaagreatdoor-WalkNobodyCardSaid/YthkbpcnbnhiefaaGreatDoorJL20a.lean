/- Layer 20's awake: a leaf with no pairs is looked at. -/
import Derived.Test.YthkbpcnbnhiefaaGreatDoorKWalk
namespace Go.Proofs.Sg
set_option linter.unusedSimpArgs false
set_option linter.unusedVariables false
open Go.RowKit Go.Lib

section
variable {w w' : World} {c : Cfg}

theorem leastC_light : leastC.Light := by decide

set_option maxRecDepth 100000 in
set_option maxHeartbeats 2000000 in
theorem awake20 (hT : Tab w) : Calls Tryz.prog 13 #[] w fun e w' => e = .returned (.bool true) ∧ Keeps (fun _ => False) w w' := by
  have k0 := (Keeps.refl (fun _ => False) w).alloc (.cells leastC.cells 23)
  have hst := stood_none leastC_in leastC_right leastC_light (hT.keeps k0 (fun e => e))
  have K0 := Hd.mk k0
  clear hT k0
  unfold Cfg.v specV leastC at *
  go_enter Tryz.func13, Tryz.ntmps13
  go_wp2_with fail
  refine hst.mono ?_
  rintro e w1 ⟨S, l, rfl, s', hS, hk, hft⟩
  have hlk := look_leaf hS 1 (by omega) (by decide) (by simp [nobL, updD])
  have K1 := Hd.mk (K0.out.false_ hk)
  have FT := Hd.mk hft
  have Z := Hd.mk (K0.out.size)
  clear hst hk hft hS K0
  unfold repV at hlk
  go_wp2_with fail
  refine hlk.mono ?_
  rintro e w2 ⟨rfl, hk⟩
  have K2 := Hd.mk ((K1.out.trans hk (U := fun x => w.heap.size ≤ x) (fun _ _ e => e.elim) (fun x _ e => Nat.le_trans Z.out (FT.out x e))).mono (T := fun _ => False) (fun x hx e => by omega))
  clear hlk hk
  have r2 := Blk.new w2 60 #[.int .i64 1, .int .i64 1, .int .i64 1, .int .i64 0, .int .i64 0]
  obtain ⟨q0, q1, q2, q3, q4⟩ := r2.five
  clear r2
  go_wp2_with fail
  go_ret
  exact ⟨rfl, K2.out.alloc _⟩

end
end Go.Proofs.Sg
