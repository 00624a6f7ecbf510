/- WalkNobody is true of every input: nothing is told of a shelf that nobody made, and of a block that there is not. Conditions: the table that the library counts zeros by is as the program's text lays it. -/
import Derived.Test.YthkbpcnbnhiefaaGreatDoorRows
import Derived.Test.YthkbpcnbnhiefaaGreatDoorTie
import Derived.Test.YthkbpcnbnhiefaaGreatDoorCards
import Derived.Test.YthkbpcnbnhiefaaGreatDoorJL20b
import Derived.Test.YthkbpcnbnhiefaaGreatDoorKArg
namespace Go.Proofs.YthkbpcnbnhiefaaGreatDoor
set_option linter.unusedSimpArgs false
set_option linter.unusedVariables false
open Go.Proofs.Sg Go.ChangeShapes Go.WideShapes Go.RowKit

set_option maxRecDepth 100000 in
theorem walkNobody_lifted (os : Os) (started : os.Started) (H : Type) (enc : TypeId × Value → H) :
    ReturnsInHanded {} Tryz.checked os 5 .any (fun w args => (Rows.walkNobodySpec.pre enc Tryz.prog Tryz.f5 [] false w args ∧ laidMetH Tryz.prog laidT w) ∧ sizedMet enc Tryz.prog Tryz.f5 (OpenSpec.ofChange Rows.walkNobodySpec) false w args)
      (Rows.walkNobodySpec.post enc Tryz.prog Tryz.f5 false true false false) := by
  refine returnsInHanded_of_change_and (C := Tryz.checked) (X := fun w _ => laidMetH Tryz.prog laidT w) (fun _ _ _ hh h => h.of_heap hh) own0 started (by kernel_rfl) Tryz.func5
    (ChangeSpec.witness_shaped (enc := enc) (C := Tryz.checked) (os := os) (X := fun w _ => laidMetH Tryz.prog laidT w) false (World.doorLaid Tryz.prog 400 os) #[zeroC, .int .u32 0] 8 rfl (World.shaped_of_RefB (by kernel_rfl) (by kernel_rfl)) (by kernel_rfl) (by kernel_rfl) (by kernel_rfl) (door_met os _)) ?_
  intro W base args ds gs before hval0 hW _ _ hL _
  have hval : ∀ (j : Nat) t v, Tryz.f5.params[j]? = some t → args[j]? = some v → Value.okWide Tryz.prog W .any base t v := hval0
  have hW' := hW
  have hlt := hW.lt
  obtain ⟨p, q, hA0, hV, rfl, hfz, hnd⟩ := hW
  have hA : DataW.TrodAll enc Tryz.prog W 0 (fun _ => true) true Tryz.f5.params.toList args.toList ds p := hA0
  obtain ⟨rfl, rfl⟩ := trodVars_none hV
  rw [Tryz.params5] at hA hval
  obtain ⟨v0, vs0, d0, ds0, q0, r0, e0, rfl, rfl, t0, hA1⟩ := Sg.trodAll_cons hA
  obtain ⟨v1, vs1, d1, ds1, q1, r1, e1, rfl, rfl, t1, hA2⟩ := Sg.trodAll_cons hA1
  obtain ⟨e2, rfl, rfl⟩ := Sg.trodAll_nil hA2
  have ea : args = #[v0, v1] := by apply Array.ext'; rw [e0, e1, e2]
  subst ea
  obtain ⟨c, rfl, hc⟩ := open_cfg (hval 0 _ v0 rfl rfl) t0
  obtain ⟨x1, rfl, _, _, w1⟩ := open_int Tryz.underlying30 (hval 1 _ v1 rfl rfl) t1
  obtain ⟨i, rfl, hi⟩ := small32 w1
  refine (walk_nobody hc (tab_of_laid hL) i hi).mono fun e W' ⟨he, hk⟩ => ?_
  subst he
  have hb := keeps_below hk
  refine ⟨_, rfl, _, [], _, [], q0 ++ (q1 ++ []), [], hW', trodAll_mk1 (shut_bool Tryz.underlying4 true), ?_, rfl, hb.frame _, fun h => by cases h⟩
  exact Sg.trodAll_stays (by kernel_rfl) hb (by kernel_rfl) hA0 (fun x hx => hlt x (List.mem_append_left _ hx))

theorem walkNobody_row : Rows.WalkNobodySaid :=
  OpenClaim.holds_of_wide 5 Tryz.f5 rfl rfl rfl rfl rfl rfl rfl ⟨rfl, rfl, rfl, rfl, rfl⟩ rfl rfl rfl rfl rfl (by kernel_rfl) Tryz.func5 (by kernel_rfl)
    (of_decide_eq_true (by kernel_rfl)) (by unfold Func.isWrapper; first | (rw [if_pos (by decide +kernel)]; kernel_rfl) | (rw [if_neg (by decide +kernel)]; exact ⟨rfl, rfl⟩))
    (fun os started H enc _ => walkNobody_lifted os started H enc)

theorem walkNobody_card : Rows.WalkNobodyCardSaid :=
  Claim7.holds_tied_plain_at .later [] [.data] true (true, "35d819fbf56d32459144236722df16d7cf6601ee004155f3b4993dfeb3727dc1") false
    walkNobody_row (fun _ h => by cases h) (by kernel_rfl) (fun _ h => by cases h) walkNobody_row_tie rfl ⟨rfl, rfl⟩ (by kernel_rfl) rfl
    (fun f fn hf hfn => by
      obtain rfl : f = 5 := Option.some.inj ((show Tryz.prog.funcNamed "sluicegate/sluicegatelaw20.WalkNobody" = some 5 by kernel_rfl).symm.trans hf) |>.symm
      obtain rfl : fn = Tryz.f5 := (Option.some.inj (Tryz.func5.symm.trans hfn)).symm
      exact ⟨by kernel_rfl, fun j t ht => by
        rw [Tryz.params5] at ht
        have hm : t ∈ [23, 30] := by simpa using Array.mem_of_getElem? ht
        have hall : ([23, 30].all fun u => !Tryz.prog.wantsStandIn u) = true := by kernel_rfl
        exact (show Tryz.prog.wantsStandIn t = false by simpa using List.all_eq_true.1 hall t hm)⟩)
    (by kernel_rfl)

end Go.Proofs.YthkbpcnbnhiefaaGreatDoor
