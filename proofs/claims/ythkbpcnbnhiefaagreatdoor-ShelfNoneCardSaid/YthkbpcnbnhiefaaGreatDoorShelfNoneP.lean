/- ShelfNone is true of every input: of settings that are not right, and of a device with other blocks, there is no shelf; a shelf that nobody made has nothing. Conditions: the table that the library counts zeros by is as the program's text lays it. -/
import Derived.Test.YthkbpcnbnhiefaaGreatDoorRows
import Derived.Test.YthkbpcnbnhiefaaGreatDoorTie
import Derived.Test.YthkbpcnbnhiefaaGreatDoorCards
import Derived.Test.YthkbpcnbnhiefaaGreatDoorL18b
import Derived.Test.YthkbpcnbnhiefaaGreatDoorLaidP
namespace Go.Proofs.YthkbpcnbnhiefaaGreatDoor
set_option linter.unusedSimpArgs false
set_option linter.unusedVariables false
open Go.Proofs.Sg Go.ChangeShapes Go.WideShapes Go.RowKit

set_option maxRecDepth 100000 in
theorem shelfNone_lifted (os : Os) (started : os.Started) (H : Type) (enc : TypeId × Value → H) :
    ReturnsInHanded {} Tryz.checked os 11 .any (fun w args => (Rows.shelfNoneSpec.pre enc Tryz.prog Tryz.f11 [] false w args ∧ laidMetH Tryz.prog laidT w) ∧ sizedMet enc Tryz.prog Tryz.f11 (OpenSpec.ofChange Rows.shelfNoneSpec) false w args)
      (Rows.shelfNoneSpec.post enc Tryz.prog Tryz.f11 false true false false) := by
  refine returnsInHanded_of_change_and (C := Tryz.checked) (X := fun w _ => laidMetH Tryz.prog laidT w) (fun _ _ _ hh h => h.of_heap hh) own0 started (by kernel_rfl) Tryz.func11
    (ChangeSpec.witness_shaped (enc := enc) (C := Tryz.checked) (os := os) (X := fun w _ => laidMetH Tryz.prog laidT w) false (World.doorLaid Tryz.prog 400 os) #[zeroC, .int .u8 0, .int .u8 0, .int .u32 0, zeroN] 8 rfl (World.shaped_of_RefB (by kernel_rfl) (by kernel_rfl)) (by kernel_rfl) (by kernel_rfl) (by kernel_rfl) (door_met os _)) ?_
  intro W base args ds gs before hval0 hW _ _ hL _
  have hval : ∀ (j : Nat) t v, Tryz.f11.params[j]? = some t → args[j]? = some v → Value.okWide Tryz.prog W .any base t v := hval0
  have hW' := hW
  have hlt := hW.lt
  obtain ⟨p, q, hA0, hV, rfl, hfz, hnd⟩ := hW
  have hA : DataW.TrodAll enc Tryz.prog W 0 (fun _ => true) true Tryz.f11.params.toList args.toList ds p := hA0
  obtain ⟨rfl, rfl⟩ := trodVars_none hV
  rw [Tryz.params11] at hA hval
  obtain ⟨v0, vs0, d0, ds0, q0, r0, e0, rfl, rfl, t0, hA1⟩ := Sg.trodAll_cons hA
  obtain ⟨v1, vs1, d1, ds1, q1, r1, e1, rfl, rfl, t1, hA2⟩ := Sg.trodAll_cons hA1
  obtain ⟨v2, vs2, d2, ds2, q2, r2, e2, rfl, rfl, t2, hA3⟩ := Sg.trodAll_cons hA2
  obtain ⟨v3, vs3, d3, ds3, q3, r3, e3, rfl, rfl, t3, hA4⟩ := Sg.trodAll_cons hA3
  obtain ⟨v4, vs4, d4, ds4, q4, r4, e4, rfl, rfl, t4, hA5⟩ := Sg.trodAll_cons hA4
  obtain ⟨e5, rfl, rfl⟩ := Sg.trodAll_nil hA5
  have ea : args = #[v0, v1, v2, v3, v4] := by apply Array.ext'; rw [e0, e1, e2, e3, e4, e5]
  subst ea
  obtain ⟨c, rfl, hc⟩ := open_cfg (hval 0 _ v0 rfl rfl) t0
  obtain ⟨x1, rfl, _, _, w1⟩ := open_int Tryz.underlying5 (hval 1 _ v1 rfl rfl) t1
  obtain ⟨x2, rfl, _, _, w2⟩ := open_int Tryz.underlying5 (hval 2 _ v2 rfl rfl) t2
  obtain ⟨x3, rfl, _, _, w3⟩ := open_int Tryz.underlying30 (hval 3 _ v3 rfl rfl) t3
  obtain ⟨l, a1, a2, a3, a4, m1, m2, m3, m4, rfl, g1, g2, g3, g4⟩ := open_node (hval 4 _ v4 rfl rfl) t4
  obtain ⟨B, rfl, hB⟩ := small w1
  obtain ⟨Y, rfl, hY⟩ := small w2
  obtain ⟨i, rfl, _⟩ := small32 w3
  refine (shelf_none hc (tab_of_laid hL) B Y i hB hY l a1 a2 a3 a4 m1 m2 m3 m4 g1 g2 g3 g4).mono fun e W' ⟨he, hk⟩ => ?_
  subst he
  have hb := keeps_below hk
  refine ⟨_, rfl, _, [], _, [], q0 ++ (q1 ++ (q2 ++ (q3 ++ (q4 ++ [])))), [], hW', trodAll_mk1 (shut_bool Tryz.underlying4 true), ?_, rfl, hb.frame _, fun h => by cases h⟩
  exact Sg.trodAll_stays (by kernel_rfl) hb (by kernel_rfl) hA0 (fun x hx => hlt x (List.mem_append_left _ hx))

theorem shelfNone_row : Rows.ShelfNoneSaid :=
  OpenClaim.holds_of_wide 11 Tryz.f11 rfl rfl rfl rfl rfl rfl rfl ⟨rfl, rfl, rfl, rfl, rfl⟩ rfl rfl rfl rfl rfl (by kernel_rfl) Tryz.func11 (by kernel_rfl)
    (of_decide_eq_true (by kernel_rfl)) (by unfold Func.isWrapper; first | (rw [if_pos (by decide +kernel)]; kernel_rfl) | (rw [if_neg (by decide +kernel)]; exact ⟨rfl, rfl⟩))
    (fun os started H enc _ => shelfNone_lifted os started H enc)

theorem shelfNone_card : Rows.ShelfNoneCardSaid :=
  Claim7.holds_tied_plain_at .later [] [.data] true (true, "35d819fbf56d32459144236722df16d7cf6601ee004155f3b4993dfeb3727dc1") false
    shelfNone_row (fun _ h => by cases h) (by kernel_rfl) (fun _ h => by cases h) shelfNone_row_tie rfl ⟨rfl, rfl⟩ (by kernel_rfl) rfl
    (fun f fn hf hfn => by
      obtain rfl : f = 11 := Option.some.inj ((show Tryz.prog.funcNamed "sluicegate/sluicegatelaw18.ShelfNone" = some 11 by kernel_rfl).symm.trans hf) |>.symm
      obtain rfl : fn = Tryz.f11 := (Option.some.inj (Tryz.func11.symm.trans hfn)).symm
      exact ⟨by kernel_rfl, fun j t ht => by
        rw [Tryz.params11] at ht
        have hm : t ∈ [23, 5, 5, 30, 42] := by simpa using Array.mem_of_getElem? ht
        have hall : ([23, 5, 5, 30, 42].all fun u => !Tryz.prog.wantsStandIn u) = true := by kernel_rfl
        exact (show Tryz.prog.wantsStandIn t = false by simpa using List.all_eq_true.1 hall t hm)⟩)
    (by kernel_rfl)

end Go.Proofs.YthkbpcnbnhiefaaGreatDoor
