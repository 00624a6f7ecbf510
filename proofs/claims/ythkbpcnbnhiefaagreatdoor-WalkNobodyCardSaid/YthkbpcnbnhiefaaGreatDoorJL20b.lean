/- WalkNobody: its walk. -/
import Derived.Test.YthkbpcnbnhiefaaGreatDoorJL20a
import Derived.Test.YthkbpcnbnhiefaaGreatDoorJNone0
namespace Go.Proofs.Sg
set_option linter.unusedSimpArgs false
set_option linter.unusedVariables false
open Go.RowKit Go.Lib

section
variable {w w' : World} {c : Cfg}

theorem look_nil (i : Nat) : Calls Tryz.prog 23 #[.pointer none, .int .u32 i] w fun e w' => e = .returned (.tuple #[repV 0 0 0 0 0, .int .i64 1]) ∧ Keeps (fun _ => False) w w' :=
  (look_err none i 1 (by decide) (fun _ => True) (fun _ => False) (fun _ e => e.elim) (fun _ _ _ _ => trivial) (fun w0 _ => (no_load (.inl rfl) i).mono fun e w' ⟨h1, h2⟩ => ⟨h1, trivial, h2⟩)).mono fun e w' ⟨h1, _, h2⟩ => ⟨h1, h2⟩

theorem blocks_nil (i : Nat) : Calls Tryz.prog 25 #[.pointer none, .int .u32 i] w fun e w' => e = .returned (.tuple #[nilV, .int .i64 1]) ∧ Keeps (fun _ => False) w w' :=
  blocks_err none i 1 (by decide) (fun w' => Keeps (fun _ => False) w w') (fun _ _ h k => h.false_ k) (fun w0 k => (no_load (.inl rfl) i).mono fun e w' ⟨h1, h2⟩ => ⟨h1, k.false_ h2⟩)

/-- What a look at a root tells of a shelf with no nodes. -/
theorem look_bare {S : SIds} {k : Nat} {L : Nat → List UInt8} {H : Nat → Bool} {r s : Nat} (h : IsShelf w S c k L H r s) (hz : ∀ i, L i = List.replicate c.bytes.toNat 0) (i : Nat) (hi : i < 4294967296) :
    Calls Tryz.prog 23 #[.pointer (some ⟨S.gs, 0, none⟩), .int .u32 i] w fun e w' => e = .returned (.tuple #[repV 0 0 0 0 0, .int .i64 (if 0 < i ∧ (i : Int) < c.blocks then 12 else 4)]) ∧ Keeps (SFoot S) w w' := by
  have hb := h.blocks
  by_cases hin : 0 < i ∧ (i : Int) < c.blocks
  · rw [if_pos hin]
    exact (look_err _ i 12 (by decide) (fun _ => True) (SFoot S) (fun x hx => h.foot_lt hx) (fun _ _ _ _ => trivial) (fun w0 hk => (shelf_load_zeros (h.keep0 hk) i hin.1 (by omega) (hz i)).mono fun e w' ⟨h1, _, _, _, h2⟩ => ⟨h1, trivial, h2⟩)).mono fun e w' ⟨h1, _, h2⟩ => ⟨h1, h2⟩
  · rw [if_neg hin]
    exact (look_err _ i 4 (by decide) (fun _ => True) (SFoot S) (fun x hx => h.foot_lt hx) (fun _ _ _ _ => trivial) (fun w0 hk => (shelf_load_out (h.keep0 hk) i (by omega) hi).mono fun e w' ⟨h1, h2⟩ => ⟨h1, trivial, h2.trans (Keeps.refl (SFoot S) _) (fun _ _ e => e.elim) (fun _ _ e => e)⟩)).mono fun e w' ⟨h1, _, h2⟩ => ⟨h1, h2⟩

set_option maxRecDepth 100000 in
set_option maxHeartbeats 4000000 in
theorem walk_nobody (hc : c.In) (hT : Tab w) (i : Nat) (hi : i < 4294967296) :
    Calls Tryz.prog 5 #[c.v, .int .u32 i] w fun e w' => e = .returned (.bool true) ∧ Keeps (fun _ => False) w w' := by
  have k0 := (Keeps.refl (fun _ => False) w).alloc (.cells c.cells 23)
  have b0 := Blk.new w 23 c.cells
  have hlk := fun w => look_nil (w := w) i
  have hbk := fun w => blocks_nil (w := w) i
  have hn := fun w => light_no (w := w) hc
  have hr := fun w => light_right (w := w) hc
  have hbg := fun w => begun (w := w) hc
  have HC := Hd.mk (And.intro hc (And.intro hT hi))
  have hTl := hT.lt
  have HL := Hd.mk hn
  have HR := Hd.mk hr
  have HB := Hd.mk hbg
  clear hc hT hi hn hr hbg
  unfold Cfg.v repV at *
  go_enter Tryz.func5, Tryz.ntmps5
  go_wp2_with fail
  generalize hW0 : w.alloc (.cells c.cells 23) = w0 at *
  clear hW0
  refine (hlk _).mono ?_
  rintro e w1 ⟨rfl, hk⟩
  have K1 := Hd.mk ((k0.false_ hk).alloc (.cells #[.int .i64 0, .int .i64 0, .int .i64 0, .int .i64 0, .int .i64 0] 60))
  have B1 := Hd.mk ((b0.keep hk (fun e => e)).alloc (.cells #[.int .i64 0, .int .i64 0, .int .i64 0, .int .i64 0, .int .i64 0] 60))
  clear k0 b0 hk hlk
  go_wp2_with fail
  generalize hW1 : w1.alloc (.cells #[.int .i64 0, .int .i64 0, .int .i64 0, .int .i64 0, .int .i64 0] 60) = w2 at *
  clear hW1
  refine (hbk _).mono ?_
  rintro e w3 ⟨rfl, hk⟩
  have K3 := Hd.mk (K1.out.false_ hk)
  have b3 := B1.out.keep hk (fun e => e)
  obtain ⟨c0, c1, c2, c3, c4, c5, c6, c7⟩ := Cfg.at b3
  have B3 := Hd.mk b3
  clear hk hbk b3 K1 B1
  have haw := fun w h => awake20 (w := w) h
  by_cases hl : c.Light
  · have hcl := hl.1
    have hlv := HR.out w3 hcl
    rw [decide_eq_true hl] at hlv
    have hbg := HB.out
    have HCL := Hd.mk hcl
    clear hl hcl
    go_wp2_with fail
    refine hlv.mono ?_
    rintro e w4 ⟨rfl, hk⟩
    have K4 := Hd.mk (K3.out.false_ hk)
    have b4 := B3.out.keep hk (fun e => e)
    clear c0 c1 c2 c3 c4 c5 c6 c7 hk hlv
    obtain ⟨c0, c1, c2, c3, c4, c5, c6, c7⟩ := Cfg.at b4
    have B4 := Hd.mk b4
    have hbw := hbg w4 HCL.out (HC.out.2.1.keeps K4.out (fun e => e))
    clear b4 hbg
    go_wp2_with fail
    refine hbw.mono ?_
    rintro e w5 ⟨S, rfl, hS, hk, hft⟩
    have hlb := look_bare hS (fun _ => rfl) i HC.out.2.2
    have K5 := Hd.mk (K4.out.false_ hk)
    have Z4 := Hd.mk K4.out.size
    have B5 := Hd.mk (B4.out.keep hk (fun e => e))
    have FT := Hd.mk hft
    have HS := Hd.mk hS
    clear c0 c1 c2 c3 c4 c5 c6 c7 hk hbw hS hft
    unfold repV at hlb
    go_wp2_with fail
    refine hlb.mono ?_
    rintro e w6 ⟨rfl, hk⟩
    have K6 := Hd.mk ((K5.out.trans hk (U := fun x => w.heap.size ≤ x) (fun _ _ e => e.elim) (fun x _ e => Nat.le_trans Z4.out (FT.out x e))).mono (T := fun _ => False) (fun x hx e => by omega))
    have b6 := B5.out.keep hk (fun e => by have := FT.out _ e; have := Z4.out; have := B4.out.lt; omega)
    have b7 := b6.alloc (.cells #[.int .i64 0, .int .i64 0, .int .i64 0, .int .i64 0, .int .i64 0] 60)
    obtain ⟨c0, c1, c2, c3, c4, c5, c6, c7⟩ := Cfg.at b7
    have K7 := Hd.mk (K6.out.alloc (.cells #[.int .i64 0, .int .i64 0, .int .i64 0, .int .i64 0, .int .i64 0] 60))
    have haw7 := haw _ (HC.out.2.1.keeps K7.out (fun e => e))
    have hbb := HC.out.1
    have hi := HC.out.2.2
    have hblk := HS.out.blocks
    clear hlb hk b6 b7 haw
    by_cases hin : 0 < i ∧ (i : Int) < c.blocks
    · obtain ⟨hi0, hi1⟩ := hin
      rw [if_pos ⟨hi0, hi1⟩]
      go_wp2_with fail
      refine haw7.mono ?_
      rintro e w8 ⟨rfl, hk⟩
      have K8 := Hd.mk (K7.out.false_ hk)
      clear hk haw7
      go_wp2_with fail
      go_ret
      exact ⟨rfl, K8.out⟩
    · rw [if_neg hin]
      rcases Nat.eq_zero_or_pos i with rfl | hi0
      · clear hin
        go_wp2_with fail
        refine haw7.mono ?_
        rintro e w8 ⟨rfl, hk⟩
        have K8 := Hd.mk (K7.out.false_ hk)
        clear hk haw7
        go_wp2_with fail
        go_ret
        exact ⟨rfl, K8.out⟩
      · have hi1 : ¬ (i : Int) < c.blocks := fun e => hin ⟨hi0, e⟩
        clear hin
        go_wp2_with fail
        refine haw7.mono ?_
        rintro e w8 ⟨rfl, hk⟩
        have K8 := Hd.mk (K7.out.false_ hk)
        clear hk haw7
        go_wp2_with fail
        go_ret
        exact ⟨rfl, K8.out⟩
  · have hno : Calls Tryz.prog 26 #[c.v] w3 fun e w' => e = .returned (.bool false) ∧ Keeps (fun _ => False) w3 w' := by
      by_cases hcr : c.Right
      · have := HR.out w3 hcr
        rw [decide_eq_false hl] at this
        exact this
      · exact HL.out w3 hcr
    have haw7 := fun w' k => haw w' (HC.out.2.1.keeps (K3.out.false_ k) (fun e => e))
    unfold Cfg.v at hno
    clear haw hl
    go_wp2_with fail
    refine hno.mono ?_
    rintro e w4 ⟨rfl, hk⟩
    have K4 := Hd.mk (K3.out.false_ hk)
    have haw8 := haw7 w4 hk
    clear hk hno haw7
    go_wp2_with fail
    refine haw8.mono ?_
    rintro e w8 ⟨rfl, hk⟩
    have K8 := Hd.mk (K4.out.false_ hk)
    clear hk haw8
    go_wp2_with fail
    go_ret
    exact ⟨rfl, K8.out⟩

end
end Go.Proofs.Sg
