/- Stood0 · Stood1 · Stood2 · Stood3 · Dec1, in one. -/
import Derived.LoopTactic
import Derived.Deep.RegionHeld3
import Derived.Deep.QuietTactic
import Derived.BigQuiet
import Derived.Test.YthkbpcnbnhiefaaGreatDoorKShelf
/-! The tree of an empty list: kept, msgs, cut, Put; Light. -/
namespace Go.Proofs.Sg
set_option linter.unusedSimpArgs false
set_option linter.unusedVariables false
open Go.RowKit Go.Lib

section
variable {w w' : World} {c : Cfg}

def Cfg.Light (c : Cfg) : Prop := c.Right ∧ c.bytes ≤ 3000 ∧ c.blocks ≤ 400
instance (c : Cfg) : Decidable c.Light := by unfold Cfg.Light; infer_instance

theorem light_no (hc : c.In) (hr : ¬ c.Right) : Calls Tryz.prog 26 #[c.v] w fun e w' => e = .returned (.bool false) ∧ Keeps (fun _ => False) w w' := by
  have hrr := fun w => ref9_right (w := w) c hc
  rw [decide_eq_false hr] at hrr
  have k0 := (Keeps.refl (fun _ => False) w).alloc (.cells c.cells 23)
  unfold Cfg.v at *
  go_enter Tryz.func26, Tryz.ntmps26
  go_wp2_with fail
  refine (hrr _).mono ?_
  rintro e w1 ⟨rfl, hk⟩
  have K := Hd.mk (k0.trans hk (U := fun _ => False) (fun _ _ e => e) (fun _ _ e => e))
  clear hk hrr k0
  go_wp2
  go_ret
  exact ⟨rfl, K.out⟩

theorem light_right (hc : c.In) (hr : c.Right) : Calls Tryz.prog 26 #[c.v] w fun e w' => e = .returned (.bool (decide c.Light)) ∧ Keeps (fun _ => False) w w' := by
  have hrr := fun w => ref9_right (w := w) c hc
  rw [decide_eq_true hr] at hrr
  have hL : c.Light ↔ c.bytes ≤ 3000 ∧ c.blocks ≤ 400 := ⟨fun h => h.2, fun h => ⟨hr, h⟩⟩
  have HL := Hd.mk hL
  have k0 := (Keeps.refl (fun _ => False) w).alloc (.cells c.cells 23)
  have b0 := Blk.new w 23 c.cells
  clear hr hL
  unfold Cfg.v at *
  go_enter Tryz.func26, Tryz.ntmps26
  go_wp2_with fail
  refine (hrr _).mono ?_
  rintro e w1 ⟨rfl, hk⟩
  have K := Hd.mk (k0.trans hk (U := fun _ => False) (fun _ _ e => e) (fun _ _ e => e))
  obtain ⟨c0, c1, c2, c3, c4, c5, c6, c7⟩ := Cfg.at (b0.keep hk (fun e => e))
  clear hk hrr k0 b0
  go_wp2
  all_goals go_ret
  all_goals refine ⟨?_, K.out⟩
  all_goals show Ending.returned (.bool _) = _
  all_goals congr 2
  all_goals rw [Bool.eq_iff_iff, decide_eq_true_eq (p := c.Light), HL.out]
  all_goals first
    | (simp_all; done)
    | (simp; omega)

def specV : Value := .agg #[nilV, nilV, nilV, nilV]

theorem kept_none : Calls Tryz.prog 113 #[c.v, specV] w fun e w' => (∃ p, e = .returned (.slice p 0 0)) ∧ Keeps (fun _ => False) w w' := by
  unfold Cfg.v specV
  go_enter Tryz.func113, Tryz.ntmps113
  go_wp2_with fail
  refine wp_loop_rounds 1 ?_
  rw [rounds_succ]
  go_wp2
  go_ret
  exact ⟨⟨_, rfl⟩, (((Keeps.refl _ w).alloc _).alloc _).alloc _⟩

theorem msgs_none : Calls Tryz.prog 117 #[c.v, specV] w fun e w' => (∃ p, e = .returned (.slice p 0 0)) ∧ Keeps (fun _ => False) w w' := by
  unfold Cfg.v specV
  go_enter Tryz.func117, Tryz.ntmps117
  go_wp2_with fail
  refine wp_loop_rounds 1 ?_
  rw [rounds_succ]
  go_wp2
  go_ret
  exact ⟨⟨_, rfl⟩, (((Keeps.refl _ w).alloc _).alloc _).alloc _⟩

theorem cut_none (i most : Int) : Calls Tryz.prog 114 #[specV, .int .i64 i, .int .i64 most] w fun e w' => e = .returned (.int .i64 most) ∧ Keeps (fun _ => False) w w' := by
  unfold specV
  go_enter Tryz.func114, Tryz.ntmps114
  go_wp2
  go_ret
  exact ⟨rfl, (Keeps.refl _ w).alloc _⟩

theorem put_none (l : Value) (p : Option Addr) (n : Nat) (d : Value) (most : Int) : Calls Tryz.prog 116 #[l, .slice p 0 n, d, .int .i64 most] w fun e w' => e = .returned l ∧ w = w' := by
  go_enter Tryz.func116, Tryz.ntmps116
  go_wp2_with fail
  refine wp_loop_rounds 1 ?_
  rw [rounds_succ]
  go_wp2
  go_ret
  exact ⟨rfl, rfl⟩

end
end Go.Proofs.Sg
/-! The tree of an empty list: Levels. -/
namespace Go.Proofs.Sg
set_option linter.unusedSimpArgs false
set_option linter.unusedVariables false
open Go.RowKit Go.Lib

theorem Tryz.infoNode : (Tryz.prog.info? 42).map (fun i => (i.zero, i.size, i.bytes)) = some (some (.agg #[.int .i64 0, .slice none 0 0, .slice none 0 0, .slice none 0 0, .slice none 0 0]), 5, 104) := by kernel_rfl
theorem Tryz.infoStr : (Tryz.prog.info? 9).map (fun i => (i.zero, i.size, i.bytes)) = some (some (.string ⟨#[]⟩), 1, 16) := by kernel_rfl

section
variable {w w' : World} {c : Cfg}

theorem Keeps.at_ {a b : World} (h : Keeps (fun _ => False) a b) {p : Addr} {v : Value} (hp : a.cell? p = some v) : b.cell? p = some v :=
  (World.cell?_of_block (h.block p.block (World.block_lt_of_cell? a _ hp) (fun e => e))).trans hp
theorem Keeps.false_ {w w1 w2 : World} (h : Keeps (fun _ => False) w w1) (k : Keeps (fun _ => False) w1 w2) : Keeps (fun _ => False) w w2 := h.trans k (fun _ _ e => e) (fun _ _ e => e)

/-- A slice with nothing in it, its row one's own. -/
theorem own_empty {t : TypeId} {size : Nat} {g base : Nat} (hb : base ≤ g) (h : Blk w g t #[]) : w.ownsRow base t size (.slice (some ⟨g, 0, none⟩) 0 0) 0 [] :=
  ⟨by simp, .inr ⟨g, 0, #[], rfl, hb, h, Nat.le_refl _, Nat.zero_le _, by simp, by simp⟩⟩

theorem cells_new_all {g : Nat} (w : World) (cs : List Value) (t : TypeId) (hg : w.heap.size = g) : ∀ j u, cs[j]? = some u → (w.alloc (.cells cs.toArray t)).cell? ((⟨g, 0, none⟩ : Addr).add j) = some u := by
  subst hg
  intro j u h
  have e : (⟨w.heap.size, 0, none⟩ : Addr).add j = ⟨w.heap.size, j, none⟩ := by unfold Addr.add; split <;> simp_all
  rw [e, (Blk.new w t cs.toArray).cell j]
  simpa using h

set_option maxRecDepth 100000 in
set_option maxHeartbeats 2000000 in
theorem levels_none (h0 : 0 ≤ c.leaf) : Calls Tryz.prog 59 #[c.v, specV] w fun e w' => ∃ ga ca gb cb p, e = .returned (.slice (some ⟨ga, 0, none⟩) 1 ca) ∧ w.heap.size ≤ ga ∧ w.heap.size ≤ gb ∧
    w'.cell? ⟨ga, 0, none⟩ = some (.slice (some ⟨gb, 0, none⟩) 1 cb) ∧ w'.cell? ⟨gb, 0, none⟩ = some (.int .i64 0) ∧ w'.cell? ⟨gb, 1, none⟩ = some nilV ∧ w'.cell? ⟨gb, 2, none⟩ = some nilV ∧ w'.cell? ⟨gb, 3, none⟩ = some nilV ∧ w'.cell? ⟨gb, 4, none⟩ = some (.slice p 0 0) ∧
    Keeps (fun _ => False) w w' := by
  have hf : ¬ c.leaf < 0 := by omega
  have hmin : min 0 c.leaf = 0 := by omega
  have hk1 := fun w => kept_none (w := w) (c := c)
  have hcut := fun w => cut_none (w := w) 0 c.leaf
  obtain ⟨i0, hi, hz0, hz1, hz2⟩ := info_parts' Tryz.infoNode
  obtain ⟨i1, gi, gz0, gz1, gz2⟩ := info_parts' Tryz.infoStr
  have b0 := (Blk.new w 23 c.cells).alloc (.cells #[nilV, nilV, nilV, nilV] 28)
  have s0 : Blk ((w.alloc (.cells c.cells 23)).alloc (.cells #[nilV, nilV, nilV, nilV] 28)) (w.heap.size + 1) 28 #[nilV, nilV, nilV, nilV] := by
    simpa using Blk.new (w.alloc (.cells c.cells 23)) 28 #[nilV, nilV, nilV, nilV]
  have k0 : Keeps (fun _ => False) w ((w.alloc (.cells c.cells 23)).alloc (.cells #[nilV, nilV, nilV, nilV] 28)) := ((Keeps.refl _ w).alloc _).alloc _
  unfold Cfg.v specV at *
  go_enter Tryz.func59, Tryz.ntmps59
  go_wp2_with fail
  generalize hW : ((w.alloc (.cells c.cells 23)).alloc (.cells #[nilV, nilV, nilV, nilV] 28)) = w0 at *
  clear hW
  refine (hk1 _).mono ?_
  rintro e w1 ⟨⟨p, rfl⟩, hk⟩
  have b1 := b0.keep hk (fun e => e)
  have s1 := s0.keep hk (fun e => e)
  have k1 := k0.trans hk (U := fun _ => False) (fun _ _ e => e) (fun _ _ e => e)
  have B1 := Hd.mk b1
  have S1 := Hd.mk s1
  have K1 := Hd.mk k1
  -- the three empty slices
  have r1 := ((Blk.new w1 42 #[]).alloc (.cells #[] 9)).alloc (.cells #[] 9)
  have r2 : Blk (((w1.alloc (.cells #[] 42)).alloc (.cells #[] 9)).alloc (.cells #[] 9)) (w1.heap.size + 1) 9 #[] := by
    simpa using (Blk.new (w1.alloc (.cells #[] 42)) 9 #[]).alloc (.cells #[] 9)
  have r3 : Blk (((w1.alloc (.cells #[] 42)).alloc (.cells #[] 9)).alloc (.cells #[] 9)) (w1.heap.size + 1 + 1) 9 #[] := by
    simpa using Blk.new ((w1.alloc (.cells #[] 42)).alloc (.cells #[] 9)) 9 #[]
  have k2 : Keeps (fun _ => False) w1 (((w1.alloc (.cells #[] 42)).alloc (.cells #[] 9)).alloc (.cells #[] 9)) := (((Keeps.refl _ w1).alloc _).alloc _).alloc _
  have R1 := Hd.mk r1
  have R2 := Hd.mk r2
  have R3 := Hd.mk r3
  have K2 := Hd.mk k2
  clear b0 s0 k0 hk b1 s1 k1 r1 r2 r3 k2 hk1
  go_wp2_with fail
  refine wp_loop_rounds 2 ?_
  rw [rounds_succ]
  obtain ⟨c0, c1, c2, c3, c4, c5, c6, c7⟩ := Cfg.at (B1.out.keep K2.out (fun e => e))
  have s2 := S1.out.keep K2.out (fun e => e)
  have y0 : World.cell? _ ⟨w.heap.size + 1, 0, none⟩ = some nilV := s2.cell 0
  have y1 : World.cell? _ ⟨w.heap.size + 1, 1, none⟩ = some nilV := s2.cell 1
  have y2 : World.cell? _ ⟨w.heap.size + 1, 2, none⟩ = some nilV := s2.cell 2
  have y3 : World.cell? _ ⟨w.heap.size + 1, 3, none⟩ = some nilV := s2.cell 3
  clear s2
  go_wp2_with fail
  generalize hW2 : (((w1.alloc (.cells #[] 42)).alloc (.cells #[] 9)).alloc (.cells #[] 9)) = w2 at *
  clear hW2
  refine (hcut _).mono ?_
  rintro e w3 ⟨rfl, hk⟩
  have e1 := R1.out.keep hk (fun e => e)
  have K3 := Hd.mk (K2.out.trans hk (U := fun _ => False) (fun _ _ e => e) (fun _ _ e => e))
  have E1 := Hd.mk e1
  have E2 := Hd.mk (R2.out.keep hk (fun e => e))
  have E3 := Hd.mk (R3.out.keep hk (fun e => e))
  clear hk e1 hcut c0 c1 c2 c3 c4 c5 c6 c7 y0 y1 y2 y3
  go_wp2_with (at_builtin; refine wpList_append_own _ rfl _ _ 47 rfl w1.heap.size 42 i0 (.agg #[.int .i64 0, .slice none 0 0, .slice none 0 0, .slice none 0 0, .slice none 0 0]) 5 104 Tryz.underlying47 hi hz0 hz1 hz2 rfl (by decide) _ _ _ rfl ((own_empty (Nat.le_refl _) E1.out).alloc _) ⟨w3.heap.size, 0, none⟩ 1 1 [.int .i64 0, nilV, nilV, nilV, .slice p 0 0] rfl ?qc1 ?qc2 ?qc3 ?qc4 ?qc5 ?qc6 ?_)
  case qc1 => rfl
  case qc2 => exact cells_new_all w3 [.int .i64 0, nilV, nilV, nilV, .slice p 0 0] 42 rfl
  case qc3 => simp [Value.oneCell']
  case qc4 => decide
  case qc5 => decide
  case qc6 => have := K3.out.size; simp; omega
  intro v w4 hown hgr hnil
  obtain ⟨gb, cb, rfl, hgb0, hgb, _, ⟨csb, hbb⟩, hcb⟩ := own_at_ne hown (by simp)
  have hcs : ∀ j, j < 5 → csb[j]? = [Value.int .i64 0, nilV, nilV, nilV, .slice p 0 0][j]? := fun j hj => (hbb.cell j).symm.trans (hcb j hj)
  have CS := Hd.mk hcs
  have K4 := Hd.mk ((K3.out.alloc (.cells [.int .i64 0, nilV, nilV, nilV, .slice p 0 0].toArray 42)).grown hgr (fun k e hk => by simp [Value.ownBlock] at e; omega))
  have F2 := Hd.mk ((E2.out.alloc (.cells [.int .i64 0, nilV, nilV, nilV, .slice p 0 0].toArray 42)).grown hgr (by simp [Value.ownBlock]))
  have F3 := Hd.mk ((E3.out.alloc (.cells [.int .i64 0, nilV, nilV, nilV, .slice p 0 0].toArray 42)).grown hgr (by simp [Value.ownBlock]; omega))
  have Bb := Hd.mk hbb
  clear hown hgr hnil hcb hcs hbb E1 E2 E3
  go_wp2_with (at_builtin; refine wpList_append_own _ rfl _ _ 40 rfl w1.heap.size 9 i1 (.string ⟨#[]⟩) 1 16 Tryz.underlying40 gi gz0 gz1 gz2 rfl (by decide) _ _ _ rfl ((own_empty (by omega) F2.out).alloc _) ⟨w4.heap.size, 0, none⟩ 1 1 [.string ⟨#[]⟩] rfl ?qc1a ?qc2a ?qc3a ?qc4a ?qc5a ?qc6a ?_)
  case qc1a => rfl
  case qc2a => exact cells_new_all w4 [.string ⟨#[]⟩] 9 rfl
  case qc3a => simp [Value.oneCell']
  case qc4a => decide
  case qc5a => decide
  case qc6a => have := K4.out.size; simp; omega
  intro vlo w5 hown hgr hnil
  have K5 := Hd.mk ((K4.out.alloc (.cells [.string ⟨#[]⟩].toArray 9)).grown hgr (fun k e hk => by simp [Value.ownBlock] at e; omega))
  have G3 := Hd.mk ((F3.out.alloc (.cells [.string ⟨#[]⟩].toArray 9)).grown hgr (by simp [Value.ownBlock]))
  have ne2 : gb ≠ w1.heap.size + 1 := Bb.out.ne_ F2.out (by decide)
  have Bb5 := Hd.mk ((Bb.out.alloc (.cells [.string ⟨#[]⟩].toArray 9)).grown hgr (by simp [Value.ownBlock]; omega))
  clear hown hgr hnil F2
  go_wp2_with (at_builtin; refine wpList_append_own _ rfl _ _ 40 rfl w1.heap.size 9 i1 (.string ⟨#[]⟩) 1 16 Tryz.underlying40 gi gz0 gz1 gz2 rfl (by decide) _ _ _ rfl ((own_empty (by omega) G3.out).alloc _) ⟨w5.heap.size, 0, none⟩ 1 1 [.string ⟨#[]⟩] rfl ?qc1b ?qc2b ?qc3b ?qc4b ?qc5b ?qc6b ?_)
  case qc1b => rfl
  case qc2b => exact cells_new_all w5 [.string ⟨#[]⟩] 9 rfl
  case qc3b => simp [Value.oneCell']
  case qc4b => decide
  case qc5b => decide
  case qc6b => have := K5.out.size; simp; omega
  intro vhi w6 hown hgr hnil
  have K6 := Hd.mk ((K5.out.alloc (.cells [.string ⟨#[]⟩].toArray 9)).grown hgr (fun k e hk => by simp [Value.ownBlock] at e; omega))
  have ne3 : gb ≠ w1.heap.size + 1 + 1 := Bb5.out.ne_ G3.out (by decide)
  have Bb6 := Hd.mk ((Bb5.out.alloc (.cells [.string ⟨#[]⟩].toArray 9)).grown hgr (by simp [Value.ownBlock]; omega))
  clear hown hgr hnil G3 F3 Bb Bb5
  go_wp2_with fail
  rw [rounds_succ]
  go_wp2_with fail
  have ba := Blk.new w6 47 #[.slice (some ⟨gb, 0, none⟩) 1 cb]
  have bb7 := Bb6.out.alloc (.cells #[.slice (some ⟨gb, 0, none⟩) 1 cb] 47)
  have zga : w1.heap.size ≤ w6.heap.size := K6.out.size
  have k7 := K1.out.trans (K6.out.alloc (.cells #[.slice (some ⟨gb, 0, none⟩) 1 cb] 47)) (U := fun _ => False) (fun _ _ e => e) (fun _ _ e => e)
  have b7 := B1.out.keep (K6.out.alloc (.cells #[.slice (some ⟨gb, 0, none⟩) 1 cb] 47)) (fun e => e)
  have s7 := S1.out.keep (K6.out.alloc (.cells #[.slice (some ⟨gb, 0, none⟩) 1 cb] 47)) (fun e => e)
  generalize hga : w6.heap.size = ga at *
  generalize hw7 : w6.alloc (.cells #[.slice (some ⟨gb, 0, none⟩) 1 cb] 47) = w7 at *
  clear hga hw7
  have ZZ := Hd.mk (And.intro zga (And.intro hgb0 (K1.out.size)))
  have BA := Hd.mk ba
  have BB := Hd.mk bb7
  have K7 := Hd.mk k7
  obtain ⟨c0, c1, c2, c3, c4, c5, c6, c7⟩ := Cfg.at b7
  have y0 : World.cell? _ ⟨w.heap.size + 1, 0, none⟩ = some nilV := s7.cell 0
  have y1 : World.cell? _ ⟨w.heap.size + 1, 1, none⟩ = some nilV := s7.cell 1
  have y2 : World.cell? _ ⟨w.heap.size + 1, 2, none⟩ = some nilV := s7.cell 2
  have y3 : World.cell? _ ⟨w.heap.size + 1, 3, none⟩ = some nilV := s7.cell 3
  have hms := fun w => msgs_none (w := w) (c := c)
  unfold Cfg.v specV at hms
  clear ba bb7 k7 b7 s7 zga hgb0 B1 S1 K1 R1 R2 R3 K2 K3 K4 K5 K6 Bb6 ne2 ne3
  refine wp_loop_rounds 1 ?_
  rw [rounds_succ]
  go_wp2_with fail
  have hk0 : Keeps (fun _ => False) w7 w7.drew := (Keeps.refl _ w7).drew
  refine wp_region_held_drew (S := (fun w' => w'.cell? ⟨w.heap.size, 0, none⟩ = some (.int .i64 c.blocks) ∧ w'.cell? ⟨w.heap.size, 1, none⟩ = some (.int .i64 c.bytes) ∧ w'.cell? ⟨w.heap.size, 2, none⟩ = some (.int .i64 c.frames) ∧ w'.cell? ⟨w.heap.size, 3, none⟩ = some (.int .i64 c.fan) ∧ w'.cell? ⟨w.heap.size, 4, none⟩ = some (.int .i64 c.buffer) ∧ w'.cell? ⟨w.heap.size, 5, none⟩ = some (.int .i64 c.leaf) ∧ w'.cell? ⟨w.heap.size, 6, none⟩ = some (.int .i64 c.key) ∧ w'.cell? ⟨w.heap.size, 7, none⟩ = some (.int .i64 c.val) ∧ w'.cell? ⟨w.heap.size + 1, 0, none⟩ = some nilV ∧ w'.cell? ⟨w.heap.size + 1, 1, none⟩ = some nilV ∧ w'.cell? ⟨w.heap.size + 1, 2, none⟩ = some nilV ∧ w'.cell? ⟨w.heap.size + 1, 3, none⟩ = some nilV ∧ Keeps (fun _ => False) w7 w')) (by kernel_rfl) (by go_keep) (fun hHeld => ?_)
  refine wpAnyH_take (i := 0) (oi := ⟨_, _, _, _, _, _⟩) (v := _) rfl (by kernel_rfl) (by kernel_rfl) (by kernel_rfl) (fun _ _ _ h => h) (Or.inl ⟨by rfl, fun _ _ => rfl⟩) hHeld ?_
  (try simp only [Act.put, Act.eval, List.setIfInBounds_toArray, List.set_cons_zero, List.set_cons_succ, List.getElem?_toArray, List.getElem?_cons_succ, List.getElem?_cons_zero, Array.getD_eq_getD_getElem?, Option.getD_some])
  refine wpAnyH_take (i := 1) (oi := ⟨_, _, _, _, _, _⟩) (v := ?v1) rfl (by kernel_rfl) (by kernel_rfl) (by kernel_rfl) (fun _ _ _ h => h) (Or.inl ⟨by rfl, ?hy1⟩) hHeld ?rest1
  case hy1 => ((intro w hSw; (try dsimp only at hSw); go_simp) <;> try with_reducible rfl)
  (try simp only [Act.put, Act.eval, List.setIfInBounds_toArray, List.set_cons_zero, List.set_cons_succ, List.getElem?_toArray, List.getElem?_cons_succ, List.getElem?_cons_zero, Array.getD_eq_getD_getElem?, Option.getD_some])
  refine wpAnyH_take (i := 2) (oi := ⟨_, _, _, _, _, _⟩) (v := ?v2) rfl (by kernel_rfl) (by kernel_rfl) (by kernel_rfl) (fun _ _ _ h => h) (Or.inl ⟨by rfl, ?hy2⟩) hHeld ?rest2
  case hy2 => ((intro w hSw; (try dsimp only at hSw); go_simp) <;> try with_reducible rfl)
  (try simp only [Act.put, Act.eval, List.setIfInBounds_toArray, List.set_cons_zero, List.set_cons_succ, List.getElem?_toArray, List.getElem?_cons_succ, List.getElem?_cons_zero, Array.getD_eq_getD_getElem?, Option.getD_some])
  refine wpAnyH_take (i := 4) (oi := ⟨_, _, _, _, _, _⟩) (v := _) rfl (by kernel_rfl) (by kernel_rfl) (by kernel_rfl) (fun _ _ _ h => h) (Or.inl ⟨by rfl, fun _ _ => rfl⟩) hHeld ?_
  (try simp only [Act.put, Act.eval, List.setIfInBounds_toArray, List.set_cons_zero, List.set_cons_succ, List.getElem?_toArray, List.getElem?_cons_succ, List.getElem?_cons_zero, Array.getD_eq_getD_getElem?, Option.getD_some])
  refine wpAnyH_take (i := 5) (oi := ⟨_, _, _, _, _, _⟩) (v := ?v5) rfl (by kernel_rfl) (by kernel_rfl) (by kernel_rfl) (fun _ _ _ h => h) (Or.inl ⟨by rfl, ?hy5⟩) hHeld ?rest5
  case hy5 => ((intro w hSw; (try dsimp only at hSw); go_simp) <;> try with_reducible rfl)
  (try simp only [Act.put, Act.eval, List.setIfInBounds_toArray, List.set_cons_zero, List.set_cons_succ, List.getElem?_toArray, List.getElem?_cons_succ, List.getElem?_cons_zero, Array.getD_eq_getD_getElem?, Option.getD_some])
  refine wpAnyH_take (i := 6) (oi := ⟨_, _, _, _, _, _⟩) (v := _) rfl (by kernel_rfl) (by kernel_rfl) (by kernel_rfl) (fun _ _ _ h => h) (Or.inl ⟨by rfl, fun _ _ => rfl⟩) hHeld ?_
  (try simp only [Act.put, Act.eval, List.setIfInBounds_toArray, List.set_cons_zero, List.set_cons_succ, List.getElem?_toArray, List.getElem?_cons_succ, List.getElem?_cons_zero, Array.getD_eq_getD_getElem?, Option.getD_some])
  refine wpAnyH_take (i := 7) (oi := ⟨_, _, _, _, _, _⟩) (v := ?v7) rfl (by kernel_rfl) (by kernel_rfl) (by kernel_rfl) (fun _ _ _ h => h) (Or.inl ⟨by rfl, ?hy7⟩) hHeld ?rest7
  case hy7 => ((intro w hSw; (try dsimp only at hSw); go_simp) <;> try with_reducible rfl)
  (try simp only [Act.put, Act.eval, List.setIfInBounds_toArray, List.set_cons_zero, List.set_cons_succ, List.getElem?_toArray, List.getElem?_cons_succ, List.getElem?_cons_zero, Array.getD_eq_getD_getElem?, Option.getD_some])
  refine wpAnyH_ready (rs := [3]) (by kernel_rfl) (by simp) ?_
  refine AllReadyH.cons (o := ⟨_, _, _, _, _, _⟩) rfl (fun K hK => ?_) AllReadyH.nil
  go_simp
  (go_at_call 117; refine (hms _).mono ?_; rintro e w' ⟨⟨pm, rfl⟩, hm⟩)
  go_wp2_with fail
  refine hK.out _ _ ⟨hm.at_ hHeld.1, hm.at_ hHeld.2.1, hm.at_ hHeld.2.2.1, hm.at_ hHeld.2.2.2.1, hm.at_ hHeld.2.2.2.2.1, hm.at_ hHeld.2.2.2.2.2.1, hm.at_ hHeld.2.2.2.2.2.2.1, hm.at_ hHeld.2.2.2.2.2.2.2.1, hm.at_ hHeld.2.2.2.2.2.2.2.2.1, hm.at_ hHeld.2.2.2.2.2.2.2.2.2.1, hm.at_ hHeld.2.2.2.2.2.2.2.2.2.2.1, hm.at_ hHeld.2.2.2.2.2.2.2.2.2.2.2.1, hHeld.2.2.2.2.2.2.2.2.2.2.2.2.false_ hm⟩ (fun hHeld => ?_)
  clear hK K
  (try simp only [Act.put, Act.eval, List.setIfInBounds_toArray, List.set_cons_zero, List.set_cons_succ, List.getElem?_toArray, List.getElem?_cons_succ, List.getElem?_cons_zero, Array.getD_eq_getD_getElem?, Option.getD_some])
  refine wpAnyH_ready (rs := [8]) (by kernel_rfl) (by simp) ?_
  refine AllReadyH.cons (o := ⟨_, _, _, _, _, _⟩) rfl (fun K hK => ?_) AllReadyH.nil
  go_simp
  (go_at_call 116; refine (put_none _ pm 0 _ _).mono ?_; rintro e w' ⟨rfl, rfl⟩)
  go_wp2_with fail
  refine hK.out _ _ hHeld (fun hHeld => ?_)
  clear hK K
  (try simp only [Act.put, Act.eval, List.setIfInBounds_toArray, List.set_cons_zero, List.set_cons_succ, List.getElem?_toArray, List.getElem?_cons_succ, List.getElem?_cons_zero, Array.getD_eq_getD_getElem?, Option.getD_some])
  refine wpAnyH_take (i := 9) (oi := ⟨_, _, _, _, _, _⟩) (v := _) rfl (by kernel_rfl) (by kernel_rfl) (by kernel_rfl) (fun _ _ _ h => h) (Or.inl ⟨by rfl, fun _ _ => rfl⟩) hHeld ?_
  (try simp only [Act.put, Act.eval, List.setIfInBounds_toArray, List.set_cons_zero, List.set_cons_succ, List.getElem?_toArray, List.getElem?_cons_succ, List.getElem?_cons_zero, Array.getD_eq_getD_getElem?, Option.getD_some])
  refine wpAnyH_done (by kernel_rfl) ?_ _
  have hk : Keeps (fun _ => False) w7 w' := hHeld.2.2.2.2.2.2.2.2.2.2.2.2
  have ba := BA.out.keep hk (fun e => e)
  have bb := BB.out.keep hk (fun e => e)
  have K8 := Hd.mk (K7.out.trans hk (U := fun _ => False) (fun _ _ e => e) (fun _ _ e => e))
  clear hHeld hk hms
  go_wp2_with fail
  go_ret
  have hc := CS.out
  have zz := ZZ.out
  refine ⟨ga, 1, gb, cb, p, rfl, by omega, by omega, ba.cell 0, (bb.cell 0).trans (hc 0 (by omega)), (bb.cell 1).trans (hc 1 (by omega)), (bb.cell 2).trans (hc 2 (by omega)), (bb.cell 3).trans (hc 3 (by omega)), (bb.cell 4).trans (hc 4 (by omega)), K8.out⟩

end
end Go.Proofs.Sg
/-! The tree of an empty list: Laid. -/
namespace Go.Proofs.Sg
set_option linter.unusedSimpArgs false
set_option linter.unusedVariables false
open Go.RowKit Go.Lib

section
variable {w w' : World} {c : Cfg}

theorem held_one {n : Nat} (h : 5 ≤ n) : heldCount n (fun j => decide (j = 0)) < n := by
  have h1 := heldCount_set (n := n) (i := 0) (H := fun _ => false) (by omega) rfl
  have h2 : heldCount n (fun _ => false) = 0 := by unfold heldCount; simp
  have h3 : updH (fun _ => false) 0 true = fun j => decide (j = 0) := by funext j; unfold updH; split <;> simp_all
  rw [h3, h2] at h1
  omega

/-- A list of one level with one leaf with no pairs. -/
def OneLeaf (w : World) (ga gb cb : Nat) (p : Option Addr) : Prop := w.cell? ⟨ga, 0, none⟩ = some (.slice (some ⟨gb, 0, none⟩) 1 cb) ∧ w.cell? ⟨gb, 0, none⟩ = some (.int .i64 0) ∧ w.cell? ⟨gb, 1, none⟩ = some nilV ∧ w.cell? ⟨gb, 2, none⟩ = some nilV ∧ w.cell? ⟨gb, 3, none⟩ = some nilV ∧ w.cell? ⟨gb, 4, none⟩ = some (.slice p 0 0)
theorem OneLeaf.keep {ga gb cb : Nat} {p : Option Addr} (h : OneLeaf w ga gb cb p) (k : Keeps (fun _ => False) w w') : OneLeaf w' ga gb cb p :=
  ⟨k.at_ h.1, k.at_ h.2.1, k.at_ h.2.2.1, k.at_ h.2.2.2.1, k.at_ h.2.2.2.2.1, k.at_ h.2.2.2.2.2⟩
theorem OneLeaf.keepT {T : Nat → Prop} {ga gb cb : Nat} {p : Option Addr} (h : OneLeaf w ga gb cb p) (k : Keeps T w w') (h1 : ¬ T ga) (h2 : ¬ T gb) : OneLeaf w' ga gb cb p := by
  have e1 := fun i => World.cell?_of_block (a := ⟨ga, i, none⟩) (k.block ga (World.block_lt_of_cell? w _ h.1) h1)
  have e2 := fun i => World.cell?_of_block (a := ⟨gb, i, none⟩) (k.block gb (World.block_lt_of_cell? w _ h.2.1) h2)
  exact ⟨(e1 0).trans h.1, (e2 0).trans h.2.1, (e2 1).trans h.2.2.1, (e2 2).trans h.2.2.2.1, (e2 3).trans h.2.2.2.2.1, (e2 4).trans h.2.2.2.2.2⟩

set_option maxRecDepth 100000 in
set_option maxHeartbeats 2000000 in
theorem laid_none {S : SIds} {k : Nat} {L : Nat → List UInt8} {r s : Nat} (h : IsShelf w S c k L (fun j => decide (j = 0)) r s) (ga ca gb cb : Nat) (p : Option Addr) (hga : ¬ SFoot S ga) (hgb : ¬ SFoot S gb)
    (hl : OneLeaf w ga gb cb p) :
    Calls Tryz.prog 60 #[.pointer (some ⟨S.gs, 0, none⟩), .slice (some ⟨ga, 0, none⟩) 1 ca] w fun e w' => e = .returned (.tuple #[.int .u32 1, .bool true]) ∧ ∃ s', IsShelf w' S c k (updD L 1 (leafB c)) (updH (fun j => decide (j = 0)) 1 true) r s' ∧ Keeps (SFoot S) w w' := by
  obtain ⟨i1, gi, gz0, gz1, gz2⟩ := info_parts' Tryz.infoU32
  go_enter Tryz.func60, Tryz.ntmps60
  go_wp2_with fail
  have k1 := (Keeps.refl (fun _ => False) w).alloc (.cells #[] 30)
  generalize hw1 : w.alloc (.cells #[] 30) = w1 at *
  clear hw1
  refine wp_loop_rounds 2 ?_
  rw [rounds_succ]
  go_wp2_with fail
  have k2 := k1.alloc (.cells #[] 30)
  have nb := Blk.new w1 30 #[]
  have z2 := k1.size
  generalize hw2 : w1.alloc (.cells #[] 30) = w2 at *
  generalize hg1 : w1.heap.size = g1 at *
  clear hw2 hg1
  have K2 := Hd.mk k2
  have NB := Hd.mk nb
  have HL := Hd.mk hl
  have HS := Hd.mk h
  have Z := Hd.mk z2
  obtain ⟨l0, l1, l2, l3, l4, l5⟩ := hl.keep k2
  clear k1 k2 nb z2 hl h
  refine wp_loop_rounds 2 ?_
  rw [rounds_succ]
  go_wp2_with fail
  have nn := (Blk.new w2 42 #[.int .i64 0, nilV, nilV, nilV, .slice p 0 0]).alloc (.cells #[] 30)
  have k3 := (K2.out.alloc (.cells #[.int .i64 0, nilV, nilV, nilV, .slice p 0 0] 42)).alloc (.cells #[] 30)
  have kx := ((Keeps.refl (fun _ => False) w2).alloc (.cells #[.int .i64 0, nilV, nilV, nilV, .slice p 0 0] 42)).alloc (.cells #[] 30)
  have z3 := Hd.mk K2.out.size
  generalize hw3 : ((w2.alloc (.cells #[.int .i64 0, nilV, nilV, nilV, .slice p 0 0] 42)).alloc (.cells #[] 30)) = w3 at *
  generalize hg2 : w2.heap.size = g2 at *
  clear hw3 hg2 l0 l1 l2 l3 l4 l5
  have NB3 := Hd.mk (NB.out.keep kx (fun e => e))
  have HL3 := Hd.mk (HL.out.keep k3)
  have NN := Hd.mk nn
  have K3 := Hd.mk k3
  obtain ⟨n0, n1, n2, n3, n4⟩ := nn.five
  have fz := nn.frozen 1
  clear nn k3 kx K2 NB
  refine wp_loop_rounds 1 ?_
  rw [rounds_succ]
  go_wp2_with fail
  have k4 := K3.out.setCell (p := ⟨g2, 1, none⟩) (fun e => absurd e (by have := z3.out; dsimp only; omega)) (.slice (some ⟨g2 + 1, 0, none⟩) 0 0)
  have hS4 := HS.out.keep0 k4
  have HL4 := Hd.mk (HL.out.keep k4)
  have nk : Keeps (fun x => x = g2) w3 (w3.setCell ⟨g2, 1, none⟩ (.slice (some ⟨g2 + 1, 0, none⟩) 0 0)) := (Keeps.refl (fun x => x = g2) w3).setCell (fun _ => rfl) _
  have NB4 := Hd.mk (NB3.out.keep nk (by have := NB3.out.ne_ NN.out (by decide); exact this))
  have hmk := shelf_make hS4 0 (.slice (some ⟨g2 + 1, 0, none⟩) 0 0) nilV nilV (.slice p 0 0) rfl rfl rfl rfl (leafB c) (leafB_length HS.out.right) rfl (held_one (by have := HS.out.blocks; omega)) (fun w' _ => encode_none HS.out.inn HS.out.right _ none none p 0 0 0 0)
  have K4 := Hd.mk k4
  unfold nodeV at hmk
  clear k4 hS4 nk n0 n1 n2 n3 n4 fz
  refine hmk.mono ?_
  rintro e w5 ⟨i, rfl, hi0, hi1, hi2, hi3, s', hS5, _, _, hk5⟩
  have e1 : i = 1 := by
    rcases Nat.lt_or_ge 1 i with h | h
    · have := hi3 1 h; simp at this
    · omega
  subst e1
  go_wp2_with fail
  have k6 := ((((Keeps.refl (fun _ => False) w5).alloc (.cells #[.int .u32 1] 30)).alloc (.cells (#[.int .u32 1] ++ Builtin.zeroCells #[.int .u32 0] ((Question.appendCap 1 0 30).cut (w5.tape w5.drawn (Question.appendCap 1 0 30)) - 1)) 30))).drew
  have v6 : ((w5.alloc (.cells #[.int .u32 1] 30)).alloc (.cells (#[.int .u32 1] ++ Builtin.zeroCells #[.int .u32 0] ((Question.appendCap 1 0 30).cut (w5.tape w5.drawn (Question.appendCap 1 0 30)) - 1)) 30)).drew.cell? ⟨w5.heap.size + 1, 0, none⟩ = some (.int .u32 1) := by
    have h := (Blk.new (w5.alloc (.cells #[.int .u32 1] 30)) 30 (#[.int .u32 1] ++ Builtin.zeroCells #[.int .u32 0] ((Question.appendCap 1 0 30).cut (w5.tape w5.drawn (Question.appendCap 1 0 30)) - 1))).drew
    have h2 := h.cell 0
    rw [show (w5.alloc (.cells #[.int .u32 1] 30)).heap.size = w5.heap.size + 1 by simp] at h2
    refine h2.trans ?_
    rw [Array.getElem?_append_left (by simp)]
    rfl
  generalize (Question.appendCap 1 0 30).cut (w5.tape w5.drawn (Question.appendCap 1 0 30)) = cc at *
  generalize hw6 : ((w5.alloc (.cells #[.int .u32 1] 30)).alloc (.cells (#[.int .u32 1] ++ Builtin.zeroCells #[.int .u32 0] (cc - 1)) 30)).drew = w6 at *
  clear hw6
  have HL6 := (HL4.out.keepT hk5 hga hgb).keep k6
  obtain ⟨l0, l1, l2, l3, l4, l5⟩ := HL6
  have HS6 := Hd.mk (hS5.keep0 k6)
  have K6 := Hd.mk ((K4.out.trans hk5 (U := SFoot S) (fun _ _ e => e.elim) (fun _ _ e => e)).trans k6 (U := SFoot S) (fun _ _ e => e) (fun _ _ e => e.elim))
  clear hk5 hS5 k6 hmk hi3 hi2 hi1 hi0
  rw [rounds_succ]
  go_wp2_with fail
  rw [rounds_succ]
  go_wp2_with fail
  go_ret2
  exact ⟨rfl, s', HS6.out, K6.out⟩

end
end Go.Proofs.Sg
/-! The tree of an empty list: Stood. -/
namespace Go.Proofs.Sg
set_option linter.unusedSimpArgs false
set_option linter.unusedVariables false
open Go.RowKit Go.Lib

section
variable {w w' : World} {c : Cfg}

theorem results_tmp4 {fn : Func} {t u v x : Tmp} (h : fn.results = #[.tmp t, .tmp u, .tmp v, .tmp x]) (tmps : Array Value) (P : Program) (w : World) :
    (results fn tmps).run P w = .ok (.tuple #[tmps.getD t undef, tmps.getD u undef, tmps.getD v undef, tmps.getD x undef]) w := by
  simp [results, h]

/-- What the blocks have where the empty tree stands; and which are held. -/
def nobL (c : Cfg) : Nat → List UInt8 := updD (fun _ => List.replicate c.bytes.toNat 0) 1 (leafB c)
def nobH : Nat → Bool := updH (fun j => decide (j = 0)) 1 true

set_option maxRecDepth 100000 in
set_option maxHeartbeats 2000000 in
theorem stood_none (hc : c.In) (hr : c.Right) (hl : c.Light) (hT : Tab w) :
    Calls Tryz.prog 12 #[c.v, specV] w fun e w' => ∃ (S : SIds) (l : Value), e = .returned (.tuple #[.pointer (some ⟨S.gs, 0, none⟩), .int .u32 1, l, .bool true]) ∧
      ∃ s', IsShelf w' S c 0 (nobL c) nobH 0 s' ∧ Keeps (fun _ => False) w w' ∧ (∀ k, SFoot S k → w.heap.size ≤ k) := by
  have h0 : 0 ≤ c.leaf := by
    obtain ⟨⟨h1, h2, h3, h4, h5, h6, h7, h8, h9, h10⟩, _⟩ := hr
    omega
  have hlt := fun w => light_right (w := w) hc hr
  simp only [decide_eq_true hl] at hlt
  have hlv := fun w => levels_none (w := w) h0
  have b0 := (Blk.new w 23 c.cells).alloc (.cells #[nilV, nilV, nilV, nilV] 28)
  have s0 : Blk ((w.alloc (.cells c.cells 23)).alloc (.cells #[nilV, nilV, nilV, nilV] 28)) (w.heap.size + 1) 28 #[nilV, nilV, nilV, nilV] := by
    simpa using Blk.new (w.alloc (.cells c.cells 23)) 28 #[nilV, nilV, nilV, nilV]
  have k0 : Keeps (fun _ => False) w ((w.alloc (.cells c.cells 23)).alloc (.cells #[nilV, nilV, nilV, nilV] 28)) := ((Keeps.refl _ w).alloc _).alloc _
  have HC := Hd.mk (And.intro hc hr)
  have HT := Hd.mk hT
  have hTl := hT.lt
  clear h0 hc hr hl hT
  unfold Cfg.v specV at *
  go_enter Tryz.func12, Tryz.ntmps12
  go_wp2_with fail
  generalize hW : ((w.alloc (.cells c.cells 23)).alloc (.cells #[nilV, nilV, nilV, nilV] 28)) = w0 at *
  clear hW
  refine (hlt _).mono ?_
  rintro e w1 ⟨rfl, hk⟩
  have b1 := b0.keep hk (fun e => e)
  have s1 := s0.keep hk (fun e => e)
  have k1 := k0.false_ hk
  have hbg := begun HC.out.1 HC.out.2 (HT.out.keeps k1 (fun e => e))
  have B1 := Hd.mk b1
  have S1 := Hd.mk s1
  have K1 := Hd.mk k1
  obtain ⟨c0, c1, c2, c3, c4, c5, c6, c7⟩ := Cfg.at b1
  have y0 : World.cell? _ ⟨w.heap.size + 1, 0, none⟩ = some nilV := s1.cell 0
  have y1 : World.cell? _ ⟨w.heap.size + 1, 1, none⟩ = some nilV := s1.cell 1
  clear b0 s0 k0 hk b1 s1 k1 hlt
  unfold Cfg.v at hbg
  go_wp2_with fail
  refine wp_loop_rounds 1 ?_
  rw [rounds_succ]
  go_wp2_with fail
  refine wp_loop_rounds 1 ?_
  rw [rounds_succ]
  go_wp2_with fail
  refine hbg.mono ?_
  rintro e w2 ⟨S, rfl, hS, hk, hft⟩
  have b1 := B1.out.keep hk (fun e => e)
  have s1 := S1.out.keep hk (fun e => e)
  have K2 := Hd.mk (K1.out.false_ hk)
  have HS := Hd.mk hS
  have FT := Hd.mk hft
  have z1 := K1.out.size
  clear c0 c1 c2 c3 c4 c5 c6 c7 y0 y1 hk hS hft hbg
  obtain ⟨c0, c1, c2, c3, c4, c5, c6, c7⟩ := Cfg.at b1
  have y0 : World.cell? _ ⟨w.heap.size + 1, 0, none⟩ = some nilV := s1.cell 0
  have y1 : World.cell? _ ⟨w.heap.size + 1, 1, none⟩ = some nilV := s1.cell 1
  have y2 : World.cell? _ ⟨w.heap.size + 1, 2, none⟩ = some nilV := s1.cell 2
  have y3 : World.cell? _ ⟨w.heap.size + 1, 3, none⟩ = some nilV := s1.cell 3
  clear b1 s1 B1 S1
  go_wp2_with fail
  refine (hlv _).mono ?_
  rintro e w3 ⟨ga, ca, gb, cb, p, rfl, hga, hgb, l0, l1, l2, l3, l4, l5, hk⟩
  have hS3 := HS.out.keep0 hk
  have hld := laid_none hS3 ga ca gb cb p (fun e => by have := HS.out.foot_lt e; omega) (fun e => by have := HS.out.foot_lt e; omega) ⟨l0, l1, l2, l3, l4, l5⟩
  have K3 := Hd.mk (K2.out.false_ hk)
  clear c0 c1 c2 c3 c4 c5 c6 c7 y0 y1 y2 y3 l0 l1 l2 l3 l4 l5 hlv hk hS3
  go_wp2_with fail
  refine hld.mono ?_
  rintro e w4 ⟨rfl, s', hS4, hk⟩
  have HS4 := Hd.mk hS4
  have K4 := Hd.mk ((K3.out.trans hk (U := fun x => w.heap.size ≤ x) (fun _ _ e => e.elim) (fun x _ e => by have := FT.out x e; omega)).mono (T := fun _ => False) (fun x hx e => by omega))
  clear hld hS4 hk
  go_wp2_with fail
  (try simp only [Exit.inBlock, Exit.then])
  refine bodyPost_ret (results_tmp4 rfl _ _ _) rfl ?_
  exact ⟨S, _, rfl, s', HS4.out, K4.out, fun x hx => by have := FT.out x hx; omega⟩

end
end Go.Proofs.Sg
/-! code.Decode of a leaf with no pairs. -/
namespace Go.Proofs.Sg
set_option linter.unusedSimpArgs false
set_option linter.unusedVariables false
open Go.RowKit Go.Lib

theorem read_outer_none {w : World} (c : Cfg) (h0 : 0 ≤ c.leaf) (p : Value) :
    Calls Tryz.prog 91 #[c.v, p, .int .i64 0] w fun e w' => e = .returned (nodeV 0 nilV nilV nilV nilV) ∧ Keeps (fun _ => False) w w' := by
  have hf : ¬ c.leaf < 0 := by omega
  unfold Cfg.v nodeV at *
  go_enter Tryz.func91, Tryz.ntmps91
  go_wp2_with fail
  refine wp_loop_rounds 1 ?_
  rw [rounds_succ]
  go_wp2
  refine bodyPost_ret (v := .agg #[.int .i64 0, nilV, nilV, nilV, nilV]) (by simp [results, Tryz.results91, go_sem]) rfl ⟨rfl, ?_⟩
  repeat refine Keeps.setCell ?_ (fun h => absurd h (by simp)) _
  exact (((Keeps.refl (fun _ => False) w).alloc _).alloc _).alloc _

theorem equal_same {w : World} {b1 o1 c1 b2 o2 c2 n : Nat} {xs : List UInt8} (hn : xs.length = n) (hm : n ≤ 65536) (h1 : BytesAt w b1 o1 xs) (h2 : BytesAt w b2 o2 xs) :
    Calls Tryz.prog 94 #[.slice (some ⟨b1, o1, none⟩) n c1, .slice (some ⟨b2, o2, none⟩) n c2] w fun e w' => e = .returned (.bool true) ∧ Keeps (fun _ => False) w w' := by
  have A1 := Hd.mk h1
  have A2 := Hd.mk h2
  have A3 := Hd.mk hn
  clear h1 h2 hn
  go_enter Tryz.func94, Tryz.ntmps94
  go_wp2_with fail
  go_loopw [13] (fun vi wr => ∃ j q : Nat, vi = .int .i64 j ∧ j ≤ n ∧ wr = w.drewN q) (fun vi _ => n - (RowKit.intOf vi).toNat)
  case atStart => exact ⟨0, 0, by go_num, by omega, rfl⟩
  case round =>
    obtain ⟨j, q, rfl, hj, rfl⟩ := hrel
    by_cases hlt : j < n
    · have e1 : w.cell? ⟨b1, o1 + j, none⟩ = some (bv (xs.getD j 0)) := A1.out j (by rw [A3.out]; exact hlt)
      have e2 : w.cell? ⟨b2, o2 + j, none⟩ = some (bv (xs.getD j 0)) := A2.out j (by rw [A3.out]; exact hlt)
      unfold bv at e1 e2
      go_wp2_with fail
      go_quiet (fail)
      go_wp2_with fail
      exact ⟨⟨j + 1, q + nq, by go_num, by omega, rfl⟩, by simp [RowKit.intOf]; omega⟩
    · go_wp2_with fail
      go_ret
      exact ⟨rfl, (Keeps.refl _ w).drewN q⟩

set_option maxRecDepth 100000 in
set_option maxHeartbeats 4000000 in
theorem decode_leaf {w : World} (c : Cfg) (hc : c.In) (hcr : c.Right) {b off cap : Nat} (h : BytesAt w b off (leafB c)) :
    Calls Tryz.prog 35 #[c.v, .slice (some ⟨b, off, none⟩) c.bytes.toNat cap] w fun e w' => e = .returned (.tuple #[nodeV 0 nilV nilV nilV nilV, .int .i64 0]) ∧ Keeps (fun _ => False) w w' := by
  have hch := fun w => conf_check (w := w) c hc
  rw [if_pos hcr] at hch
  have hb64 : 64 ≤ c.bytes.toNat ∧ c.bytes.toNat ≤ 65536 := by
    obtain ⟨_, _, _, _, _, h1, h2, _⟩ := hcr
    omega
  have HE := fun (w : World) => encode_none (w := w) hc hcr none none none none 0 0 0 0
  have h0 : 0 ≤ c.leaf := by
    obtain ⟨⟨h1, h2, h3, h4, h5, h6, h7, h8, h9, h10⟩, _⟩ := hcr
    omega
  have hlen : (leafB c).length = c.bytes.toNat := leafB_length hcr
  have hparts : leafB c = be 1 1 ++ (be 1 0 ++ (be 2 0 ++ (be 2 0 ++ (List.replicate 2 0 ++ List.replicate (c.bytes.toNat - 8) 0)))) := by
    simp only [leafB, slot, frontB_length]
    simp only [frontB, be_zero, List.append_assoc]
  generalize hX : leafB c = X at *
  clear hX
  generalize hn : c.bytes.toNat = n at *
  have H := Hd.mk h
  have LEN := Hd.mk hlen
  have HP := Hd.mk hparts
  clear h hcr hn hlen hparts
  unfold Cfg.v nodeV at *
  go_enter Tryz.func35, Tryz.ntmps35
  go_wp2_with fail
  have bc0 := (Blk.new w 23 c.cells).alloc (.cells #[.int .i64 0, nilV, nilV, nilV, nilV] 42)
  have br0 : Blk ((w.alloc (.cells c.cells 23)).alloc (.cells #[.int .i64 0, nilV, nilV, nilV, nilV] 42)) (w.heap.size + 1) 42 #[.int .i64 0, nilV, nilV, nilV, nilV] := by
    simpa using Blk.new (w.alloc (.cells c.cells 23)) 42 #[.int .i64 0, nilV, nilV, nilV, nilV]
  have k0 : Keeps (fun _ => False) w ((w.alloc (.cells c.cells 23)).alloc (.cells #[.int .i64 0, nilV, nilV, nilV, nilV] 42)) := ((Keeps.refl _ w).alloc _).alloc _
  have z0 : ((w.alloc (.cells c.cells 23)).alloc (.cells #[.int .i64 0, nilV, nilV, nilV, nilV] 42)).heap.size = w.heap.size + 2 := by simp
  generalize hW : ((w.alloc (.cells c.cells 23)).alloc (.cells #[.int .i64 0, nilV, nilV, nilV, nilV] 42)) = w0 at *
  refine (hch _).mono ?_
  rintro e w1 ⟨rfl, hk⟩
  have bc1 := bc0.keep hk (fun e => e)
  have br1 := br0.keep hk (fun e => e)
  have k1 := k0.trans hk (U := fun _ => False) (fun _ _ e => e) (fun _ _ e => e)
  have z1 := hk.size
  clear hW bc0 br0 k0 hk
  have h1 := H.out.keeps k1 (fun e => e)
  have T1 := Hd.mk h1
  have Bc := Hd.mk bc1
  have Br := Hd.mk br1
  have K1 := Hd.mk k1
  clear h1 bc1 br1 k1 hch
  go_wp2_with fail
  refine (rd_open' LEN.out T1.out hb64.2).mono ?_
  rintro e w2 ⟨gr, rfl, hrd, hgr, hk⟩
  have R := Hd.mk (hrd.cast HP.out)
  have bc := Bc.out.keep hk (fun e => e)
  have br := Br.out.keep hk (fun e => e)
  have hgr2 : w.heap.size + 2 ≤ gr := by omega
  have K := Hd.mk (K1.out.trans hk (U := fun k => w.heap.size ≤ k) (fun _ _ e => e.elim) (fun _ _ e => e.elim))
  clear hrd hk Bc Br K1 T1 hgr z0 z1
  go_wp2_with fail
  refine (rd_num 1 1 (by omega) (by decide) R.out).mono ?_
  clear R
  rintro e w3 ⟨rfl, hrd, hk⟩
  have R := Hd.mk hrd
  replace bc := bc.keep hk (by omega)
  replace br := br.keep hk (by omega)
  have K' := Hd.mk (K.out.trans hk (U := fun k => w.heap.size ≤ k) (fun _ _ e => e) (fun _ _ e => by omega))
  clear K
  have K := K'
  clear K' hrd hk
  go_wp2_with fail
  refine (rd_num 1 0 (by omega) (by decide) R.out).mono ?_
  clear R
  rintro e w4 ⟨rfl, hrd, hk⟩
  have R := Hd.mk hrd
  replace bc := bc.keep hk (by omega)
  replace br := br.keep hk (by omega)
  have K' := Hd.mk (K.out.trans hk (U := fun k => w.heap.size ≤ k) (fun _ _ e => e) (fun _ _ e => by omega))
  clear K
  have K := K'
  clear K' hrd hk
  go_wp2_with fail
  refine (rd_num 2 0 (by omega) (by decide) R.out).mono ?_
  clear R
  rintro e w5 ⟨rfl, hrd, hk⟩
  have R := Hd.mk hrd
  replace bc := bc.keep hk (by omega)
  replace br := br.keep hk (by omega)
  have K' := Hd.mk (K.out.trans hk (U := fun k => w.heap.size ≤ k) (fun _ _ e => e) (fun _ _ e => by omega))
  clear K
  have K := K'
  clear K' hrd hk
  go_wp2_with fail
  refine (rd_num 2 0 (by omega) (by decide) R.out).mono ?_
  clear R
  rintro e w6 ⟨rfl, hrd, hk⟩
  have R := Hd.mk hrd
  replace bc := bc.keep hk (by omega)
  replace br := br.keep hk (by omega)
  have K' := Hd.mk (K.out.trans hk (U := fun k => w.heap.size ≤ k) (fun _ _ e => e) (fun _ _ e => by omega))
  clear K
  have K := K'
  clear K' hrd hk
  go_wp2_with fail
  refine (rd_zeros R.out (by omega)).mono ?_
  clear R
  rintro e w7 ⟨rfl, hrd, hk⟩
  have R := Hd.mk hrd
  replace bc := bc.keep hk (by omega)
  replace br := br.keep hk (by omega)
  have K' := Hd.mk (K.out.trans hk (U := fun k => w.heap.size ≤ k) (fun _ _ e => e) (fun _ _ e => by omega))
  clear K
  have K := K'
  clear K' hrd hk
  have bn := Blk.new w7 42 #[.int .i64 (-1), nilV, nilV, nilV, nilV]
  have k8 := (Keeps.refl (fun k => k = w7.heap.size) w7).alloc (.cells #[.int .i64 (-1), nilV, nilV, nilV, nilV] 42)
  obtain ⟨c0, c1, c2, c3, c4, c5, c6, c7⟩ := Cfg.at (bc.alloc (.cells #[.int .i64 (-1), nilV, nilV, nilV, nilV] 42))
  have Bc7 := Hd.mk bc
  have Br7 := Hd.mk br
  clear bc br
  go_wp2_with fail
  generalize (w7.alloc (.cells #[.int .i64 (-1), nilV, nilV, nilV, nilV] 42)) = w8 at *
  refine (read_outer_none c h0 _).mono ?_
  unfold nodeV
  rintro e w9 ⟨rfl, hk⟩
  have k9 := k8.trans hk (U := fun k => k = w7.heap.size) (fun _ _ e => e) (fun _ _ e => e.elim)
  have bn9 := bn.keep hk (fun e => e)
  obtain ⟨n0, n1, n2, n3, n4⟩ := bn9.five
  have fz : ∀ k, _ := bn9.frozen
  have k10 : Keeps (fun k => k = w7.heap.size) w9 (((((w9.setCell ⟨w7.heap.size, 0, none⟩ (.int .i64 0)).setCell ⟨w7.heap.size, 1, none⟩ nilV).setCell ⟨w7.heap.size, 2, none⟩ nilV).setCell ⟨w7.heap.size, 3, none⟩ nilV).setCell ⟨w7.heap.size, 4, none⟩ nilV) :=
    (((((Keeps.refl (fun k => k = w7.heap.size) w9).setCell (p := ⟨w7.heap.size, 0, none⟩) (fun _ => rfl) _).setCell (p := ⟨w7.heap.size, 1, none⟩) (fun _ => rfl) _).setCell (p := ⟨w7.heap.size, 2, none⟩) (fun _ => rfl) _).setCell (p := ⟨w7.heap.size, 3, none⟩) (fun _ => rfl) _).setCell (p := ⟨w7.heap.size, 4, none⟩) (fun _ => rfl) _
  have bn10 := ((((bn9.set_ 0 (.int .i64 0)).set_ 1 nilV).set_ 2 nilV).set_ 3 nilV).set_ 4 nilV
  have BN10 := Hd.mk bn10
  have K10 := Hd.mk (k9.trans k10 (U := fun k => k = w7.heap.size) (fun _ _ e => e) (fun _ _ e => e))
  clear bn bn9 bn10 k8 k9 k10 hk c0 c1 c2 c3 c4 c5 c6 c7
  go_wp2_with fail
  generalize hw10 : (((((w9.setCell ⟨w7.heap.size, 0, none⟩ (.int .i64 0)).setCell ⟨w7.heap.size, 1, none⟩ nilV).setCell ⟨w7.heap.size, 2, none⟩ nilV).setCell ⟨w7.heap.size, 3, none⟩ nilV).setCell ⟨w7.heap.size, 4, none⟩ nilV) = w10 at *
  clear hw10 n0 n1 n2 n3 n4 fz
  have R10 := R.out.keep K10.out (fun k hk e => by omega)
  have bc := Bc7.out.keep K10.out (fun e => by have := Bc7.out.lt; omega)
  have br := Br7.out.keep K10.out (fun e => by have := Br7.out.lt; omega)
  refine (rd_err R10).mono ?_
  rintro e w' ⟨rfl, rfl⟩
  obtain ⟨c0, c1, c2, c3, c4, c5, c6, c7⟩ := Cfg.at bc
  have bn10 : Blk w10 w7.heap.size 42 #[.int .i64 0, nilV, nilV, nilV, nilV] := BN10.out
  obtain ⟨n0, n1, n2, n3, n4⟩ := bn10.five
  have Br := Hd.mk br
  have Bn := Hd.mk bn10
  have KK := Hd.mk (K.out.trans K10.out (U := fun k => w.heap.size ≤ k) (fun _ _ e => e) (fun _ _ e => by have := K.out.size; omega))
  clear K R R10 br bc bn10 K10 Bc7 Br7 BN10
  go_wp2_with fail
  refine (HE _).mono ?_
  rintro e w11 ⟨v, rfl, hO, hg⟩
  have hk := hg.fresh
  obtain ⟨g, cc, rfl, hby, _⟩ := hO.at (by intro e; have := LEN.out; rw [e] at this; simp at this; omega)
  rw [LEN.out]
  have hbl : b < w.heap.size := World.block_lt_of_cell? w _ (H.out 0 (by rw [LEN.out]; omega))
  have hT := (H.out.keeps KK.out (by omega)).keeps hk (fun e => e)
  have heq := equal_same (c1 := cc) (c2 := cap) LEN.out hb64.2 hby hT
  have br := Br.out.keep hk (fun e => e)
  have bn := Bn.out.keep hk (fun e => e)
  have Br11 := Hd.mk br
  have Bn11 := Hd.mk bn
  have K11 := Hd.mk (KK.out.trans hk (U := fun k => w.heap.size ≤ k) (fun _ _ e => e) (fun _ _ e => e.elim))
  clear hO hg hk hby hT br bn HE KK Br Bn
  go_wp2_with fail
  refine heq.mono ?_
  rintro e w12 ⟨rfl, hk⟩
  have br := Br11.out.keep hk (fun e => e)
  have bn := Bn11.out.keep hk (fun e => e)
  obtain ⟨n0, n1, n2, n3, n4⟩ := bn.five
  obtain ⟨r0, r1, r2, r3, r4⟩ := br.five
  have f : ∀ k, _ := br.frozen
  have K12 := Hd.mk (K11.out.trans hk (U := fun k => w.heap.size ≤ k) (fun _ _ e => e) (fun _ _ e => e.elim))
  have B5 := Hd.mk (((((br.set_ 0 (.int .i64 0)).set_ 1 nilV).set_ 2 nilV).set_ 3 nilV).set_ 4 nilV)
  clear hk br bn heq K11
  go_wp2_with fail
  have q0 : World.cell? _ ⟨w.heap.size + 1, 0, none⟩ = some (.int .i64 0) := B5.out.cell 0
  have q1 : World.cell? _ ⟨w.heap.size + 1, 1, none⟩ = some nilV := B5.out.cell 1
  have q2 : World.cell? _ ⟨w.heap.size + 1, 2, none⟩ = some nilV := B5.out.cell 2
  have q3 : World.cell? _ ⟨w.heap.size + 1, 3, none⟩ = some nilV := B5.out.cell 3
  have q4 : World.cell? _ ⟨w.heap.size + 1, 4, none⟩ = some nilV := B5.out.cell 4
  refine bodyPost_ret (v := .tuple #[.agg #[.int .i64 0, nilV, nilV, nilV, nilV], .int .i64 0]) (by simp [results, Tryz.results35, go_sem, q0, q1, q2, q3, q4]) rfl ⟨rfl, ?_⟩
  refine Keeps.old ?_
  exact ((((K12.out.setCell (p := ⟨w.heap.size + 1, 0, none⟩) (fun _ => Nat.le_succ _) _).setCell (p := ⟨w.heap.size + 1, 1, none⟩) (fun _ => Nat.le_succ _) _).setCell (p := ⟨w.heap.size + 1, 2, none⟩) (fun _ => Nat.le_succ _) _).setCell (p := ⟨w.heap.size + 1, 3, none⟩) (fun _ => Nat.le_succ _) _).setCell (p := ⟨w.heap.size + 1, 4, none⟩) (fun _ => Nat.le_succ _) _

end Go.Proofs.Sg
