/- ShelfNone: its walk. -/
import Derived.Test.YthkbpcnbnhiefaaGreatDoorGreat
import Derived.Deep.RegionHeld3
namespace Go.Proofs.Sg
set_option linter.unusedSimpArgs false
set_option linter.unusedVariables false
open Go.RowKit Go.Lib

section
variable {w w' : World} {c : Cfg}

/-- What New is, of right settings. -/
theorem shelf_new_any {gd gi B Y r s : Nat} {D : Nat → List UInt8} (hc : c.In) (hr : c.Right) (hd : IsDev w gd gi B Y D r s) (hT : Tab w) (hgt : gd ≠ 0) (hit : gi ≠ 0) :
    Calls Tryz.prog 51 #[c.v, .pointer (some ⟨gd, 0, none⟩)] w fun e w' => Keeps (fun _ => False) w w' ∧
      ((e = .returned (.tuple #[.pointer none, .int .i64 3]) ∧ c.blocks ≠ (B : Int)) ∨ (e = .returned (.tuple #[.pointer none, .int .i64 3]) ∧ c.blocks = (B : Int) ∧ c.bytes ≠ (Y : Int)) ∨
       (∃ a, e = .returned (.tuple #[.pointer (some a), .int .i64 0]) ∧ c.blocks = (B : Int) ∧ c.bytes = (Y : Int))) := by
  by_cases hb : c.blocks = (B : Int)
  · by_cases hy : c.bytes = (Y : Int)
    · exact (shelf_new hc hr hd hb hy hT hgt hit).mono fun e w' ⟨S, he, _, _, _, hk, _⟩ => ⟨hk, .inr (.inr ⟨_, he, hb, hy⟩)⟩
    · exact (shelf_new_bytes hc hr hd hb hy).mono fun e w' ⟨he, hk⟩ => ⟨hk, .inr (.inl ⟨he, hb, hy⟩)⟩
  · exact (shelf_new_blocks hc hr hd hb).mono fun e w' ⟨he, hk⟩ => ⟨hk, .inl ⟨he, hb⟩⟩

theorem Keeps.false {w w1 w2 : World} (h : Keeps (fun _ => False) w w1) (k : Keeps (fun _ => False) w1 w2) : Keeps (fun _ => False) w w2 := h.trans k (fun _ _ e => e) (fun _ _ e => e)

theorem encS_keepsW {w w1 w2 w5 : World} {c : Cfg} {l : Int} {a1 a2 a3 a4 : Value}
    (h : w1.cell? ⟨w.heap.size, 0, none⟩ = some (.int .i64 c.blocks) ∧ w1.cell? ⟨w.heap.size, 1, none⟩ = some (.int .i64 c.bytes) ∧ w1.cell? ⟨w.heap.size, 2, none⟩ = some (.int .i64 c.frames) ∧ w1.cell? ⟨w.heap.size, 3, none⟩ = some (.int .i64 c.fan) ∧ w1.cell? ⟨w.heap.size, 4, none⟩ = some (.int .i64 c.buffer) ∧ w1.cell? ⟨w.heap.size, 5, none⟩ = some (.int .i64 c.leaf) ∧ w1.cell? ⟨w.heap.size, 6, none⟩ = some (.int .i64 c.key) ∧ w1.cell? ⟨w.heap.size, 7, none⟩ = some (.int .i64 c.val) ∧ w1.cell? ⟨w.heap.size + 1, 0, none⟩ = some (.int .i64 l) ∧ w1.cell? ⟨w.heap.size + 1, 1, none⟩ = some (a1) ∧ w1.cell? ⟨w.heap.size + 1, 2, none⟩ = some (a2) ∧ w1.cell? ⟨w.heap.size + 1, 3, none⟩ = some (a3) ∧ w1.cell? ⟨w.heap.size + 1, 4, none⟩ = some (a4) ∧ Keeps (fun _ => False) w5 w1) (hb : Keeps (fun _ => False) w1 w2) :
    w2.cell? ⟨w.heap.size, 0, none⟩ = some (.int .i64 c.blocks) ∧ w2.cell? ⟨w.heap.size, 1, none⟩ = some (.int .i64 c.bytes) ∧ w2.cell? ⟨w.heap.size, 2, none⟩ = some (.int .i64 c.frames) ∧ w2.cell? ⟨w.heap.size, 3, none⟩ = some (.int .i64 c.fan) ∧ w2.cell? ⟨w.heap.size, 4, none⟩ = some (.int .i64 c.buffer) ∧ w2.cell? ⟨w.heap.size, 5, none⟩ = some (.int .i64 c.leaf) ∧ w2.cell? ⟨w.heap.size, 6, none⟩ = some (.int .i64 c.key) ∧ w2.cell? ⟨w.heap.size, 7, none⟩ = some (.int .i64 c.val) ∧ w2.cell? ⟨w.heap.size + 1, 0, none⟩ = some (.int .i64 l) ∧ w2.cell? ⟨w.heap.size + 1, 1, none⟩ = some (a1) ∧ w2.cell? ⟨w.heap.size + 1, 2, none⟩ = some (a2) ∧ w2.cell? ⟨w.heap.size + 1, 3, none⟩ = some (a3) ∧ w2.cell? ⟨w.heap.size + 1, 4, none⟩ = some (a4) ∧ Keeps (fun _ => False) w5 w2 := encS_keeps h hb

set_option maxRecDepth 100000 in
set_option maxHeartbeats 8000000 in
theorem shelf_none (hc : c.In) (hT : Tab w) (B Y i : Nat) (hB : B < 256) (hY : Y < 256) (l : Int) (a1 a2 a3 a4 : Value) (m1 m2 m3 m4 : Nat) (h1 : ∃ p c, a1 = .slice p m1 c) (h2 : StrRow w a2 1 m2) (h3 : StrRow w a3 3 m3) (h4 : StrRow w a4 2 m4) :
    Calls Tryz.prog 11 #[c.v, .int .u8 B, .int .u8 Y, .int .u32 i, nodeV l a1 a2 a3 a4] w fun e w' => e = .returned (.bool true) ∧ Keeps (fun _ => False) w w' := by
  have o1 : a1.oneCell' = true := by obtain ⟨p, c, rfl⟩ := h1; rfl
  have o2 : a2.oneCell' = true := by obtain ⟨_, p, c, rfl, _⟩ := h2; rfl
  have o3 : a3.oneCell' = true := by obtain ⟨_, p, c, rfl, _⟩ := h3; rfl
  have o4 : a4.oneCell' = true := by obtain ⟨_, p, c, rfl, _⟩ := h4; rfl
  have bc0 := (Blk.new w 23 c.cells).alloc (.cells #[.int .i64 l, a1, a2, a3, a4] 42)
  have bn0 : Blk ((w.alloc (.cells c.cells 23)).alloc (.cells #[.int .i64 l, a1, a2, a3, a4] 42)) (w.heap.size + 1) 42 #[.int .i64 l, a1, a2, a3, a4] := by
    simpa using Blk.new (w.alloc (.cells c.cells 23)) 42 #[.int .i64 l, a1, a2, a3, a4]
  have k0 : Keeps (fun _ => False) w ((w.alloc (.cells c.cells 23)).alloc (.cells #[.int .i64 l, a1, a2, a3, a4] 42)) := ((Keeps.refl _ w).alloc _).alloc _
  have hgr := great (w := ((w.alloc (.cells c.cells 23)).alloc (.cells #[.int .i64 l, a1, a2, a3, a4] 42))) l a1 a2 a3 a4 m1 m2 m3 m4 h1 (h2.keep k0) (h3.keep k0) (h4.keep k0)
  have hTl := hT.lt
  have HT := Hd.mk hT
  have HC := Hd.mk hc
  obtain ⟨n0, n1, n2, n3, n4⟩ := bn0.five
  clear h1 h2 h3 h4 hT hc
  unfold Cfg.v nodeV at *
  go_enter Tryz.func11, Tryz.ntmps11
  go_wp2_with fail
  generalize hw0 : ((w.alloc (.cells c.cells 23)).alloc (.cells #[.int .i64 l, a1, a2, a3, a4] 42)) = w0 at *
  clear hw0
  refine hgr.mono ?_
  rintro e w1 ⟨⟨b, rfl⟩, hk⟩
  have K1 := Hd.mk (k0.false hk)
  have bc1 := bc0.keep hk (fun e => e)
  have bn1 := bn0.keep hk (fun e => e)
  have Bc := Hd.mk bc1
  have Bn := Hd.mk bn1
  clear hgr k0 bc0 bn0 hk bc1 bn1 n0 n1 n2 n3 n4
  cases b
  case true =>
    go_wp2_with fail
    refine (awake18 (HT.out.keeps K1.out (fun e => e))).mono ?_
    rintro e w2 ⟨rfl, hk⟩
    have K2 := Hd.mk (K1.out.false hk)
    clear hk
    go_wp2_with fail
    go_ret
    exact ⟨rfl, K2.out⟩
  case false =>
    have hdn := dev_new (w := w1) (5 + B % 20) (1 + Y) (by omega) (by omega) (by omega) (by omega)
    have eB : ((5 + B % 20 : Nat) : Int) = 5 + (B : Int) % 20 := by omega
    have eY : ((1 + Y : Nat) : Int) = 1 + (Y : Int) := by omega
    rw [eB, eY] at hdn
    have EBY := Hd.mk (And.intro eB eY)
    clear eB eY
    go_wp2_with fail
    refine hdn.mono ?_
    rintro e w2 ⟨gd, gi, rfl, hd, hbl, hg1, hg2⟩
    have kb := Keeps.of_below (S := fun _ => False) hbl
    have K2 := Hd.mk (K1.out.false kb)
    have bc2 := Bc.out.keep kb (fun e => e)
    have Bc2 := Hd.mk bc2
    have Bn2 := Hd.mk (Bn.out.keep kb (fun e => e))
    obtain ⟨c0, c1, c2, c3, c4, c5, c6, c7⟩ := Cfg.at bc2
    have z1 := K1.out.size
    have hgt : gd ≠ 0 := by omega
    have hit : gi ≠ 0 := by omega
    have D2 := Hd.mk hd
    clear hdn hbl kb bc2 hd hg1 hg2 Bc Bn
    by_cases hr : c.Right
    · have hnew := shelf_new_any HC.out hr D2.out (HT.out.keeps K2.out (fun e => e)) hgt hit
      have hnil := fun w => shelf_new_nil (w := w) HC.out hr
      have hrr := fun w => ref9_right (w := w) c HC.out
      rw [decide_eq_true hr] at hrr
      have HR := Hd.mk hr
      clear hr
      unfold Cfg.v at *
      go_wp2_with fail
      refine hnew.mono ?_
      rintro e w3 ⟨hk, hcase⟩
      have K3 := Hd.mk (K2.out.false hk)
      have bc3 := Bc2.out.keep hk (fun e => e)
      obtain ⟨c0, c1, c2, c3, c4, c5, c6, c7⟩ := Cfg.at bc3
      have Bc3 := Hd.mk bc3
      have Bn3 := Hd.mk (Bn2.out.keep hk (fun e => e))
      have D3 := Hd.mk (D2.out.keep hk (fun e => e) (fun e => e))
      clear hk bc3 hnew
      rcases hcase with ⟨rfl, hB1⟩ | ⟨rfl, hB1, hY1⟩ | ⟨a, rfl, hB1, hY1⟩
      · have XB := Hd.mk hB1
        have XY := XB
        clear hB1
        go_wp2_with fail
        refine (hnil _).mono ?_
        rintro e w4 ⟨rfl, hk⟩
        have K4 := Hd.mk (K3.out.false hk)
        have bc4 := Bc3.out.keep hk (fun e => e)
        have Bn4 := Hd.mk (Bn3.out.keep hk (fun e => e))
        have D4 := Hd.mk (D3.out.keep hk (fun e => e) (fun e => e))
        obtain ⟨c0, c1, c2, c3, c4, c5, c6, c7⟩ := Cfg.at bc4
        have Bc4 := Hd.mk bc4
        clear hk bc4 hnil
        go_wp2_with fail
        refine (hrr _).mono ?_
        rintro e w5 ⟨rfl, hk⟩
        have K5 := Hd.mk (K4.out.false hk)
        have bc5 := Bc4.out.keep hk (fun e => e)
        have bn5 := Bn4.out.keep hk (fun e => e)
        have DD := Hd.mk (D4.out.keep hk (fun e => e) (fun e => e))
        obtain ⟨c0, c1, c2, c3, c4, c5, c6, c7⟩ := Cfg.at bc5
        obtain ⟨n0, n1, n2, n3, n4⟩ := bn5.five
        have hk0 : Keeps (fun _ => False) w5 w5.drew := (Keeps.refl _ w5).drew
        have Bn5 := Hd.mk bn5
        clear hk hrr bc5 bn5
        go_wp2_with fail
        refine wp_region_held_drew (S := (fun w' => w'.cell? ⟨w.heap.size, 0, none⟩ = some (.int .i64 c.blocks) ∧ w'.cell? ⟨w.heap.size, 1, none⟩ = some (.int .i64 c.bytes) ∧ w'.cell? ⟨w.heap.size, 2, none⟩ = some (.int .i64 c.frames) ∧ w'.cell? ⟨w.heap.size, 3, none⟩ = some (.int .i64 c.fan) ∧ w'.cell? ⟨w.heap.size, 4, none⟩ = some (.int .i64 c.buffer) ∧ w'.cell? ⟨w.heap.size, 5, none⟩ = some (.int .i64 c.leaf) ∧ w'.cell? ⟨w.heap.size, 6, none⟩ = some (.int .i64 c.key) ∧ w'.cell? ⟨w.heap.size, 7, none⟩ = some (.int .i64 c.val) ∧ w'.cell? ⟨w.heap.size + 1, 0, none⟩ = some (.int .i64 l) ∧ w'.cell? ⟨w.heap.size + 1, 1, none⟩ = some (a1) ∧ w'.cell? ⟨w.heap.size + 1, 2, none⟩ = some (a2) ∧ w'.cell? ⟨w.heap.size + 1, 3, none⟩ = some (a3) ∧ w'.cell? ⟨w.heap.size + 1, 4, none⟩ = some (a4) ∧ Keeps (fun _ => False) w5 w')) (by kernel_rfl) (by go_keep) (fun hHeld => ?_)
        refine wpAnyH_take (i := 0) (oi := ⟨_, _, _, _, _, _⟩) (v := _) rfl (by kernel_rfl) (by kernel_rfl) (by kernel_rfl) (fun _ _ _ h => h) (Or.inl ⟨by rfl, fun _ _ => rfl⟩) hHeld ?_
        (try simp only [Act.put, Act.eval, List.setIfInBounds_toArray, List.set_cons_zero, List.set_cons_succ, List.getElem?_toArray, List.getElem?_cons_succ, List.getElem?_cons_zero, Array.getD_eq_getD_getElem?, Option.getD_some])
        refine wpAnyH_take (i := 1) (oi := ⟨_, _, _, _, _, _⟩) (v := _) rfl (by kernel_rfl) (by kernel_rfl) (by kernel_rfl) (fun _ _ _ h => h) (Or.inl ⟨by rfl, fun _ _ => rfl⟩) hHeld ?_
        (try simp only [Act.put, Act.eval, List.setIfInBounds_toArray, List.set_cons_zero, List.set_cons_succ, List.getElem?_toArray, List.getElem?_cons_succ, List.getElem?_cons_zero, Array.getD_eq_getD_getElem?, Option.getD_some])
        refine wpAnyH_take (i := 2) (oi := ⟨_, _, _, _, _, _⟩) (v := _) rfl (by kernel_rfl) (by kernel_rfl) (by kernel_rfl) (fun _ _ _ h => h) (Or.inl ⟨by rfl, fun _ _ => rfl⟩) hHeld ?_
        (try simp only [Act.put, Act.eval, List.setIfInBounds_toArray, List.set_cons_zero, List.set_cons_succ, List.getElem?_toArray, List.getElem?_cons_succ, List.getElem?_cons_zero, Array.getD_eq_getD_getElem?, Option.getD_some])
        refine wpAnyH_take (i := 3) (oi := ⟨_, _, _, _, _, _⟩) (v := _) rfl (by kernel_rfl) (by kernel_rfl) (by kernel_rfl) (fun _ _ _ h => h) (Or.inl ⟨by rfl, fun _ _ => rfl⟩) hHeld ?_
        (try simp only [Act.put, Act.eval, List.setIfInBounds_toArray, List.set_cons_zero, List.set_cons_succ, List.getElem?_toArray, List.getElem?_cons_succ, List.getElem?_cons_zero, Array.getD_eq_getD_getElem?, Option.getD_some])
        refine wpAnyH_take (i := 4) (oi := ⟨_, _, _, _, _, _⟩) (v := _) rfl (by kernel_rfl) (by kernel_rfl) (by kernel_rfl) (fun _ _ _ h => h) (Or.inl ⟨by rfl, fun _ _ => rfl⟩) hHeld ?_
        (try simp only [Act.put, Act.eval, List.setIfInBounds_toArray, List.set_cons_zero, List.set_cons_succ, List.getElem?_toArray, List.getElem?_cons_succ, List.getElem?_cons_zero, Array.getD_eq_getD_getElem?, Option.getD_some])
        refine wpAnyH_take (i := 5) (oi := ⟨_, _, _, _, _, _⟩) (v := _) rfl (by kernel_rfl) (by kernel_rfl) (by kernel_rfl) (fun _ _ _ h => h) (Or.inl ⟨by rfl, fun _ _ => rfl⟩) hHeld ?_
        (try simp only [Act.put, Act.eval, List.setIfInBounds_toArray, List.set_cons_zero, List.set_cons_succ, List.getElem?_toArray, List.getElem?_cons_succ, List.getElem?_cons_zero, Array.getD_eq_getD_getElem?, Option.getD_some])
        refine wpAnyH_take (i := 6) (oi := ⟨_, _, _, _, _, _⟩) (v := _) rfl (by kernel_rfl) (by kernel_rfl) (by kernel_rfl) (fun _ _ _ h => h) (Or.inl ⟨by rfl, fun _ _ => rfl⟩) hHeld ?_
        (try simp only [Act.put, Act.eval, List.setIfInBounds_toArray, List.set_cons_zero, List.set_cons_succ, List.getElem?_toArray, List.getElem?_cons_succ, List.getElem?_cons_zero, Array.getD_eq_getD_getElem?, Option.getD_some])
        refine wpAnyH_take (i := 7) (oi := ⟨_, _, _, _, _, _⟩) (v := _) rfl (by kernel_rfl) (by kernel_rfl) (by kernel_rfl) (fun _ _ _ h => h) (Or.inl ⟨by rfl, fun _ _ => rfl⟩) hHeld ?_
        (try simp only [Act.put, Act.eval, List.setIfInBounds_toArray, List.set_cons_zero, List.set_cons_succ, List.getElem?_toArray, List.getElem?_cons_succ, List.getElem?_cons_zero, Array.getD_eq_getD_getElem?, Option.getD_some])
        refine wpAnyH_take (i := 8) (oi := ⟨_, _, _, _, _, _⟩) (v := _) rfl (by kernel_rfl) (by kernel_rfl) (by kernel_rfl) (fun _ _ _ h => h) (Or.inl ⟨by rfl, fun _ _ => rfl⟩) hHeld ?_
        (try simp only [Act.put, Act.eval, List.setIfInBounds_toArray, List.set_cons_zero, List.set_cons_succ, List.getElem?_toArray, List.getElem?_cons_succ, List.getElem?_cons_zero, Array.getD_eq_getD_getElem?, Option.getD_some])
        refine wpAnyH_take (i := 9) (oi := ⟨_, _, _, _, _, _⟩) (v := _) rfl (by kernel_rfl) (by kernel_rfl) (by kernel_rfl) (fun _ _ _ h => h) (Or.inl ⟨by rfl, fun _ _ => rfl⟩) hHeld ?_
        (try simp only [Act.put, Act.eval, List.setIfInBounds_toArray, List.set_cons_zero, List.set_cons_succ, List.getElem?_toArray, List.getElem?_cons_succ, List.getElem?_cons_zero, Array.getD_eq_getD_getElem?, Option.getD_some])
        refine wpAnyH_take (i := 10) (oi := ⟨_, _, _, _, _, _⟩) (v := _) rfl (by kernel_rfl) (by kernel_rfl) (by kernel_rfl) (fun _ _ _ h => h) (Or.inl ⟨by rfl, fun _ _ => rfl⟩) hHeld ?_
        (try simp only [Act.put, Act.eval, List.setIfInBounds_toArray, List.set_cons_zero, List.set_cons_succ, List.getElem?_toArray, List.getElem?_cons_succ, List.getElem?_cons_zero, Array.getD_eq_getD_getElem?, Option.getD_some])
        refine wpAnyH_take (i := 11) (oi := ⟨_, _, _, _, _, _⟩) (v := _) rfl (by kernel_rfl) (by kernel_rfl) (by kernel_rfl) (fun _ _ _ h => h) (Or.inl ⟨by rfl, fun _ _ => rfl⟩) hHeld ?_
        (try simp only [Act.put, Act.eval, List.setIfInBounds_toArray, List.set_cons_zero, List.set_cons_succ, List.getElem?_toArray, List.getElem?_cons_succ, List.getElem?_cons_zero, Array.getD_eq_getD_getElem?, Option.getD_some])
        refine wpAnyH_take (i := 12) (oi := ⟨_, _, _, _, _, _⟩) (v := _) rfl (by kernel_rfl) (by kernel_rfl) (by kernel_rfl) (fun _ _ _ h => h) (Or.inl ⟨by rfl, fun _ _ => rfl⟩) hHeld ?_
        (try simp only [Act.put, Act.eval, List.setIfInBounds_toArray, List.set_cons_zero, List.set_cons_succ, List.getElem?_toArray, List.getElem?_cons_succ, List.getElem?_cons_zero, Array.getD_eq_getD_getElem?, Option.getD_some])
        refine wpAnyH_take (i := 14) (oi := ⟨_, _, _, _, _, _⟩) (v := _) rfl (by kernel_rfl) (by kernel_rfl) (by kernel_rfl) (fun _ _ _ h => h) (Or.inl ⟨by rfl, fun _ _ => rfl⟩) hHeld ?_
        (try simp only [Act.put, Act.eval, List.setIfInBounds_toArray, List.set_cons_zero, List.set_cons_succ, List.getElem?_toArray, List.getElem?_cons_succ, List.getElem?_cons_zero, Array.getD_eq_getD_getElem?, Option.getD_some])
        refine wpAnyH_take (i := 15) (oi := ⟨_, _, _, _, _, _⟩) (v := ?va15) rfl (by kernel_rfl) (by kernel_rfl) (by kernel_rfl) (fun _ _ _ h => h) (Or.inl ⟨by rfl, ?hya15⟩) hHeld ?resta15
        case hya15 => ((intro w hSw; (try dsimp only at hSw); go_simp) <;> try with_reducible rfl)
        (try simp only [Act.put, Act.eval, List.setIfInBounds_toArray, List.set_cons_zero, List.set_cons_succ, List.getElem?_toArray, List.getElem?_cons_succ, List.getElem?_cons_zero, Array.getD_eq_getD_getElem?, Option.getD_some])
        refine wpAnyH_ready (rs := [13]) (by kernel_rfl) (by simp) ?_
        refine AllReadyH.cons (o := ⟨_, _, _, _, _, _⟩) rfl (fun K hK => ?_) AllReadyH.nil
        go_simp
        (go_at_call 53; refine (dev_blocks' (DD.out.keep hHeld.2.2.2.2.2.2.2.2.2.2.2.2.2 (fun e => e) (fun e => e))).mono ?_; rintro e w' ⟨rfl, hb⟩)
        go_wp2_with fail
        refine hK.out _ _ (encS_keepsW hHeld hb) (fun hHeld => ?_)
        clear hK K
        (try simp only [Act.put, Act.eval, List.setIfInBounds_toArray, List.set_cons_zero, List.set_cons_succ, List.getElem?_toArray, List.getElem?_cons_succ, List.getElem?_cons_zero, Array.getD_eq_getD_getElem?, Option.getD_some])
        refine wpAnyH_take (i := 16) (oi := ⟨_, _, _, _, _, _⟩) (v := (.bool false)) rfl (by kernel_rfl) (by kernel_rfl) (by kernel_rfl) (fun _ _ _ h => h) (Or.inl ⟨by rfl, fun w hSw => by first | (go_simp; done) | (go_simp; have := XB.out; omega) | (go_simp; have := XY.out; omega)⟩) hHeld ?_
        (try simp only [Act.put, Act.eval, List.setIfInBounds_toArray, List.set_cons_zero, List.set_cons_succ, List.getElem?_toArray, List.getElem?_cons_succ, List.getElem?_cons_zero, Array.getD_eq_getD_getElem?, Option.getD_some])
        refine wpAnyH_take (i := 17) (oi := ⟨_, _, _, _, _, _⟩) (v := _) rfl (by kernel_rfl) (by kernel_rfl) (by kernel_rfl) (fun _ _ _ h => h) (Or.inl ⟨by rfl, fun _ _ => rfl⟩) hHeld ?_
        (try simp only [Act.put, Act.eval, List.setIfInBounds_toArray, List.set_cons_zero, List.set_cons_succ, List.getElem?_toArray, List.getElem?_cons_succ, List.getElem?_cons_zero, Array.getD_eq_getD_getElem?, Option.getD_some])
        refine wpAnyH_take (i := 18) (oi := ⟨_, _, _, _, _, _⟩) (v := undef) rfl (by kernel_rfl) (by kernel_rfl) (by kernel_rfl) (fun _ _ _ h => h) (Or.inr ⟨by rfl, rfl⟩) hHeld ?_
        (try simp only [Act.put, Act.eval, List.setIfInBounds_toArray, List.set_cons_zero, List.set_cons_succ, List.getElem?_toArray, List.getElem?_cons_succ, List.getElem?_cons_zero, Array.getD_eq_getD_getElem?, Option.getD_some])
        refine wpAnyH_take (i := 19) (oi := ⟨_, _, _, _, _, _⟩) (v := undef) rfl (by kernel_rfl) (by kernel_rfl) (by kernel_rfl) (fun _ _ _ h => h) (Or.inr ⟨by rfl, rfl⟩) hHeld ?_
        (try simp only [Act.put, Act.eval, List.setIfInBounds_toArray, List.set_cons_zero, List.set_cons_succ, List.getElem?_toArray, List.getElem?_cons_succ, List.getElem?_cons_zero, Array.getD_eq_getD_getElem?, Option.getD_some])
        refine wpAnyH_take (i := 20) (oi := ⟨_, _, _, _, _, _⟩) (v := undef) rfl (by kernel_rfl) (by kernel_rfl) (by kernel_rfl) (fun _ _ _ h => h) (Or.inr ⟨by rfl, rfl⟩) hHeld ?_
        (try simp only [Act.put, Act.eval, List.setIfInBounds_toArray, List.set_cons_zero, List.set_cons_succ, List.getElem?_toArray, List.getElem?_cons_succ, List.getElem?_cons_zero, Array.getD_eq_getD_getElem?, Option.getD_some])
        refine wpAnyH_take (i := 21) (oi := ⟨_, _, _, _, _, _⟩) (v := undef) rfl (by kernel_rfl) (by kernel_rfl) (by kernel_rfl) (fun _ _ _ h => h) (Or.inr ⟨by rfl, rfl⟩) hHeld ?_
        (try simp only [Act.put, Act.eval, List.setIfInBounds_toArray, List.set_cons_zero, List.set_cons_succ, List.getElem?_toArray, List.getElem?_cons_succ, List.getElem?_cons_zero, Array.getD_eq_getD_getElem?, Option.getD_some])
        refine wpAnyH_take (i := 22) (oi := ⟨_, _, _, _, _, _⟩) (v := undef) rfl (by kernel_rfl) (by kernel_rfl) (by kernel_rfl) (fun _ _ _ h => h) (Or.inr ⟨by rfl, rfl⟩) hHeld ?_
        (try simp only [Act.put, Act.eval, List.setIfInBounds_toArray, List.set_cons_zero, List.set_cons_succ, List.getElem?_toArray, List.getElem?_cons_succ, List.getElem?_cons_zero, Array.getD_eq_getD_getElem?, Option.getD_some])
        refine wpAnyH_take (i := 23) (oi := ⟨_, _, _, _, _, _⟩) (v := _) rfl (by kernel_rfl) (by kernel_rfl) (by kernel_rfl) (fun _ _ _ h => h) (Or.inl ⟨by rfl, fun _ _ => rfl⟩) hHeld ?_
        (try simp only [Act.put, Act.eval, List.setIfInBounds_toArray, List.set_cons_zero, List.set_cons_succ, List.getElem?_toArray, List.getElem?_cons_succ, List.getElem?_cons_zero, Array.getD_eq_getD_getElem?, Option.getD_some])
        refine wpAnyH_take (i := 24) (oi := ⟨_, _, _, _, _, _⟩) (v := _) rfl (by kernel_rfl) (by kernel_rfl) (by kernel_rfl) (fun _ _ _ h => h) (Or.inl ⟨by rfl, fun _ _ => rfl⟩) hHeld ?_
        (try simp only [Act.put, Act.eval, List.setIfInBounds_toArray, List.set_cons_zero, List.set_cons_succ, List.getElem?_toArray, List.getElem?_cons_succ, List.getElem?_cons_zero, Array.getD_eq_getD_getElem?, Option.getD_some])
        refine wpAnyH_take (i := 25) (oi := ⟨_, _, _, _, _, _⟩) (v := _) rfl (by kernel_rfl) (by kernel_rfl) (by kernel_rfl) (fun _ _ _ h => h) (Or.inl ⟨by rfl, fun _ _ => rfl⟩) hHeld ?_
        (try simp only [Act.put, Act.eval, List.setIfInBounds_toArray, List.set_cons_zero, List.set_cons_succ, List.getElem?_toArray, List.getElem?_cons_succ, List.getElem?_cons_zero, Array.getD_eq_getD_getElem?, Option.getD_some])
        refine wpAnyH_take (i := 26) (oi := ⟨_, _, _, _, _, _⟩) (v := _) rfl (by kernel_rfl) (by kernel_rfl) (by kernel_rfl) (fun _ _ _ h => h) (Or.inl ⟨by rfl, fun _ _ => rfl⟩) hHeld ?_
        (try simp only [Act.put, Act.eval, List.setIfInBounds_toArray, List.set_cons_zero, List.set_cons_succ, List.getElem?_toArray, List.getElem?_cons_succ, List.getElem?_cons_zero, Array.getD_eq_getD_getElem?, Option.getD_some])
        refine wpAnyH_take (i := 27) (oi := ⟨_, _, _, _, _, _⟩) (v := _) rfl (by kernel_rfl) (by kernel_rfl) (by kernel_rfl) (fun _ _ _ h => h) (Or.inl ⟨by rfl, fun _ _ => rfl⟩) hHeld ?_
        (try simp only [Act.put, Act.eval, List.setIfInBounds_toArray, List.set_cons_zero, List.set_cons_succ, List.getElem?_toArray, List.getElem?_cons_succ, List.getElem?_cons_zero, Array.getD_eq_getD_getElem?, Option.getD_some])
        refine wpAnyH_take (i := 28) (oi := ⟨_, _, _, _, _, _⟩) (v := _) rfl (by kernel_rfl) (by kernel_rfl) (by kernel_rfl) (fun _ _ _ h => h) (Or.inl ⟨by rfl, fun _ _ => rfl⟩) hHeld ?_
        (try simp only [Act.put, Act.eval, List.setIfInBounds_toArray, List.set_cons_zero, List.set_cons_succ, List.getElem?_toArray, List.getElem?_cons_succ, List.getElem?_cons_zero, Array.getD_eq_getD_getElem?, Option.getD_some])
        refine wpAnyH_take (i := 29) (oi := ⟨_, _, _, _, _, _⟩) (v := _) rfl (by kernel_rfl) (by kernel_rfl) (by kernel_rfl) (fun _ _ _ h => h) (Or.inl ⟨by rfl, fun _ _ => rfl⟩) hHeld ?_
        (try simp only [Act.put, Act.eval, List.setIfInBounds_toArray, List.set_cons_zero, List.set_cons_succ, List.getElem?_toArray, List.getElem?_cons_succ, List.getElem?_cons_zero, Array.getD_eq_getD_getElem?, Option.getD_some])
        refine wpAnyH_take (i := 30) (oi := ⟨_, _, _, _, _, _⟩) (v := _) rfl (by kernel_rfl) (by kernel_rfl) (by kernel_rfl) (fun _ _ _ h => h) (Or.inl ⟨by rfl, fun _ _ => rfl⟩) hHeld ?_
        (try simp only [Act.put, Act.eval, List.setIfInBounds_toArray, List.set_cons_zero, List.set_cons_succ, List.getElem?_toArray, List.getElem?_cons_succ, List.getElem?_cons_zero, Array.getD_eq_getD_getElem?, Option.getD_some])
        refine wpAnyH_take (i := 31) (oi := ⟨_, _, _, _, _, _⟩) (v := _) rfl (by kernel_rfl) (by kernel_rfl) (by kernel_rfl) (fun _ _ _ h => h) (Or.inl ⟨by rfl, fun _ _ => rfl⟩) hHeld ?_
        (try simp only [Act.put, Act.eval, List.setIfInBounds_toArray, List.set_cons_zero, List.set_cons_succ, List.getElem?_toArray, List.getElem?_cons_succ, List.getElem?_cons_zero, Array.getD_eq_getD_getElem?, Option.getD_some])
        refine wpAnyH_take (i := 32) (oi := ⟨_, _, _, _, _, _⟩) (v := _) rfl (by kernel_rfl) (by kernel_rfl) (by kernel_rfl) (fun _ _ _ h => h) (Or.inl ⟨by rfl, fun _ _ => rfl⟩) hHeld ?_
        (try simp only [Act.put, Act.eval, List.setIfInBounds_toArray, List.set_cons_zero, List.set_cons_succ, List.getElem?_toArray, List.getElem?_cons_succ, List.getElem?_cons_zero, Array.getD_eq_getD_getElem?, Option.getD_some])
        refine wpAnyH_take (i := 33) (oi := ⟨_, _, _, _, _, _⟩) (v := _) rfl (by kernel_rfl) (by kernel_rfl) (by kernel_rfl) (fun _ _ _ h => h) (Or.inl ⟨by rfl, fun _ _ => rfl⟩) hHeld ?_
        (try simp only [Act.put, Act.eval, List.setIfInBounds_toArray, List.set_cons_zero, List.set_cons_succ, List.getElem?_toArray, List.getElem?_cons_succ, List.getElem?_cons_zero, Array.getD_eq_getD_getElem?, Option.getD_some])
        refine wpAnyH_done (by kernel_rfl) ?_ _
        have K6 := Hd.mk (K5.out.false hHeld.2.2.2.2.2.2.2.2.2.2.2.2.2)
        have Bn6 := Hd.mk (Bn5.out.keep hHeld.2.2.2.2.2.2.2.2.2.2.2.2.2 (fun e => e))
        clear hHeld hk0 c0 c1 c2 c3 c4 c5 c6 c7 n0 n1 n2 n3 n4
        go_wp2_with fail
        have bz := (Blk.new w' 119 noCells).alloc (.cells #[.pointer none, .pointer (some ⟨w'.heap.size, 0, none⟩)] 29)
        have bl : Blk ((w'.alloc (.cells noCells 119)).alloc (.cells #[.pointer none, .pointer (some ⟨w'.heap.size, 0, none⟩)] 29)) (w'.heap.size + 1) 29 #[.pointer none, .pointer (some ⟨w'.heap.size, 0, none⟩)] := by
          simpa using Blk.new (w'.alloc (.cells noCells 119)) 29 #[.pointer none, .pointer (some ⟨w'.heap.size, 0, none⟩)]
        have k7 := (K6.out.alloc (.cells noCells 119)).alloc (.cells #[.pointer none, .pointer (some ⟨w'.heap.size, 0, none⟩)] 29)
        have bn7 := (Bn6.out.alloc (.cells noCells 119)).alloc (.cells #[.pointer none, .pointer (some ⟨w'.heap.size, 0, none⟩)] 29)
        unfold noCells at bz bl k7 bn7
        generalize hw7 : ((w'.alloc (.cells #[.int .i64 0, .int .i64 0, .int .i64 0, .int .i64 0, .int .i64 0, .int .i64 0, .int .i64 0, .int .i64 0, .pointer none, .pointer none, .pointer none, .int .u32 0] 119)).alloc (.cells #[.pointer none, .pointer (some ⟨w'.heap.size, 0, none⟩)] 29)) = w7 at *
        generalize hgz : w'.heap.size = gz at *
        have BZ := Hd.mk bz
        have BL := Hd.mk bl
        have K7 := Hd.mk k7
        have Bn7 := Hd.mk bn7
        clear hw7 hgz bz bl k7 bn7 K1 K2 Bc2 Bn2 D2 K3 Bc3 Bn3 D3 K4 Bn4 D4 Bc4 K5 DD Bn5 K6 Bn6 hb
        go_loopw [19] (fun v wr => ∃ j : Nat, v = .int .i64 j ∧ j ≤ 2 ∧ Keeps (fun _ => False) w7 wr) (fun v _ => 2 - (RowKit.intOf v).toNat)
        case atStart => exact ⟨0, by go_num, by omega, Keeps.refl _ _⟩
        case round =>
          obtain ⟨j, rfl, hj, hkr⟩ := hrel
          by_cases hlt : j < 2
          · obtain ⟨p, hcp, hno⟩ : ∃ p, wr.cell? ⟨gz + 1, j, none⟩ = some (.pointer p) ∧ IsNo wr p := by
              have hbl := BL.out.keep hkr (fun e => e)
              rcases j with _ | _ | j
              · exact ⟨none, hbl.cell 0, .inl rfl⟩
              · exact ⟨some ⟨gz, 0, none⟩, hbl.cell 1, .inr ⟨gz, rfl, BZ.out.keep hkr (fun e => e)⟩⟩
              · omega
            have NO := Hd.mk hno
            have KR := Hd.mk hkr
            clear hno hkr
            go_wp2_with fail
            refine (no_load NO.out i).mono ?_
            unfold nodeV
            rintro e x1 ⟨rfl, hk⟩
            have kA := hk.alloc (.cells #[.int .i64 0, nilV, nilV, nilV, nilV] 42)
            have bn1 := (Bn7.out.keep KR.out (fun e => e)).keep kA (fun e => e)
            obtain ⟨n0, n1, n2, n3, n4⟩ := bn1.five
            have NO1 := Hd.mk (NO.out.keep0 kA)
            have KR1 := Hd.mk (KR.out.false kA)
            have Bn8 := Hd.mk bn1
            clear hk kA bn1 NO
            go_wp2_with fail
            generalize hx : (x1.alloc (.cells #[.int .i64 0, nilV, nilV, nilV, nilV] 42)) = y1 at *
            clear hx
            have hmk := no_make NO1.out l a1 a2 a3 a4 o1 o2 o3 o4
            unfold nodeV at hmk
            refine hmk.mono ?_
            rintro e y2 ⟨rfl, hk⟩
            have bn2 := Bn8.out.keep hk (fun e => e)
            obtain ⟨n0, n1, n2, n3, n4⟩ := bn2.five
            have NO2 := Hd.mk (NO1.out.keep0 hk)
            have KR2 := Hd.mk (KR1.out.false hk)
            clear hk bn2 hmk NO1 KR1 Bn8
            go_wp2_with fail
            have hsv := no_save NO2.out i l a1 a2 a3 a4 o1 o2 o3 o4
            unfold nodeV at hsv
            refine hsv.mono ?_
            rintro e y3 ⟨rfl, hk⟩
            have NO3 := Hd.mk (NO2.out.keep0 hk)
            have KR3 := Hd.mk (KR2.out.false hk)
            clear hk hsv NO2 KR2
            go_wp2_with fail
            refine (no_free NO3.out i).mono ?_
            rintro e w' ⟨rfl, rfl⟩
            go_wp2_with fail
            refine (no_mark NO3.out i).mono ?_
            rintro e w' ⟨rfl, rfl⟩
            go_wp2_with fail
            refine (no_keep NO3.out i).mono ?_
            rintro e w' ⟨rfl, rfl⟩
            go_wp2_with fail
            refine (no_flush NO3.out).mono ?_
            rintro e w' ⟨rfl, rfl⟩
            go_wp2_with fail
            refine (no_config NO3.out).mono ?_
            rintro e y4 ⟨rfl, hk⟩
            have NO4 := Hd.mk (NO3.out.keep0 hk)
            have KR4 := Hd.mk (KR3.out.false hk)
            clear hk NO3 KR3
            go_wp2_with fail
            refine (no_left NO4.out).mono ?_
            rintro e w' ⟨rfl, rfl⟩
            go_wp2_with fail
            refine (no_has NO4.out i).mono ?_
            rintro e w' ⟨rfl, rfl⟩
            go_wp2_with fail
            refine (no_held NO4.out).mono ?_
            rintro e w' ⟨rfl, rfl⟩
            go_wp2_with fail
            refine (no_stats NO4.out).mono ?_
            rintro e y5 ⟨rfl, hk⟩
            have KR5 := Hd.mk (KR4.out.false hk)
            clear hk NO4 KR4
            go_wp2_with fail
            exact ⟨⟨j + 1, by go_num, by omega, KR5.out⟩, by simp [RowKit.intOf]; omega⟩
          · have KR := Hd.mk (K7.out.false hkr)
            clear hkr
            go_wp2_with fail
            refine (awake18 (HT.out.keeps KR.out (fun e => e))).mono ?_
            rintro e w8 ⟨rfl, hk⟩
            have K8 := Hd.mk (KR.out.false hk)
            clear hk
            go_wp2_with fail
            go_ret
            exact ⟨rfl, K8.out⟩
      · have XB := Hd.mk hB1
        have XY := Hd.mk hY1
        clear hB1 hY1
        go_wp2_with fail
        refine (hnil _).mono ?_
        rintro e w4 ⟨rfl, hk⟩
        have K4 := Hd.mk (K3.out.false hk)
        have bc4 := Bc3.out.keep hk (fun e => e)
        have Bn4 := Hd.mk (Bn3.out.keep hk (fun e => e))
        have D4 := Hd.mk (D3.out.keep hk (fun e => e) (fun e => e))
        obtain ⟨c0, c1, c2, c3, c4, c5, c6, c7⟩ := Cfg.at bc4
        have Bc4 := Hd.mk bc4
        clear hk bc4 hnil
        go_wp2_with fail
        refine (hrr _).mono ?_
        rintro e w5 ⟨rfl, hk⟩
        have K5 := Hd.mk (K4.out.false hk)
        have bc5 := Bc4.out.keep hk (fun e => e)
        have bn5 := Bn4.out.keep hk (fun e => e)
        have DD := Hd.mk (D4.out.keep hk (fun e => e) (fun e => e))
        obtain ⟨c0, c1, c2, c3, c4, c5, c6, c7⟩ := Cfg.at bc5
        obtain ⟨n0, n1, n2, n3, n4⟩ := bn5.five
        have hk0 : Keeps (fun _ => False) w5 w5.drew := (Keeps.refl _ w5).drew
        have Bn5 := Hd.mk bn5
        clear hk hrr bc5 bn5
        go_wp2_with fail
        refine wp_region_held_drew (S := (fun w' => w'.cell? ⟨w.heap.size, 0, none⟩ = some (.int .i64 c.blocks) ∧ w'.cell? ⟨w.heap.size, 1, none⟩ = some (.int .i64 c.bytes) ∧ w'.cell? ⟨w.heap.size, 2, none⟩ = some (.int .i64 c.frames) ∧ w'.cell? ⟨w.heap.size, 3, none⟩ = some (.int .i64 c.fan) ∧ w'.cell? ⟨w.heap.size, 4, none⟩ = some (.int .i64 c.buffer) ∧ w'.cell? ⟨w.heap.size, 5, none⟩ = some (.int .i64 c.leaf) ∧ w'.cell? ⟨w.heap.size, 6, none⟩ = some (.int .i64 c.key) ∧ w'.cell? ⟨w.heap.size, 7, none⟩ = some (.int .i64 c.val) ∧ w'.cell? ⟨w.heap.size + 1, 0, none⟩ = some (.int .i64 l) ∧ w'.cell? ⟨w.heap.size + 1, 1, none⟩ = some (a1) ∧ w'.cell? ⟨w.heap.size + 1, 2, none⟩ = some (a2) ∧ w'.cell? ⟨w.heap.size + 1, 3, none⟩ = some (a3) ∧ w'.cell? ⟨w.heap.size + 1, 4, none⟩ = some (a4) ∧ Keeps (fun _ => False) w5 w')) (by kernel_rfl) (by go_keep) (fun hHeld => ?_)
        refine wpAnyH_take (i := 0) (oi := ⟨_, _, _, _, _, _⟩) (v := _) rfl (by kernel_rfl) (by kernel_rfl) (by kernel_rfl) (fun _ _ _ h => h) (Or.inl ⟨by rfl, fun _ _ => rfl⟩) hHeld ?_
        (try simp only [Act.put, Act.eval, List.setIfInBounds_toArray, List.set_cons_zero, List.set_cons_succ, List.getElem?_toArray, List.getElem?_cons_succ, List.getElem?_cons_zero, Array.getD_eq_getD_getElem?, Option.getD_some])
        refine wpAnyH_take (i := 1) (oi := ⟨_, _, _, _, _, _⟩) (v := _) rfl (by kernel_rfl) (by kernel_rfl) (by kernel_rfl) (fun _ _ _ h => h) (Or.inl ⟨by rfl, fun _ _ => rfl⟩) hHeld ?_
        (try simp only [Act.put, Act.eval, List.setIfInBounds_toArray, List.set_cons_zero, List.set_cons_succ, List.getElem?_toArray, List.getElem?_cons_succ, List.getElem?_cons_zero, Array.getD_eq_getD_getElem?, Option.getD_some])
        refine wpAnyH_take (i := 2) (oi := ⟨_, _, _, _, _, _⟩) (v := _) rfl (by kernel_rfl) (by kernel_rfl) (by kernel_rfl) (fun _ _ _ h => h) (Or.inl ⟨by rfl, fun _ _ => rfl⟩) hHeld ?_
        (try simp only [Act.put, Act.eval, List.setIfInBounds_toArray, List.set_cons_zero, List.set_cons_succ, List.getElem?_toArray, List.getElem?_cons_succ, List.getElem?_cons_zero, Array.getD_eq_getD_getElem?, Option.getD_some])
        refine wpAnyH_take (i := 3) (oi := ⟨_, _, _, _, _, _⟩) (v := _) rfl (by kernel_rfl) (by kernel_rfl) (by kernel_rfl) (fun _ _ _ h => h) (Or.inl ⟨by rfl, fun _ _ => rfl⟩) hHeld ?_
        (try simp only [Act.put, Act.eval, List.setIfInBounds_toArray, List.set_cons_zero, List.set_cons_succ, List.getElem?_toArray, List.getElem?_cons_succ, List.getElem?_cons_zero, Array.getD_eq_getD_getElem?, Option.getD_some])
        refine wpAnyH_take (i := 4) (oi := ⟨_, _, _, _, _, _⟩) (v := _) rfl (by kernel_rfl) (by kernel_rfl) (by kernel_rfl) (fun _ _ _ h => h) (Or.inl ⟨by rfl, fun _ _ => rfl⟩) hHeld ?_
        (try simp only [Act.put, Act.eval, List.setIfInBounds_toArray, List.set_cons_zero, List.set_cons_succ, List.getElem?_toArray, List.getElem?_cons_succ, List.getElem?_cons_zero, Array.getD_eq_getD_getElem?, Option.getD_some])
        refine wpAnyH_take (i := 5) (oi := ⟨_, _, _, _, _, _⟩) (v := _) rfl (by kernel_rfl) (by kernel_rfl) (by kernel_rfl) (fun _ _ _ h => h) (Or.inl ⟨by rfl, fun _ _ => rfl⟩) hHeld ?_
        (try simp only [Act.put, Act.eval, List.setIfInBounds_toArray, List.set_cons_zero, List.set_cons_succ, List.getElem?_toArray, List.getElem?_cons_succ, List.getElem?_cons_zero, Array.getD_eq_getD_getElem?, Option.getD_some])
        refine wpAnyH_take (i := 6) (oi := ⟨_, _, _, _, _, _⟩) (v := _) rfl (by kernel_rfl) (by kernel_rfl) (by kernel_rfl) (fun _ _ _ h => h) (Or.inl ⟨by rfl, fun _ _ => rfl⟩) hHeld ?_
        (try simp only [Act.put, Act.eval, List.setIfInBounds_toArray, List.set_cons_zero, List.set_cons_succ, List.getElem?_toArray, List.getElem?_cons_succ, List.getElem?_cons_zero, Array.getD_eq_getD_getElem?, Option.getD_some])
        refine wpAnyH_take (i := 7) (oi := ⟨_, _, _, _, _, _⟩) (v := _) rfl (by kernel_rfl) (by kernel_rfl) (by kernel_rfl) (fun _ _ _ h => h) (Or.inl ⟨by rfl, fun _ _ => rfl⟩) hHeld ?_
        (try simp only [Act.put, Act.eval, List.setIfInBounds_toArray, List.set_cons_zero, List.set_cons_succ, List.getElem?_toArray, List.getElem?_cons_succ, List.getElem?_cons_zero, Array.getD_eq_getD_getElem?, Option.getD_some])
        refine wpAnyH_take (i := 8) (oi := ⟨_, _, _, _, _, _⟩) (v := _) rfl (by kernel_rfl) (by kernel_rfl) (by kernel_rfl) (fun _ _ _ h => h) (Or.inl ⟨by rfl, fun _ _ => rfl⟩) hHeld ?_
        (try simp only [Act.put, Act.eval, List.setIfInBounds_toArray, List.set_cons_zero, List.set_cons_succ, List.getElem?_toArray, List.getElem?_cons_succ, List.getElem?_cons_zero, Array.getD_eq_getD_getElem?, Option.getD_some])
        refine wpAnyH_take (i := 9) (oi := ⟨_, _, _, _, _, _⟩) (v := _) rfl (by kernel_rfl) (by kernel_rfl) (by kernel_rfl) (fun _ _ _ h => h) (Or.inl ⟨by rfl, fun _ _ => rfl⟩) hHeld ?_
        (try simp only [Act.put, Act.eval, List.setIfInBounds_toArray, List.set_cons_zero, List.set_cons_succ, List.getElem?_toArray, List.getElem?_cons_succ, List.getElem?_cons_zero, Array.getD_eq_getD_getElem?, Option.getD_some])
        refine wpAnyH_take (i := 10) (oi := ⟨_, _, _, _, _, _⟩) (v := _) rfl (by kernel_rfl) (by kernel_rfl) (by kernel_rfl) (fun _ _ _ h => h) (Or.inl ⟨by rfl, fun _ _ => rfl⟩) hHeld ?_
        (try simp only [Act.put, Act.eval, List.setIfInBounds_toArray, List.set_cons_zero, List.set_cons_succ, List.getElem?_toArray, List.getElem?_cons_succ, List.getElem?_cons_zero, Array.getD_eq_getD_getElem?, Option.getD_some])
        refine wpAnyH_take (i := 11) (oi := ⟨_, _, _, _, _, _⟩) (v := _) rfl (by kernel_rfl) (by kernel_rfl) (by kernel_rfl) (fun _ _ _ h => h) (Or.inl ⟨by rfl, fun _ _ => rfl⟩) hHeld ?_
        (try simp only [Act.put, Act.eval, List.setIfInBounds_toArray, List.set_cons_zero, List.set_cons_succ, List.getElem?_toArray, List.getElem?_cons_succ, List.getElem?_cons_zero, Array.getD_eq_getD_getElem?, Option.getD_some])
        refine wpAnyH_take (i := 12) (oi := ⟨_, _, _, _, _, _⟩) (v := _) rfl (by kernel_rfl) (by kernel_rfl) (by kernel_rfl) (fun _ _ _ h => h) (Or.inl ⟨by rfl, fun _ _ => rfl⟩) hHeld ?_
        (try simp only [Act.put, Act.eval, List.setIfInBounds_toArray, List.set_cons_zero, List.set_cons_succ, List.getElem?_toArray, List.getElem?_cons_succ, List.getElem?_cons_zero, Array.getD_eq_getD_getElem?, Option.getD_some])
        refine wpAnyH_take (i := 14) (oi := ⟨_, _, _, _, _, _⟩) (v := _) rfl (by kernel_rfl) (by kernel_rfl) (by kernel_rfl) (fun _ _ _ h => h) (Or.inl ⟨by rfl, fun _ _ => rfl⟩) hHeld ?_
        (try simp only [Act.put, Act.eval, List.setIfInBounds_toArray, List.set_cons_zero, List.set_cons_succ, List.getElem?_toArray, List.getElem?_cons_succ, List.getElem?_cons_zero, Array.getD_eq_getD_getElem?, Option.getD_some])
        refine wpAnyH_take (i := 15) (oi := ⟨_, _, _, _, _, _⟩) (v := ?vb15) rfl (by kernel_rfl) (by kernel_rfl) (by kernel_rfl) (fun _ _ _ h => h) (Or.inl ⟨by rfl, ?hyb15⟩) hHeld ?restb15
        case hyb15 => ((intro w hSw; (try dsimp only at hSw); go_simp) <;> try with_reducible rfl)
        (try simp only [Act.put, Act.eval, List.setIfInBounds_toArray, List.set_cons_zero, List.set_cons_succ, List.getElem?_toArray, List.getElem?_cons_succ, List.getElem?_cons_zero, Array.getD_eq_getD_getElem?, Option.getD_some])
        refine wpAnyH_ready (rs := [13]) (by kernel_rfl) (by simp) ?_
        refine AllReadyH.cons (o := ⟨_, _, _, _, _, _⟩) rfl (fun K hK => ?_) AllReadyH.nil
        go_simp
        (go_at_call 53; refine (dev_blocks' (DD.out.keep hHeld.2.2.2.2.2.2.2.2.2.2.2.2.2 (fun e => e) (fun e => e))).mono ?_; rintro e w' ⟨rfl, hb⟩)
        go_wp2_with fail
        refine hK.out _ _ (encS_keepsW hHeld hb) (fun hHeld => ?_)
        clear hK K
        (try simp only [Act.put, Act.eval, List.setIfInBounds_toArray, List.set_cons_zero, List.set_cons_succ, List.getElem?_toArray, List.getElem?_cons_succ, List.getElem?_cons_zero, Array.getD_eq_getD_getElem?, Option.getD_some])
        refine wpAnyH_take (i := 16) (oi := ⟨_, _, _, _, _, _⟩) (v := (.bool true)) rfl (by kernel_rfl) (by kernel_rfl) (by kernel_rfl) (fun _ _ _ h => h) (Or.inl ⟨by rfl, fun w hSw => by first | (go_simp; done) | (go_simp; have := XB.out; omega) | (go_simp; have := XY.out; omega)⟩) hHeld ?_
        (try simp only [Act.put, Act.eval, List.setIfInBounds_toArray, List.set_cons_zero, List.set_cons_succ, List.getElem?_toArray, List.getElem?_cons_succ, List.getElem?_cons_zero, Array.getD_eq_getD_getElem?, Option.getD_some])
        refine wpAnyH_take (i := 17) (oi := ⟨_, _, _, _, _, _⟩) (v := _) rfl (by kernel_rfl) (by kernel_rfl) (by kernel_rfl) (fun _ _ _ h => h) (Or.inl ⟨by rfl, fun _ _ => rfl⟩) hHeld ?_
        (try simp only [Act.put, Act.eval, List.setIfInBounds_toArray, List.set_cons_zero, List.set_cons_succ, List.getElem?_toArray, List.getElem?_cons_succ, List.getElem?_cons_zero, Array.getD_eq_getD_getElem?, Option.getD_some])
        refine wpAnyH_take (i := 18) (oi := ⟨_, _, _, _, _, _⟩) (v := _) rfl (by kernel_rfl) (by kernel_rfl) (by kernel_rfl) (fun _ _ _ h => h) (Or.inl ⟨by rfl, fun _ _ => rfl⟩) hHeld ?_
        (try simp only [Act.put, Act.eval, List.setIfInBounds_toArray, List.set_cons_zero, List.set_cons_succ, List.getElem?_toArray, List.getElem?_cons_succ, List.getElem?_cons_zero, Array.getD_eq_getD_getElem?, Option.getD_some])
        refine wpAnyH_take (i := 20) (oi := ⟨_, _, _, _, _, _⟩) (v := _) rfl (by kernel_rfl) (by kernel_rfl) (by kernel_rfl) (fun _ _ _ h => h) (Or.inl ⟨by rfl, fun _ _ => rfl⟩) hHeld ?_
        (try simp only [Act.put, Act.eval, List.setIfInBounds_toArray, List.set_cons_zero, List.set_cons_succ, List.getElem?_toArray, List.getElem?_cons_succ, List.getElem?_cons_zero, Array.getD_eq_getD_getElem?, Option.getD_some])
        refine wpAnyH_take (i := 21) (oi := ⟨_, _, _, _, _, _⟩) (v := ?vb21) rfl (by kernel_rfl) (by kernel_rfl) (by kernel_rfl) (fun _ _ _ h => h) (Or.inl ⟨by rfl, ?hyb21⟩) hHeld ?restb21
        case hyb21 => ((intro w hSw; (try dsimp only at hSw); go_simp) <;> try with_reducible rfl)
        (try simp only [Act.put, Act.eval, List.setIfInBounds_toArray, List.set_cons_zero, List.set_cons_succ, List.getElem?_toArray, List.getElem?_cons_succ, List.getElem?_cons_zero, Array.getD_eq_getD_getElem?, Option.getD_some])
        refine wpAnyH_ready (rs := [19]) (by kernel_rfl) (by simp) ?_
        refine AllReadyH.cons (o := ⟨_, _, _, _, _, _⟩) rfl (fun K hK => ?_) AllReadyH.nil
        go_simp
        (go_at_call 54; refine (dev_bytes (DD.out.keep hHeld.2.2.2.2.2.2.2.2.2.2.2.2.2 (fun e => e) (fun e => e))).mono ?_; rintro e w' ⟨rfl, rfl⟩)
        go_wp2_with fail
        refine hK.out _ _ hHeld (fun hHeld => ?_)
        clear hK K
        (try simp only [Act.put, Act.eval, List.setIfInBounds_toArray, List.set_cons_zero, List.set_cons_succ, List.getElem?_toArray, List.getElem?_cons_succ, List.getElem?_cons_zero, Array.getD_eq_getD_getElem?, Option.getD_some])
        refine wpAnyH_take (i := 22) (oi := ⟨_, _, _, _, _, _⟩) (v := (.bool false)) rfl (by kernel_rfl) (by kernel_rfl) (by kernel_rfl) (fun _ _ _ h => h) (Or.inl ⟨by rfl, fun w hSw => by first | (go_simp; done) | (go_simp; have := XB.out; omega) | (go_simp; have := XY.out; omega)⟩) hHeld ?_
        (try simp only [Act.put, Act.eval, List.setIfInBounds_toArray, List.set_cons_zero, List.set_cons_succ, List.getElem?_toArray, List.getElem?_cons_succ, List.getElem?_cons_zero, Array.getD_eq_getD_getElem?, Option.getD_some])
        refine wpAnyH_take (i := 23) (oi := ⟨_, _, _, _, _, _⟩) (v := _) rfl (by kernel_rfl) (by kernel_rfl) (by kernel_rfl) (fun _ _ _ h => h) (Or.inl ⟨by rfl, fun _ _ => rfl⟩) hHeld ?_
        (try simp only [Act.put, Act.eval, List.setIfInBounds_toArray, List.set_cons_zero, List.set_cons_succ, List.getElem?_toArray, List.getElem?_cons_succ, List.getElem?_cons_zero, Array.getD_eq_getD_getElem?, Option.getD_some])
        refine wpAnyH_take (i := 24) (oi := ⟨_, _, _, _, _, _⟩) (v := _) rfl (by kernel_rfl) (by kernel_rfl) (by kernel_rfl) (fun _ _ _ h => h) (Or.inl ⟨by rfl, fun _ _ => rfl⟩) hHeld ?_
        (try simp only [Act.put, Act.eval, List.setIfInBounds_toArray, List.set_cons_zero, List.set_cons_succ, List.getElem?_toArray, List.getElem?_cons_succ, List.getElem?_cons_zero, Array.getD_eq_getD_getElem?, Option.getD_some])
        refine wpAnyH_take (i := 25) (oi := ⟨_, _, _, _, _, _⟩) (v := _) rfl (by kernel_rfl) (by kernel_rfl) (by kernel_rfl) (fun _ _ _ h => h) (Or.inl ⟨by rfl, fun _ _ => rfl⟩) hHeld ?_
        (try simp only [Act.put, Act.eval, List.setIfInBounds_toArray, List.set_cons_zero, List.set_cons_succ, List.getElem?_toArray, List.getElem?_cons_succ, List.getElem?_cons_zero, Array.getD_eq_getD_getElem?, Option.getD_some])
        refine wpAnyH_take (i := 26) (oi := ⟨_, _, _, _, _, _⟩) (v := _) rfl (by kernel_rfl) (by kernel_rfl) (by kernel_rfl) (fun _ _ _ h => h) (Or.inl ⟨by rfl, fun _ _ => rfl⟩) hHeld ?_
        (try simp only [Act.put, Act.eval, List.setIfInBounds_toArray, List.set_cons_zero, List.set_cons_succ, List.getElem?_toArray, List.getElem?_cons_succ, List.getElem?_cons_zero, Array.getD_eq_getD_getElem?, Option.getD_some])
        refine wpAnyH_take (i := 27) (oi := ⟨_, _, _, _, _, _⟩) (v := _) rfl (by kernel_rfl) (by kernel_rfl) (by kernel_rfl) (fun _ _ _ h => h) (Or.inl ⟨by rfl, fun _ _ => rfl⟩) hHeld ?_
        (try simp only [Act.put, Act.eval, List.setIfInBounds_toArray, List.set_cons_zero, List.set_cons_succ, List.getElem?_toArray, List.getElem?_cons_succ, List.getElem?_cons_zero, Array.getD_eq_getD_getElem?, Option.getD_some])
        refine wpAnyH_take (i := 28) (oi := ⟨_, _, _, _, _, _⟩) (v := _) rfl (by kernel_rfl) (by kernel_rfl) (by kernel_rfl) (fun _ _ _ h => h) (Or.inl ⟨by rfl, fun _ _ => rfl⟩) hHeld ?_
        (try simp only [Act.put, Act.eval, List.setIfInBounds_toArray, List.set_cons_zero, List.set_cons_succ, List.getElem?_toArray, List.getElem?_cons_succ, List.getElem?_cons_zero, Array.getD_eq_getD_getElem?, Option.getD_some])
        refine wpAnyH_take (i := 29) (oi := ⟨_, _, _, _, _, _⟩) (v := _) rfl (by kernel_rfl) (by kernel_rfl) (by kernel_rfl) (fun _ _ _ h => h) (Or.inl ⟨by rfl, fun _ _ => rfl⟩) hHeld ?_
        (try simp only [Act.put, Act.eval, List.setIfInBounds_toArray, List.set_cons_zero, List.set_cons_succ, List.getElem?_toArray, List.getElem?_cons_succ, List.getElem?_cons_zero, Array.getD_eq_getD_getElem?, Option.getD_some])
        refine wpAnyH_take (i := 30) (oi := ⟨_, _, _, _, _, _⟩) (v := _) rfl (by kernel_rfl) (by kernel_rfl) (by kernel_rfl) (fun _ _ _ h => h) (Or.inl ⟨by rfl, fun _ _ => rfl⟩) hHeld ?_
        (try simp only [Act.put, Act.eval, List.setIfInBounds_toArray, List.set_cons_zero, List.set_cons_succ, List.getElem?_toArray, List.getElem?_cons_succ, List.getElem?_cons_zero, Array.getD_eq_getD_getElem?, Option.getD_some])
        refine wpAnyH_take (i := 31) (oi := ⟨_, _, _, _, _, _⟩) (v := _) rfl (by kernel_rfl) (by kernel_rfl) (by kernel_rfl) (fun _ _ _ h => h) (Or.inl ⟨by rfl, fun _ _ => rfl⟩) hHeld ?_
        (try simp only [Act.put, Act.eval, List.setIfInBounds_toArray, List.set_cons_zero, List.set_cons_succ, List.getElem?_toArray, List.getElem?_cons_succ, List.getElem?_cons_zero, Array.getD_eq_getD_getElem?, Option.getD_some])
        refine wpAnyH_take (i := 32) (oi := ⟨_, _, _, _, _, _⟩) (v := _) rfl (by kernel_rfl) (by kernel_rfl) (by kernel_rfl) (fun _ _ _ h => h) (Or.inl ⟨by rfl, fun _ _ => rfl⟩) hHeld ?_
        (try simp only [Act.put, Act.eval, List.setIfInBounds_toArray, List.set_cons_zero, List.set_cons_succ, List.getElem?_toArray, List.getElem?_cons_succ, List.getElem?_cons_zero, Array.getD_eq_getD_getElem?, Option.getD_some])
        refine wpAnyH_take (i := 33) (oi := ⟨_, _, _, _, _, _⟩) (v := _) rfl (by kernel_rfl) (by kernel_rfl) (by kernel_rfl) (fun _ _ _ h => h) (Or.inl ⟨by rfl, fun _ _ => rfl⟩) hHeld ?_
        (try simp only [Act.put, Act.eval, List.setIfInBounds_toArray, List.set_cons_zero, List.set_cons_succ, List.getElem?_toArray, List.getElem?_cons_succ, List.getElem?_cons_zero, Array.getD_eq_getD_getElem?, Option.getD_some])
        refine wpAnyH_done (by kernel_rfl) ?_ _
        have K6 := Hd.mk (K5.out.false hHeld.2.2.2.2.2.2.2.2.2.2.2.2.2)
        have Bn6 := Hd.mk (Bn5.out.keep hHeld.2.2.2.2.2.2.2.2.2.2.2.2.2 (fun e => e))
        clear hHeld hk0 c0 c1 c2 c3 c4 c5 c6 c7 n0 n1 n2 n3 n4
        go_wp2_with fail
        have bz := (Blk.new w' 119 noCells).alloc (.cells #[.pointer none, .pointer (some ⟨w'.heap.size, 0, none⟩)] 29)
        have bl : Blk ((w'.alloc (.cells noCells 119)).alloc (.cells #[.pointer none, .pointer (some ⟨w'.heap.size, 0, none⟩)] 29)) (w'.heap.size + 1) 29 #[.pointer none, .pointer (some ⟨w'.heap.size, 0, none⟩)] := by
          simpa using Blk.new (w'.alloc (.cells noCells 119)) 29 #[.pointer none, .pointer (some ⟨w'.heap.size, 0, none⟩)]
        have k7 := (K6.out.alloc (.cells noCells 119)).alloc (.cells #[.pointer none, .pointer (some ⟨w'.heap.size, 0, none⟩)] 29)
        have bn7 := (Bn6.out.alloc (.cells noCells 119)).alloc (.cells #[.pointer none, .pointer (some ⟨w'.heap.size, 0, none⟩)] 29)
        unfold noCells at bz bl k7 bn7
        generalize hw7 : ((w'.alloc (.cells #[.int .i64 0, .int .i64 0, .int .i64 0, .int .i64 0, .int .i64 0, .int .i64 0, .int .i64 0, .int .i64 0, .pointer none, .pointer none, .pointer none, .int .u32 0] 119)).alloc (.cells #[.pointer none, .pointer (some ⟨w'.heap.size, 0, none⟩)] 29)) = w7 at *
        generalize hgz : w'.heap.size = gz at *
        have BZ := Hd.mk bz
        have BL := Hd.mk bl
        have K7 := Hd.mk k7
        have Bn7 := Hd.mk bn7
        clear hw7 hgz bz bl k7 bn7 K1 K2 Bc2 Bn2 D2 K3 Bc3 Bn3 D3 K4 Bn4 D4 Bc4 K5 DD Bn5 K6 Bn6 hb
        go_loopw [19] (fun v wr => ∃ j : Nat, v = .int .i64 j ∧ j ≤ 2 ∧ Keeps (fun _ => False) w7 wr) (fun v _ => 2 - (RowKit.intOf v).toNat)
        case atStart => exact ⟨0, by go_num, by omega, Keeps.refl _ _⟩
        case round =>
          obtain ⟨j, rfl, hj, hkr⟩ := hrel
          by_cases hlt : j < 2
          · obtain ⟨p, hcp, hno⟩ : ∃ p, wr.cell? ⟨gz + 1, j, none⟩ = some (.pointer p) ∧ IsNo wr p := by
              have hbl := BL.out.keep hkr (fun e => e)
              rcases j with _ | _ | j
              · exact ⟨none, hbl.cell 0, .inl rfl⟩
              · exact ⟨some ⟨gz, 0, none⟩, hbl.cell 1, .inr ⟨gz, rfl, BZ.out.keep hkr (fun e => e)⟩⟩
              · omega
            have NO := Hd.mk hno
            have KR := Hd.mk hkr
            clear hno hkr
            go_wp2_with fail
            refine (no_load NO.out i).mono ?_
            unfold nodeV
            rintro e x1 ⟨rfl, hk⟩
            have kA := hk.alloc (.cells #[.int .i64 0, nilV, nilV, nilV, nilV] 42)
            have bn1 := (Bn7.out.keep KR.out (fun e => e)).keep kA (fun e => e)
            obtain ⟨n0, n1, n2, n3, n4⟩ := bn1.five
            have NO1 := Hd.mk (NO.out.keep0 kA)
            have KR1 := Hd.mk (KR.out.false kA)
            have Bn8 := Hd.mk bn1
            clear hk kA bn1 NO
            go_wp2_with fail
            generalize hx : (x1.alloc (.cells #[.int .i64 0, nilV, nilV, nilV, nilV] 42)) = y1 at *
            clear hx
            have hmk := no_make NO1.out l a1 a2 a3 a4 o1 o2 o3 o4
            unfold nodeV at hmk
            refine hmk.mono ?_
            rintro e y2 ⟨rfl, hk⟩
            have bn2 := Bn8.out.keep hk (fun e => e)
            obtain ⟨n0, n1, n2, n3, n4⟩ := bn2.five
            have NO2 := Hd.mk (NO1.out.keep0 hk)
            have KR2 := Hd.mk (KR1.out.false hk)
            clear hk bn2 hmk NO1 KR1 Bn8
            go_wp2_with fail
            have hsv := no_save NO2.out i l a1 a2 a3 a4 o1 o2 o3 o4
            unfold nodeV at hsv
            refine hsv.mono ?_
            rintro e y3 ⟨rfl, hk⟩
            have NO3 := Hd.mk (NO2.out.keep0 hk)
            have KR3 := Hd.mk (KR2.out.false hk)
            clear hk hsv NO2 KR2
            go_wp2_with fail
            refine (no_free NO3.out i).mono ?_
            rintro e w' ⟨rfl, rfl⟩
            go_wp2_with fail
            refine (no_mark NO3.out i).mono ?_
            rintro e w' ⟨rfl, rfl⟩
            go_wp2_with fail
            refine (no_keep NO3.out i).mono ?_
            rintro e w' ⟨rfl, rfl⟩
            go_wp2_with fail
            refine (no_flush NO3.out).mono ?_
            rintro e w' ⟨rfl, rfl⟩
            go_wp2_with fail
            refine (no_config NO3.out).mono ?_
            rintro e y4 ⟨rfl, hk⟩
            have NO4 := Hd.mk (NO3.out.keep0 hk)
            have KR4 := Hd.mk (KR3.out.false hk)
            clear hk NO3 KR3
            go_wp2_with fail
            refine (no_left NO4.out).mono ?_
            rintro e w' ⟨rfl, rfl⟩
            go_wp2_with fail
            refine (no_has NO4.out i).mono ?_
            rintro e w' ⟨rfl, rfl⟩
            go_wp2_with fail
            refine (no_held NO4.out).mono ?_
            rintro e w' ⟨rfl, rfl⟩
            go_wp2_with fail
            refine (no_stats NO4.out).mono ?_
            rintro e y5 ⟨rfl, hk⟩
            have KR5 := Hd.mk (KR4.out.false hk)
            clear hk NO4 KR4
            go_wp2_with fail
            exact ⟨⟨j + 1, by go_num, by omega, KR5.out⟩, by simp [RowKit.intOf]; omega⟩
          · have KR := Hd.mk (K7.out.false hkr)
            clear hkr
            go_wp2_with fail
            refine (awake18 (HT.out.keeps KR.out (fun e => e))).mono ?_
            rintro e w8 ⟨rfl, hk⟩
            have K8 := Hd.mk (KR.out.false hk)
            clear hk
            go_wp2_with fail
            go_ret
            exact ⟨rfl, K8.out⟩
      · have XB := Hd.mk hB1
        have XY := Hd.mk hY1
        clear hB1 hY1
        go_wp2_with fail
        refine (hnil _).mono ?_
        rintro e w4 ⟨rfl, hk⟩
        have K4 := Hd.mk (K3.out.false hk)
        have bc4 := Bc3.out.keep hk (fun e => e)
        have Bn4 := Hd.mk (Bn3.out.keep hk (fun e => e))
        have D4 := Hd.mk (D3.out.keep hk (fun e => e) (fun e => e))
        obtain ⟨c0, c1, c2, c3, c4, c5, c6, c7⟩ := Cfg.at bc4
        have Bc4 := Hd.mk bc4
        clear hk bc4 hnil
        go_wp2_with fail
        refine (hrr _).mono ?_
        rintro e w5 ⟨rfl, hk⟩
        have K5 := Hd.mk (K4.out.false hk)
        have bc5 := Bc4.out.keep hk (fun e => e)
        have bn5 := Bn4.out.keep hk (fun e => e)
        have DD := Hd.mk (D4.out.keep hk (fun e => e) (fun e => e))
        obtain ⟨c0, c1, c2, c3, c4, c5, c6, c7⟩ := Cfg.at bc5
        obtain ⟨n0, n1, n2, n3, n4⟩ := bn5.five
        have hk0 : Keeps (fun _ => False) w5 w5.drew := (Keeps.refl _ w5).drew
        have Bn5 := Hd.mk bn5
        clear hk hrr bc5 bn5
        go_wp2_with fail
        refine wp_region_held_drew (S := (fun w' => w'.cell? ⟨w.heap.size, 0, none⟩ = some (.int .i64 c.blocks) ∧ w'.cell? ⟨w.heap.size, 1, none⟩ = some (.int .i64 c.bytes) ∧ w'.cell? ⟨w.heap.size, 2, none⟩ = some (.int .i64 c.frames) ∧ w'.cell? ⟨w.heap.size, 3, none⟩ = some (.int .i64 c.fan) ∧ w'.cell? ⟨w.heap.size, 4, none⟩ = some (.int .i64 c.buffer) ∧ w'.cell? ⟨w.heap.size, 5, none⟩ = some (.int .i64 c.leaf) ∧ w'.cell? ⟨w.heap.size, 6, none⟩ = some (.int .i64 c.key) ∧ w'.cell? ⟨w.heap.size, 7, none⟩ = some (.int .i64 c.val) ∧ w'.cell? ⟨w.heap.size + 1, 0, none⟩ = some (.int .i64 l) ∧ w'.cell? ⟨w.heap.size + 1, 1, none⟩ = some (a1) ∧ w'.cell? ⟨w.heap.size + 1, 2, none⟩ = some (a2) ∧ w'.cell? ⟨w.heap.size + 1, 3, none⟩ = some (a3) ∧ w'.cell? ⟨w.heap.size + 1, 4, none⟩ = some (a4) ∧ Keeps (fun _ => False) w5 w')) (by kernel_rfl) (by go_keep) (fun hHeld => ?_)
        refine wpAnyH_take (i := 0) (oi := ⟨_, _, _, _, _, _⟩) (v := _) rfl (by kernel_rfl) (by kernel_rfl) (by kernel_rfl) (fun _ _ _ h => h) (Or.inl ⟨by rfl, fun _ _ => rfl⟩) hHeld ?_
        (try simp only [Act.put, Act.eval, List.setIfInBounds_toArray, List.set_cons_zero, List.set_cons_succ, List.getElem?_toArray, List.getElem?_cons_succ, List.getElem?_cons_zero, Array.getD_eq_getD_getElem?, Option.getD_some])
        refine wpAnyH_take (i := 1) (oi := ⟨_, _, _, _, _, _⟩) (v := _) rfl (by kernel_rfl) (by kernel_rfl) (by kernel_rfl) (fun _ _ _ h => h) (Or.inl ⟨by rfl, fun _ _ => rfl⟩) hHeld ?_
        (try simp only [Act.put, Act.eval, List.setIfInBounds_toArray, List.set_cons_zero, List.set_cons_succ, List.getElem?_toArray, List.getElem?_cons_succ, List.getElem?_cons_zero, Array.getD_eq_getD_getElem?, Option.getD_some])
        refine wpAnyH_take (i := 2) (oi := ⟨_, _, _, _, _, _⟩) (v := _) rfl (by kernel_rfl) (by kernel_rfl) (by kernel_rfl) (fun _ _ _ h => h) (Or.inl ⟨by rfl, fun _ _ => rfl⟩) hHeld ?_
        (try simp only [Act.put, Act.eval, List.setIfInBounds_toArray, List.set_cons_zero, List.set_cons_succ, List.getElem?_toArray, List.getElem?_cons_succ, List.getElem?_cons_zero, Array.getD_eq_getD_getElem?, Option.getD_some])
        refine wpAnyH_take (i := 3) (oi := ⟨_, _, _, _, _, _⟩) (v := _) rfl (by kernel_rfl) (by kernel_rfl) (by kernel_rfl) (fun _ _ _ h => h) (Or.inl ⟨by rfl, fun _ _ => rfl⟩) hHeld ?_
        (try simp only [Act.put, Act.eval, List.setIfInBounds_toArray, List.set_cons_zero, List.set_cons_succ, List.getElem?_toArray, List.getElem?_cons_succ, List.getElem?_cons_zero, Array.getD_eq_getD_getElem?, Option.getD_some])
        refine wpAnyH_take (i := 4) (oi := ⟨_, _, _, _, _, _⟩) (v := _) rfl (by kernel_rfl) (by kernel_rfl) (by kernel_rfl) (fun _ _ _ h => h) (Or.inl ⟨by rfl, fun _ _ => rfl⟩) hHeld ?_
        (try simp only [Act.put, Act.eval, List.setIfInBounds_toArray, List.set_cons_zero, List.set_cons_succ, List.getElem?_toArray, List.getElem?_cons_succ, List.getElem?_cons_zero, Array.getD_eq_getD_getElem?, Option.getD_some])
        refine wpAnyH_take (i := 5) (oi := ⟨_, _, _, _, _, _⟩) (v := _) rfl (by kernel_rfl) (by kernel_rfl) (by kernel_rfl) (fun _ _ _ h => h) (Or.inl ⟨by rfl, fun _ _ => rfl⟩) hHeld ?_
        (try simp only [Act.put, Act.eval, List.setIfInBounds_toArray, List.set_cons_zero, List.set_cons_succ, List.getElem?_toArray, List.getElem?_cons_succ, List.getElem?_cons_zero, Array.getD_eq_getD_getElem?, Option.getD_some])
        refine wpAnyH_take (i := 6) (oi := ⟨_, _, _, _, _, _⟩) (v := _) rfl (by kernel_rfl) (by kernel_rfl) (by kernel_rfl) (fun _ _ _ h => h) (Or.inl ⟨by rfl, fun _ _ => rfl⟩) hHeld ?_
        (try simp only [Act.put, Act.eval, List.setIfInBounds_toArray, List.set_cons_zero, List.set_cons_succ, List.getElem?_toArray, List.getElem?_cons_succ, List.getElem?_cons_zero, Array.getD_eq_getD_getElem?, Option.getD_some])
        refine wpAnyH_take (i := 7) (oi := ⟨_, _, _, _, _, _⟩) (v := _) rfl (by kernel_rfl) (by kernel_rfl) (by kernel_rfl) (fun _ _ _ h => h) (Or.inl ⟨by rfl, fun _ _ => rfl⟩) hHeld ?_
        (try simp only [Act.put, Act.eval, List.setIfInBounds_toArray, List.set_cons_zero, List.set_cons_succ, List.getElem?_toArray, List.getElem?_cons_succ, List.getElem?_cons_zero, Array.getD_eq_getD_getElem?, Option.getD_some])
        refine wpAnyH_take (i := 8) (oi := ⟨_, _, _, _, _, _⟩) (v := _) rfl (by kernel_rfl) (by kernel_rfl) (by kernel_rfl) (fun _ _ _ h => h) (Or.inl ⟨by rfl, fun _ _ => rfl⟩) hHeld ?_
        (try simp only [Act.put, Act.eval, List.setIfInBounds_toArray, List.set_cons_zero, List.set_cons_succ, List.getElem?_toArray, List.getElem?_cons_succ, List.getElem?_cons_zero, Array.getD_eq_getD_getElem?, Option.getD_some])
        refine wpAnyH_take (i := 9) (oi := ⟨_, _, _, _, _, _⟩) (v := _) rfl (by kernel_rfl) (by kernel_rfl) (by kernel_rfl) (fun _ _ _ h => h) (Or.inl ⟨by rfl, fun _ _ => rfl⟩) hHeld ?_
        (try simp only [Act.put, Act.eval, List.setIfInBounds_toArray, List.set_cons_zero, List.set_cons_succ, List.getElem?_toArray, List.getElem?_cons_succ, List.getElem?_cons_zero, Array.getD_eq_getD_getElem?, Option.getD_some])
        refine wpAnyH_take (i := 10) (oi := ⟨_, _, _, _, _, _⟩) (v := _) rfl (by kernel_rfl) (by kernel_rfl) (by kernel_rfl) (fun _ _ _ h => h) (Or.inl ⟨by rfl, fun _ _ => rfl⟩) hHeld ?_
        (try simp only [Act.put, Act.eval, List.setIfInBounds_toArray, List.set_cons_zero, List.set_cons_succ, List.getElem?_toArray, List.getElem?_cons_succ, List.getElem?_cons_zero, Array.getD_eq_getD_getElem?, Option.getD_some])
        refine wpAnyH_take (i := 11) (oi := ⟨_, _, _, _, _, _⟩) (v := _) rfl (by kernel_rfl) (by kernel_rfl) (by kernel_rfl) (fun _ _ _ h => h) (Or.inl ⟨by rfl, fun _ _ => rfl⟩) hHeld ?_
        (try simp only [Act.put, Act.eval, List.setIfInBounds_toArray, List.set_cons_zero, List.set_cons_succ, List.getElem?_toArray, List.getElem?_cons_succ, List.getElem?_cons_zero, Array.getD_eq_getD_getElem?, Option.getD_some])
        refine wpAnyH_take (i := 12) (oi := ⟨_, _, _, _, _, _⟩) (v := _) rfl (by kernel_rfl) (by kernel_rfl) (by kernel_rfl) (fun _ _ _ h => h) (Or.inl ⟨by rfl, fun _ _ => rfl⟩) hHeld ?_
        (try simp only [Act.put, Act.eval, List.setIfInBounds_toArray, List.set_cons_zero, List.set_cons_succ, List.getElem?_toArray, List.getElem?_cons_succ, List.getElem?_cons_zero, Array.getD_eq_getD_getElem?, Option.getD_some])
        refine wpAnyH_take (i := 14) (oi := ⟨_, _, _, _, _, _⟩) (v := _) rfl (by kernel_rfl) (by kernel_rfl) (by kernel_rfl) (fun _ _ _ h => h) (Or.inl ⟨by rfl, fun _ _ => rfl⟩) hHeld ?_
        (try simp only [Act.put, Act.eval, List.setIfInBounds_toArray, List.set_cons_zero, List.set_cons_succ, List.getElem?_toArray, List.getElem?_cons_succ, List.getElem?_cons_zero, Array.getD_eq_getD_getElem?, Option.getD_some])
        refine wpAnyH_take (i := 15) (oi := ⟨_, _, _, _, _, _⟩) (v := ?vc15) rfl (by kernel_rfl) (by kernel_rfl) (by kernel_rfl) (fun _ _ _ h => h) (Or.inl ⟨by rfl, ?hyc15⟩) hHeld ?restc15
        case hyc15 => ((intro w hSw; (try dsimp only at hSw); go_simp) <;> try with_reducible rfl)
        (try simp only [Act.put, Act.eval, List.setIfInBounds_toArray, List.set_cons_zero, List.set_cons_succ, List.getElem?_toArray, List.getElem?_cons_succ, List.getElem?_cons_zero, Array.getD_eq_getD_getElem?, Option.getD_some])
        refine wpAnyH_ready (rs := [13]) (by kernel_rfl) (by simp) ?_
        refine AllReadyH.cons (o := ⟨_, _, _, _, _, _⟩) rfl (fun K hK => ?_) AllReadyH.nil
        go_simp
        (go_at_call 53; refine (dev_blocks' (DD.out.keep hHeld.2.2.2.2.2.2.2.2.2.2.2.2.2 (fun e => e) (fun e => e))).mono ?_; rintro e w' ⟨rfl, hb⟩)
        go_wp2_with fail
        refine hK.out _ _ (encS_keepsW hHeld hb) (fun hHeld => ?_)
        clear hK K
        (try simp only [Act.put, Act.eval, List.setIfInBounds_toArray, List.set_cons_zero, List.set_cons_succ, List.getElem?_toArray, List.getElem?_cons_succ, List.getElem?_cons_zero, Array.getD_eq_getD_getElem?, Option.getD_some])
        refine wpAnyH_take (i := 16) (oi := ⟨_, _, _, _, _, _⟩) (v := (.bool true)) rfl (by kernel_rfl) (by kernel_rfl) (by kernel_rfl) (fun _ _ _ h => h) (Or.inl ⟨by rfl, fun w hSw => by first | (go_simp; done) | (go_simp; have := XB.out; omega) | (go_simp; have := XY.out; omega)⟩) hHeld ?_
        (try simp only [Act.put, Act.eval, List.setIfInBounds_toArray, List.set_cons_zero, List.set_cons_succ, List.getElem?_toArray, List.getElem?_cons_succ, List.getElem?_cons_zero, Array.getD_eq_getD_getElem?, Option.getD_some])
        refine wpAnyH_take (i := 17) (oi := ⟨_, _, _, _, _, _⟩) (v := _) rfl (by kernel_rfl) (by kernel_rfl) (by kernel_rfl) (fun _ _ _ h => h) (Or.inl ⟨by rfl, fun _ _ => rfl⟩) hHeld ?_
        (try simp only [Act.put, Act.eval, List.setIfInBounds_toArray, List.set_cons_zero, List.set_cons_succ, List.getElem?_toArray, List.getElem?_cons_succ, List.getElem?_cons_zero, Array.getD_eq_getD_getElem?, Option.getD_some])
        refine wpAnyH_take (i := 18) (oi := ⟨_, _, _, _, _, _⟩) (v := _) rfl (by kernel_rfl) (by kernel_rfl) (by kernel_rfl) (fun _ _ _ h => h) (Or.inl ⟨by rfl, fun _ _ => rfl⟩) hHeld ?_
        (try simp only [Act.put, Act.eval, List.setIfInBounds_toArray, List.set_cons_zero, List.set_cons_succ, List.getElem?_toArray, List.getElem?_cons_succ, List.getElem?_cons_zero, Array.getD_eq_getD_getElem?, Option.getD_some])
        refine wpAnyH_take (i := 20) (oi := ⟨_, _, _, _, _, _⟩) (v := _) rfl (by kernel_rfl) (by kernel_rfl) (by kernel_rfl) (fun _ _ _ h => h) (Or.inl ⟨by rfl, fun _ _ => rfl⟩) hHeld ?_
        (try simp only [Act.put, Act.eval, List.setIfInBounds_toArray, List.set_cons_zero, List.set_cons_succ, List.getElem?_toArray, List.getElem?_cons_succ, List.getElem?_cons_zero, Array.getD_eq_getD_getElem?, Option.getD_some])
        refine wpAnyH_take (i := 21) (oi := ⟨_, _, _, _, _, _⟩) (v := ?vc21) rfl (by kernel_rfl) (by kernel_rfl) (by kernel_rfl) (fun _ _ _ h => h) (Or.inl ⟨by rfl, ?hyc21⟩) hHeld ?restc21
        case hyc21 => ((intro w hSw; (try dsimp only at hSw); go_simp) <;> try with_reducible rfl)
        (try simp only [Act.put, Act.eval, List.setIfInBounds_toArray, List.set_cons_zero, List.set_cons_succ, List.getElem?_toArray, List.getElem?_cons_succ, List.getElem?_cons_zero, Array.getD_eq_getD_getElem?, Option.getD_some])
        refine wpAnyH_ready (rs := [19]) (by kernel_rfl) (by simp) ?_
        refine AllReadyH.cons (o := ⟨_, _, _, _, _, _⟩) rfl (fun K hK => ?_) AllReadyH.nil
        go_simp
        (go_at_call 54; refine (dev_bytes (DD.out.keep hHeld.2.2.2.2.2.2.2.2.2.2.2.2.2 (fun e => e) (fun e => e))).mono ?_; rintro e w' ⟨rfl, rfl⟩)
        go_wp2_with fail
        refine hK.out _ _ hHeld (fun hHeld => ?_)
        clear hK K
        (try simp only [Act.put, Act.eval, List.setIfInBounds_toArray, List.set_cons_zero, List.set_cons_succ, List.getElem?_toArray, List.getElem?_cons_succ, List.getElem?_cons_zero, Array.getD_eq_getD_getElem?, Option.getD_some])
        refine wpAnyH_take (i := 22) (oi := ⟨_, _, _, _, _, _⟩) (v := (.bool true)) rfl (by kernel_rfl) (by kernel_rfl) (by kernel_rfl) (fun _ _ _ h => h) (Or.inl ⟨by rfl, fun w hSw => by first | (go_simp; done) | (go_simp; have := XB.out; omega) | (go_simp; have := XY.out; omega)⟩) hHeld ?_
        (try simp only [Act.put, Act.eval, List.setIfInBounds_toArray, List.set_cons_zero, List.set_cons_succ, List.getElem?_toArray, List.getElem?_cons_succ, List.getElem?_cons_zero, Array.getD_eq_getD_getElem?, Option.getD_some])
        refine wpAnyH_take (i := 23) (oi := ⟨_, _, _, _, _, _⟩) (v := _) rfl (by kernel_rfl) (by kernel_rfl) (by kernel_rfl) (fun _ _ _ h => h) (Or.inl ⟨by rfl, fun _ _ => rfl⟩) hHeld ?_
        (try simp only [Act.put, Act.eval, List.setIfInBounds_toArray, List.set_cons_zero, List.set_cons_succ, List.getElem?_toArray, List.getElem?_cons_succ, List.getElem?_cons_zero, Array.getD_eq_getD_getElem?, Option.getD_some])
        refine wpAnyH_take (i := 24) (oi := ⟨_, _, _, _, _, _⟩) (v := _) rfl (by kernel_rfl) (by kernel_rfl) (by kernel_rfl) (fun _ _ _ h => h) (Or.inl ⟨by rfl, fun _ _ => rfl⟩) hHeld ?_
        (try simp only [Act.put, Act.eval, List.setIfInBounds_toArray, List.set_cons_zero, List.set_cons_succ, List.getElem?_toArray, List.getElem?_cons_succ, List.getElem?_cons_zero, Array.getD_eq_getD_getElem?, Option.getD_some])
        refine wpAnyH_take (i := 25) (oi := ⟨_, _, _, _, _, _⟩) (v := _) rfl (by kernel_rfl) (by kernel_rfl) (by kernel_rfl) (fun _ _ _ h => h) (Or.inl ⟨by rfl, fun _ _ => rfl⟩) hHeld ?_
        (try simp only [Act.put, Act.eval, List.setIfInBounds_toArray, List.set_cons_zero, List.set_cons_succ, List.getElem?_toArray, List.getElem?_cons_succ, List.getElem?_cons_zero, Array.getD_eq_getD_getElem?, Option.getD_some])
        refine wpAnyH_take (i := 26) (oi := ⟨_, _, _, _, _, _⟩) (v := _) rfl (by kernel_rfl) (by kernel_rfl) (by kernel_rfl) (fun _ _ _ h => h) (Or.inl ⟨by rfl, fun _ _ => rfl⟩) hHeld ?_
        (try simp only [Act.put, Act.eval, List.setIfInBounds_toArray, List.set_cons_zero, List.set_cons_succ, List.getElem?_toArray, List.getElem?_cons_succ, List.getElem?_cons_zero, Array.getD_eq_getD_getElem?, Option.getD_some])
        refine wpAnyH_take (i := 27) (oi := ⟨_, _, _, _, _, _⟩) (v := _) rfl (by kernel_rfl) (by kernel_rfl) (by kernel_rfl) (fun _ _ _ h => h) (Or.inl ⟨by rfl, fun _ _ => rfl⟩) hHeld ?_
        (try simp only [Act.put, Act.eval, List.setIfInBounds_toArray, List.set_cons_zero, List.set_cons_succ, List.getElem?_toArray, List.getElem?_cons_succ, List.getElem?_cons_zero, Array.getD_eq_getD_getElem?, Option.getD_some])
        refine wpAnyH_take (i := 28) (oi := ⟨_, _, _, _, _, _⟩) (v := _) rfl (by kernel_rfl) (by kernel_rfl) (by kernel_rfl) (fun _ _ _ h => h) (Or.inl ⟨by rfl, fun _ _ => rfl⟩) hHeld ?_
        (try simp only [Act.put, Act.eval, List.setIfInBounds_toArray, List.set_cons_zero, List.set_cons_succ, List.getElem?_toArray, List.getElem?_cons_succ, List.getElem?_cons_zero, Array.getD_eq_getD_getElem?, Option.getD_some])
        refine wpAnyH_take (i := 29) (oi := ⟨_, _, _, _, _, _⟩) (v := _) rfl (by kernel_rfl) (by kernel_rfl) (by kernel_rfl) (fun _ _ _ h => h) (Or.inl ⟨by rfl, fun _ _ => rfl⟩) hHeld ?_
        (try simp only [Act.put, Act.eval, List.setIfInBounds_toArray, List.set_cons_zero, List.set_cons_succ, List.getElem?_toArray, List.getElem?_cons_succ, List.getElem?_cons_zero, Array.getD_eq_getD_getElem?, Option.getD_some])
        refine wpAnyH_take (i := 30) (oi := ⟨_, _, _, _, _, _⟩) (v := undef) rfl (by kernel_rfl) (by kernel_rfl) (by kernel_rfl) (fun _ _ _ h => h) (Or.inr ⟨by rfl, rfl⟩) hHeld ?_
        (try simp only [Act.put, Act.eval, List.setIfInBounds_toArray, List.set_cons_zero, List.set_cons_succ, List.getElem?_toArray, List.getElem?_cons_succ, List.getElem?_cons_zero, Array.getD_eq_getD_getElem?, Option.getD_some])
        refine wpAnyH_take (i := 31) (oi := ⟨_, _, _, _, _, _⟩) (v := undef) rfl (by kernel_rfl) (by kernel_rfl) (by kernel_rfl) (fun _ _ _ h => h) (Or.inr ⟨by rfl, rfl⟩) hHeld ?_
        (try simp only [Act.put, Act.eval, List.setIfInBounds_toArray, List.set_cons_zero, List.set_cons_succ, List.getElem?_toArray, List.getElem?_cons_succ, List.getElem?_cons_zero, Array.getD_eq_getD_getElem?, Option.getD_some])
        refine wpAnyH_take (i := 32) (oi := ⟨_, _, _, _, _, _⟩) (v := _) rfl (by kernel_rfl) (by kernel_rfl) (by kernel_rfl) (fun _ _ _ h => h) (Or.inl ⟨by rfl, fun _ _ => rfl⟩) hHeld ?_
        (try simp only [Act.put, Act.eval, List.setIfInBounds_toArray, List.set_cons_zero, List.set_cons_succ, List.getElem?_toArray, List.getElem?_cons_succ, List.getElem?_cons_zero, Array.getD_eq_getD_getElem?, Option.getD_some])
        refine wpAnyH_take (i := 33) (oi := ⟨_, _, _, _, _, _⟩) (v := _) rfl (by kernel_rfl) (by kernel_rfl) (by kernel_rfl) (fun _ _ _ h => h) (Or.inl ⟨by rfl, fun _ _ => rfl⟩) hHeld ?_
        (try simp only [Act.put, Act.eval, List.setIfInBounds_toArray, List.set_cons_zero, List.set_cons_succ, List.getElem?_toArray, List.getElem?_cons_succ, List.getElem?_cons_zero, Array.getD_eq_getD_getElem?, Option.getD_some])
        refine wpAnyH_done (by kernel_rfl) ?_ _
        have K6 := Hd.mk (K5.out.false hHeld.2.2.2.2.2.2.2.2.2.2.2.2.2)
        have Bn6 := Hd.mk (Bn5.out.keep hHeld.2.2.2.2.2.2.2.2.2.2.2.2.2 (fun e => e))
        clear hHeld hk0 c0 c1 c2 c3 c4 c5 c6 c7 n0 n1 n2 n3 n4
        go_wp2_with fail
        have bz := (Blk.new w' 119 noCells).alloc (.cells #[.pointer none, .pointer (some ⟨w'.heap.size, 0, none⟩)] 29)
        have bl : Blk ((w'.alloc (.cells noCells 119)).alloc (.cells #[.pointer none, .pointer (some ⟨w'.heap.size, 0, none⟩)] 29)) (w'.heap.size + 1) 29 #[.pointer none, .pointer (some ⟨w'.heap.size, 0, none⟩)] := by
          simpa using Blk.new (w'.alloc (.cells noCells 119)) 29 #[.pointer none, .pointer (some ⟨w'.heap.size, 0, none⟩)]
        have k7 := (K6.out.alloc (.cells noCells 119)).alloc (.cells #[.pointer none, .pointer (some ⟨w'.heap.size, 0, none⟩)] 29)
        have bn7 := (Bn6.out.alloc (.cells noCells 119)).alloc (.cells #[.pointer none, .pointer (some ⟨w'.heap.size, 0, none⟩)] 29)
        unfold noCells at bz bl k7 bn7
        generalize hw7 : ((w'.alloc (.cells #[.int .i64 0, .int .i64 0, .int .i64 0, .int .i64 0, .int .i64 0, .int .i64 0, .int .i64 0, .int .i64 0, .pointer none, .pointer none, .pointer none, .int .u32 0] 119)).alloc (.cells #[.pointer none, .pointer (some ⟨w'.heap.size, 0, none⟩)] 29)) = w7 at *
        generalize hgz : w'.heap.size = gz at *
        have BZ := Hd.mk bz
        have BL := Hd.mk bl
        have K7 := Hd.mk k7
        have Bn7 := Hd.mk bn7
        clear hw7 hgz bz bl k7 bn7 K1 K2 Bc2 Bn2 D2 K3 Bc3 Bn3 D3 K4 Bn4 D4 Bc4 K5 DD Bn5 K6 Bn6 hb
        go_loopw [19] (fun v wr => ∃ j : Nat, v = .int .i64 j ∧ j ≤ 2 ∧ Keeps (fun _ => False) w7 wr) (fun v _ => 2 - (RowKit.intOf v).toNat)
        case atStart => exact ⟨0, by go_num, by omega, Keeps.refl _ _⟩
        case round =>
          obtain ⟨j, rfl, hj, hkr⟩ := hrel
          by_cases hlt : j < 2
          · obtain ⟨p, hcp, hno⟩ : ∃ p, wr.cell? ⟨gz + 1, j, none⟩ = some (.pointer p) ∧ IsNo wr p := by
              have hbl := BL.out.keep hkr (fun e => e)
              rcases j with _ | _ | j
              · exact ⟨none, hbl.cell 0, .inl rfl⟩
              · exact ⟨some ⟨gz, 0, none⟩, hbl.cell 1, .inr ⟨gz, rfl, BZ.out.keep hkr (fun e => e)⟩⟩
              · omega
            have NO := Hd.mk hno
            have KR := Hd.mk hkr
            clear hno hkr
            go_wp2_with fail
            refine (no_load NO.out i).mono ?_
            unfold nodeV
            rintro e x1 ⟨rfl, hk⟩
            have kA := hk.alloc (.cells #[.int .i64 0, nilV, nilV, nilV, nilV] 42)
            have bn1 := (Bn7.out.keep KR.out (fun e => e)).keep kA (fun e => e)
            obtain ⟨n0, n1, n2, n3, n4⟩ := bn1.five
            have NO1 := Hd.mk (NO.out.keep0 kA)
            have KR1 := Hd.mk (KR.out.false kA)
            have Bn8 := Hd.mk bn1
            clear hk kA bn1 NO
            go_wp2_with fail
            generalize hx : (x1.alloc (.cells #[.int .i64 0, nilV, nilV, nilV, nilV] 42)) = y1 at *
            clear hx
            have hmk := no_make NO1.out l a1 a2 a3 a4 o1 o2 o3 o4
            unfold nodeV at hmk
            refine hmk.mono ?_
            rintro e y2 ⟨rfl, hk⟩
            have bn2 := Bn8.out.keep hk (fun e => e)
            obtain ⟨n0, n1, n2, n3, n4⟩ := bn2.five
            have NO2 := Hd.mk (NO1.out.keep0 hk)
            have KR2 := Hd.mk (KR1.out.false hk)
            clear hk bn2 hmk NO1 KR1 Bn8
            go_wp2_with fail
            have hsv := no_save NO2.out i l a1 a2 a3 a4 o1 o2 o3 o4
            unfold nodeV at hsv
            refine hsv.mono ?_
            rintro e y3 ⟨rfl, hk⟩
            have NO3 := Hd.mk (NO2.out.keep0 hk)
            have KR3 := Hd.mk (KR2.out.false hk)
            clear hk hsv NO2 KR2
            go_wp2_with fail
            refine (no_free NO3.out i).mono ?_
            rintro e w' ⟨rfl, rfl⟩
            go_wp2_with fail
            refine (no_mark NO3.out i).mono ?_
            rintro e w' ⟨rfl, rfl⟩
            go_wp2_with fail
            refine (no_keep NO3.out i).mono ?_
            rintro e w' ⟨rfl, rfl⟩
            go_wp2_with fail
            refine (no_flush NO3.out).mono ?_
            rintro e w' ⟨rfl, rfl⟩
            go_wp2_with fail
            refine (no_config NO3.out).mono ?_
            rintro e y4 ⟨rfl, hk⟩
            have NO4 := Hd.mk (NO3.out.keep0 hk)
            have KR4 := Hd.mk (KR3.out.false hk)
            clear hk NO3 KR3
            go_wp2_with fail
            refine (no_left NO4.out).mono ?_
            rintro e w' ⟨rfl, rfl⟩
            go_wp2_with fail
            refine (no_has NO4.out i).mono ?_
            rintro e w' ⟨rfl, rfl⟩
            go_wp2_with fail
            refine (no_held NO4.out).mono ?_
            rintro e w' ⟨rfl, rfl⟩
            go_wp2_with fail
            refine (no_stats NO4.out).mono ?_
            rintro e y5 ⟨rfl, hk⟩
            have KR5 := Hd.mk (KR4.out.false hk)
            clear hk NO4 KR4
            go_wp2_with fail
            exact ⟨⟨j + 1, by go_num, by omega, KR5.out⟩, by simp [RowKit.intOf]; omega⟩
          · have KR := Hd.mk (K7.out.false hkr)
            clear hkr
            go_wp2_with fail
            refine (awake18 (HT.out.keeps KR.out (fun e => e))).mono ?_
            rintro e w8 ⟨rfl, hk⟩
            have K8 := Hd.mk (KR.out.false hk)
            clear hk
            go_wp2_with fail
            go_ret
            exact ⟨rfl, K8.out⟩
    · have hnew := shelf_new_arg (w := w2) HC.out hr (some ⟨gd, 0, none⟩)
      have hnil := fun w => shelf_new_arg (w := w) HC.out hr none
      have hrr := fun w => ref9_right (w := w) c HC.out
      rw [decide_eq_false hr] at hrr
      have HR := Hd.mk hr
      clear hr
      unfold Cfg.v at *
      go_wp2_with fail
      refine hnew.mono ?_
      rintro e w3 ⟨rfl, hk⟩
      have K3 := Hd.mk (K2.out.false hk)
      have bc3 := Bc2.out.keep hk (fun e => e)
      obtain ⟨c0, c1, c2, c3, c4, c5, c6, c7⟩ := Cfg.at bc3
      have Bc3 := Hd.mk bc3
      clear hk bc3 hnew
      go_wp2_with fail
      refine (hnil _).mono ?_
      rintro e w4 ⟨rfl, hk⟩
      have K4 := Hd.mk (K3.out.false hk)
      have bc4 := Bc3.out.keep hk (fun e => e)
      obtain ⟨c0, c1, c2, c3, c4, c5, c6, c7⟩ := Cfg.at bc4
      clear hk bc4 hnil
      go_wp2_with fail
      refine (hrr _).mono ?_
      rintro e w5 ⟨rfl, hk⟩
      have K5 := Hd.mk (K4.out.false hk)
      clear hk hrr
      go_wp2_with fail
      refine (awake18 (HT.out.keeps K5.out (fun e => e))).mono ?_
      rintro e w6 ⟨rfl, hk⟩
      have K6 := Hd.mk (K5.out.false hk)
      clear hk
      go_wp2_with fail
      go_ret
      exact ⟨rfl, K6.out⟩

end
end Go.Proofs.Sg
