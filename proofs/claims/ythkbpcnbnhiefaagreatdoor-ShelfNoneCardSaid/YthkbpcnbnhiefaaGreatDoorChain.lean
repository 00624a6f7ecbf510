/- What the ring of frames' numbers does: each of its methods, by its order. -/
import Derived.Test.YthkbpcnbnhiefaaGreatDoorProg
import Derived.Test.YthkbpcnbnhiefaaGreatDoorMem
import Derived.Test.YthkbpcnbnhiefaaGreatDoorRing
import Derived.WalkKit
import Derived.Deep.QuietTactic
import Derived.BigQuiet
namespace Go.Proofs.Sg
open Go.RowKit

def lkF (L : Nat → Lk) (j r : Nat) : Value := match r with
  | 0 => .int .i64 (L j).ahead
  | 1 => .int .i64 (L j).behind
  | _ => .bool (L j).inn

/-- A chain's two blocks, and its order. -/
def IsChain (w : World) (gc gl n : Nat) (o : List Nat) : Prop :=
  ∃ L : Nat → Lk, Blk w gc 243 #[.slice (some ⟨gl, 0, none⟩) (n + 1) (n + 1), .int .i64 o.length] ∧ Blk w gl 240 (grid 3 (n + 1) (lkF L)) ∧ Ring L n o ∧ 1 ≤ n ∧ n ≤ 4096 ∧ (∀ j, (L j).ahead ≤ n ∧ (L j).behind ≤ n)

theorem lk_ahead {L : Nat → Lk} {m j : Nat} (hj : j < m) (a : Nat) : (grid 3 m (lkF L)).setIfInBounds (j * 3) (.int .i64 a) = grid 3 m (lkF (upd L j { L j with ahead := a })) := by
  rw [show j * 3 = j * 3 + 0 from rfl, grid_set _ hj (by omega)]
  apply grid_congr
  intro i r _ hr
  by_cases h : i = j
  · subst h
    rcases r with _ | _ | r <;> simp [lkF, upd]
  · simp [h, lkF, upd]
theorem lk_behind {L : Nat → Lk} {m j : Nat} (hj : j < m) (a : Nat) : (grid 3 m (lkF L)).setIfInBounds (j * 3 + 1) (.int .i64 a) = grid 3 m (lkF (upd L j { L j with behind := a })) := by
  rw [grid_set _ hj (by omega)]
  apply grid_congr
  intro i r _ hr
  by_cases h : i = j
  · subst h
    rcases r with _ | _ | r <;> simp [lkF, upd]
  · simp [h, lkF, upd]
theorem lk_all {L : Nat → Lk} {m j : Nat} (hj : j < m) (x : Lk) :
    (((grid 3 m (lkF L)).setIfInBounds (j * 3) (.int .i64 x.ahead)).setIfInBounds (j * 3 + 1) (.int .i64 x.behind)).setIfInBounds (j * 3 + 2) (.bool x.inn) = grid 3 m (lkF (upd L j x)) := by
  rw [lk_ahead hj, lk_behind hj, grid_set _ hj (by omega)]
  apply grid_congr
  intro i r _ hr
  by_cases h : i = j
  · subst h
    rcases r with _ | _ | _ | r
    · simp [lkF, upd]
    · simp [lkF, upd]
    · simp [lkF, upd]
    · omega
  · simp [h, lkF, upd]

/-- Some cell is there still, whatever was stored in cells that are there. -/
theorem still_cell {w : World} {p q : Addr} {u v : Value} (h : w.cell? q = some v) : ∃ v', (w.setCell p u).cell? q = some v' := by
  by_cases e : p = q
  · subst e
    exact ⟨u, World.cell?_setCell_same' w p u (by rw [h]; rfl)⟩
  · exact ⟨v, (World.cell?_setCell_other w p q u e).trans h⟩


theorem out_bound {L : Nat → Lk} {n i : Nat} (h : ∀ j, (L j).ahead ≤ n ∧ (L j).behind ≤ n) (j : Nat) : (outL L i j).ahead ≤ n ∧ (outL L i j).behind ≤ n := by
  have h1 := h i
  have hA : ∀ j, (outA L i j).ahead ≤ n ∧ (outA L i j).behind ≤ n := fun j => by
    unfold outA upd; split
    · exact ⟨(h _).1, h1.2⟩
    · exact h j
  have hB : ∀ j, (outB L i j).ahead ≤ n ∧ (outB L i j).behind ≤ n := fun j => by
    unfold outB upd; split
    · exact ⟨h1.1, (hA _).2⟩
    · exact hA j
  unfold outL upd; split
  · simp
  · exact hB j
theorem put_bound {L : Nat → Lk} {n i : Nat} (hi : i ≤ n) (h : ∀ j, (L j).ahead ≤ n ∧ (L j).behind ≤ n) (j : Nat) : (putL L i n j).ahead ≤ n ∧ (putL L i n j).behind ≤ n := by
  have h1 := h n
  have hA : ∀ j, (putA L i n j).ahead ≤ n ∧ (putA L i n j).behind ≤ n := fun j => by
    unfold putA upd; split
    · exact ⟨Nat.le_refl _, h1.2⟩
    · exact h j
  have hB : ∀ j, (putB L i n j).ahead ≤ n ∧ (putB L i n j).behind ≤ n := fun j => by
    unfold putB upd; split
    · exact ⟨(hA _).1, hi⟩
    · exact hA j
  unfold putL upd; split
  · exact ⟨hi, (hB _).2⟩
  · exact hB j

theorem chain_out_no {w : World} {gc gl n : Nat} {o : List Nat} (h : IsChain w gc gl n o) (i : Nat) (hi : i < n) (ho : i ∉ o) :
    Calls Tryz.prog 179 #[.pointer (some ⟨gc, 0, none⟩), .int .i64 i] w fun e w' => e = .returned (.tuple #[]) ∧ IsChain w' gc gl n o ∧ Below w.heap.size w w' := by
  obtain ⟨L, hc, hl, hr, h1, hn, hb⟩ := h
  have c0 : w.cell? ⟨gc, 0, none⟩ = some (.slice (some ⟨gl, 0, none⟩) (n + 1) (n + 1)) := hc.cell 0
  have l0 : w.cell? ⟨gl, i * 3, none⟩ = some (.int .i64 (L i).ahead) := (hl.cell _).trans (grid_at (r := 0) (lkF L) (by omega) (by omega))
  have l1 : w.cell? ⟨gl, i * 3 + 1, none⟩ = some (.int .i64 (L i).behind) := (hl.cell _).trans (grid_at (r := 1) (lkF L) (by omega) (by omega))
  have l2 : w.cell? ⟨gl, i * 3 + 2, none⟩ = some (.bool false) := ((hl.cell _).trans (grid_at (r := 2) (lkF L) (by omega) (by omega))).trans (by simp [lkF, hr.inn i hi, ho])
  go_enter Tryz.func179, Tryz.ntmps179
  go_wp2
  refine bodyPost_ret (results_none rfl _ _ _) rfl ⟨rfl, ⟨L, hc.alloc _, hl.alloc _, hr, h1, hn, hb⟩, ?_⟩
  exact (Below.refl _ _).alloc (Nat.le_refl _) _

set_option maxHeartbeats 800000 in
theorem chain_out_yes {w : World} {gc gl n : Nat} {p s : List Nat} (i : Nat) (h : IsChain w gc gl n (p ++ i :: s)) :
    Calls Tryz.prog 179 #[.pointer (some ⟨gc, 0, none⟩), .int .i64 i] w fun e w' => e = .returned (.tuple #[]) ∧ IsChain w' gc gl n (p ++ s) ∧ Keeps (fun k => k = gc ∨ k = gl) w w' := by
  obtain ⟨L, hc, hl, hr, h1, hn, hb⟩ := h
  have hi : i < n := hr.lt i (by simp)
  have hx := (hb i).1
  have hy := (hb i).2
  have hne : gl ≠ gc := hl.ne_ hc (by decide)
  have hgc := hc.lt
  have hgl := hl.lt
  have hlen : (p ++ i :: s).length ≤ 4096 := by
    have hsub : (p ++ i :: s).length ≤ (List.range n).length := by
      refine (List.Nodup.length_le_of_subset hr.nodup ?_)
      intro x hx; simpa using hr.lt x hx
    simp at hsub ⊢; omega
  have c0 : w.cell? ⟨gc, 0, none⟩ = some (.slice (some ⟨gl, 0, none⟩) (n + 1) (n + 1)) := hc.cell 0
  obtain ⟨cnt, hcnt, hcnt1, hcnt2⟩ : ∃ cnt : Nat, (p ++ i :: s).length = cnt + 1 ∧ cnt = (p ++ s).length ∧ cnt ≤ 4095 := ⟨(p ++ s).length, by simp; omega, rfl, by simp at hlen ⊢; omega⟩
  have c1 : w.cell? ⟨gc, 1, none⟩ = some (.int .i64 ((cnt : Int) + 1)) := (hc.cell 1).trans (by rw [hcnt]; rfl)
  have f1 := hc.frozen 1
  have fl : ∀ k, w.frozen? ⟨gl, k, none⟩ = false := fun k => hl.frozen k
  have l0 : w.cell? ⟨gl, i * 3, none⟩ = some (.int .i64 (L i).ahead) := (hl.cell _).trans (grid_at (r := 0) (lkF L) (by omega) (by omega))
  have l1 : w.cell? ⟨gl, i * 3 + 1, none⟩ = some (.int .i64 (L i).behind) := (hl.cell _).trans (grid_at (r := 1) (lkF L) (by omega) (by omega))
  have l2 : w.cell? ⟨gl, i * 3 + 2, none⟩ = some (.bool true) := ((hl.cell _).trans (grid_at (r := 2) (lkF L) (by omega) (by omega))).trans (by simp [lkF, hr.inn i hi])
  have lx : w.cell? ⟨gl, (L i).ahead * 3 + 1, none⟩ = some (.int .i64 (L (L i).ahead).behind) := (hl.cell _).trans (grid_at (r := 1) (lkF L) (by omega) (by omega))
  have ly : w.cell? ⟨gl, (L i).behind * 3, none⟩ = some (.int .i64 (L (L i).behind).ahead) := (hl.cell _).trans (grid_at (r := 0) (lkF L) (by omega) (by omega))
  have hfin : ∀ w' : World, Blk w' gl 240 (((((grid 3 (n + 1) (lkF L)).setIfInBounds ((L i).ahead * 3 + 1) (.int .i64 (L i).behind)).setIfInBounds ((L i).behind * 3) (.int .i64 (L i).ahead)).setIfInBounds (i * 3) (.int .i64 0)).setIfInBounds (i * 3 + 1) (.int .i64 0) |>.setIfInBounds (i * 3 + 2) (.bool false)) → Blk w' gl 240 (grid 3 (n + 1) (lkF (outL L i))) := by
    intro w' hw
    have e := lk_all (L := outB L i) (m := n + 1) (j := i) (by omega) ⟨0, 0, false⟩
    rw [lk_behind (by omega), lk_ahead (by omega)] at hw
    exact (congrArg (Blk w' gl 240) e).mp hw
  have H5 := Hd.mk hcnt; clear hcnt
  have H6 := Hd.mk hcnt1; clear hcnt1
  obtain ⟨x, hxe⟩ : ∃ x, x = (L i).ahead := ⟨_, rfl⟩
  obtain ⟨y, hye⟩ : ∃ y, y = (L i).behind := ⟨_, rfl⟩
  rw [← hxe] at hx l0 lx
  rw [← hye] at hy l1 ly
  have HX := Hd.mk hxe; clear hxe
  have HY := Hd.mk hye; clear hye
  obtain ⟨v1, e1⟩ := still_cell (p := ⟨gl, x * 3 + 1, none⟩) (u := .int .i64 y) l0
  obtain ⟨v2, e2⟩ := still_cell (p := ⟨gl, y * 3, none⟩) (u := .int .i64 x) e1
  obtain ⟨v3, e3⟩ := still_cell (p := ⟨gl, x * 3 + 1, none⟩) (u := .int .i64 y) l1
  obtain ⟨v4, e4⟩ := still_cell (p := ⟨gl, y * 3, none⟩) (u := .int .i64 x) e3
  obtain ⟨v5, e5⟩ := still_cell (p := ⟨gl, x * 3 + 1, none⟩) (u := .int .i64 y) l2
  obtain ⟨v6, e6⟩ := still_cell (p := ⟨gl, y * 3, none⟩) (u := .int .i64 x) e5
  clear e1 e3 e5
  go_enter Tryz.func179, Tryz.ntmps179
  go_wp2
  go_region
  go_wp2
  go_region
  go_wp2
  refine bodyPost_end (results_none rfl _ _ _) rfl ⟨rfl, ?_, ?_⟩
  · have B := (((((hl.set_ (x * 3 + 1) (.int .i64 y)).set_ (y * 3) (.int .i64 x)).set_ (i * 3) (.int .i64 0)).set_ (i * 3 + 1) (.int .i64 0)).set_ (i * 3 + 2) (.bool false)).far (p := ⟨gc, 1, none⟩) hne (.int .i64 cnt)
    have C := (((((hc.far (p := ⟨gl, x * 3 + 1, none⟩) hne.symm (.int .i64 y)).far (p := ⟨gl, y * 3, none⟩) hne.symm (.int .i64 x)).far (p := ⟨gl, i * 3, none⟩) hne.symm (.int .i64 0)).far (p := ⟨gl, i * 3 + 1, none⟩) hne.symm (.int .i64 0)).far (p := ⟨gl, i * 3 + 2, none⟩) hne.symm (.bool false)).set_ 1 (.int .i64 cnt)
    have e : (#[.slice (some ⟨gl, 0, none⟩) (n + 1) (n + 1), .int .i64 (p ++ i :: s).length] : Array Value).setIfInBounds 1 (.int .i64 cnt) = #[.slice (some ⟨gl, 0, none⟩) (n + 1) (n + 1), .int .i64 (p ++ s).length] := by rw [H6.out]; rfl
    exact ⟨outL L i, (congrArg (Blk _ gc 243) e).mp (C.alloc _).drew.drew, hfin _ (by rw [← HX.out, ← HY.out]; exact (B.alloc _).drew.drew), hr.out, h1, hn, out_bound hb⟩
  · exact ((((((((Keeps.refl _ w).setCell (fun _ => .inr rfl) _).setCell (fun _ => .inr rfl) _).setCell (fun _ => .inr rfl) _).setCell (fun _ => .inr rfl) _).setCell (fun _ => .inr rfl) _).setCell (fun _ => .inl rfl) _).alloc _).drew.drew


theorem chain_root {w : World} {gc gl n : Nat} {o : List Nat} (h : IsChain w gc gl n o) :
    Calls Tryz.prog 182 #[.pointer (some ⟨gc, 0, none⟩)] w fun e w' => e = .returned (.int .i64 n) ∧ w = w' := by
  obtain ⟨L, hc, hl, hr, h1, hn, hb⟩ := h
  have c0 : w.cell? ⟨gc, 0, none⟩ = some (.slice (some ⟨gl, 0, none⟩) (n + 1) (n + 1)) := hc.cell 0
  go_enter Tryz.func182, Tryz.ntmps182
  go_wp2
  go_ret
  exact ⟨rfl, rfl⟩

theorem chain_root' {w : World} {gc gl n : Nat} {o : List Nat} (h : IsChain w gc gl n o) :
    Calls Tryz.prog 182 #[.pointer (some ⟨gc, 0, none⟩)] w fun e w' => e = .returned (.int .i64 n) ∧ w' = w :=
  (chain_root h).mono fun _ _ ⟨h1, h2⟩ => ⟨h1, h2.symm⟩

theorem chain_there {w : World} {gc gl n : Nat} {o : List Nat} (h : IsChain w gc gl n o) (i : Nat) (hi : i < n) :
    Calls Tryz.prog 178 #[.pointer (some ⟨gc, 0, none⟩), .int .i64 i] w fun e w' => e = .returned (.int .i64 0) ∧ w = w' := by
  have h0 := h
  obtain ⟨L, hc, hl, hr, h1, hn, hb⟩ := h
  have c0 : w.cell? ⟨gc, 0, none⟩ = some (.slice (some ⟨gl, 0, none⟩) (n + 1) (n + 1)) := hc.cell 0
  go_enter Tryz.func178, Tryz.ntmps178
  go_wp2_with (go_at_call 182; refine (chain_root h0).mono ?_; rintro e w' ⟨rfl, rfl⟩)
  go_ret
  exact ⟨rfl, rfl⟩

theorem chain_len {w : World} {gc gl n : Nat} {o : List Nat} (h : IsChain w gc gl n o) :
    Calls Tryz.prog 227 #[.pointer (some ⟨gc, 0, none⟩)] w fun e w' => e = .returned (.int .i64 o.length) ∧ w = w' := by
  obtain ⟨L, hc, hl, hr, h1, hn, hb⟩ := h
  have c1 : w.cell? ⟨gc, 1, none⟩ = some (.int .i64 o.length) := hc.cell 1
  go_enter Tryz.func227, Tryz.ntmps227
  go_wp2
  go_ret
  exact ⟨rfl, rfl⟩

/-- The one at the back. -/
theorem chain_last_some {w : World} {gc gl n z : Nat} {o : List Nat} (h : IsChain w gc gl n (o ++ [z])) :
    Calls Tryz.prog 180 #[.pointer (some ⟨gc, 0, none⟩)] w fun e w' => e = .returned (.tuple #[.int .i64 z, .bool true]) ∧ ∃ q, w' = w.drewN q := by
  have h0 := h
  obtain ⟨L, hc, hl, hr, h1, hn, hb⟩ := h
  have c0 : w.cell? ⟨gc, 0, none⟩ = some (.slice (some ⟨gl, 0, none⟩) (n + 1) (n + 1)) := hc.cell 0
  have l0 : w.cell? ⟨gl, n * 3, none⟩ = some (.int .i64 z) := ((hl.cell _).trans (grid_at (r := 0) (lkF L) (by omega) (by omega))).trans (by simp [lkF, hr.last, List.getLast_cons])
  have hz : (((o ++ [z]).length : Int) == 0) = false := by simp; omega
  go_enter Tryz.func180, Tryz.ntmps180
  go_wp2_with (first | (go_at_call 182; refine (chain_root h0).mono ?_; rintro e w' ⟨rfl, rfl⟩) | (go_at_call 227; refine (chain_len h0).mono ?_; rintro e w' ⟨rfl, rfl⟩))
  go_quiet ((go_at_call 182; exact Calls.quiet_of_same (chain_root' h0)))
  go_wp2
  go_ret2
  exact ⟨rfl, _, rfl⟩

theorem chain_last_none {w : World} {gc gl n : Nat} (h : IsChain w gc gl n []) :
    Calls Tryz.prog 180 #[.pointer (some ⟨gc, 0, none⟩)] w fun e w' => e = .returned (.tuple #[.int .i64 0, .bool false]) ∧ w = w' := by
  go_enter Tryz.func180, Tryz.ntmps180
  go_wp2_with (go_at_call 227; refine (chain_len h).mono ?_; rintro e w' ⟨rfl, rfl⟩)
  go_ret2
  exact ⟨rfl, rfl⟩

set_option maxHeartbeats 800000 in
theorem chain_put {w : World} {gc gl n : Nat} {o : List Nat} (i : Nat) (hi : i < n) (ho : i ∉ o) (h : IsChain w gc gl n o) :
    Calls Tryz.prog 181 #[.pointer (some ⟨gc, 0, none⟩), .int .i64 i, .int .i64 n] w fun e w' => e = .returned (.tuple #[]) ∧ IsChain w' gc gl n (i :: o) ∧ Keeps (fun k => k = gc ∨ k = gl) w w' := by
  obtain ⟨L, hc, hl, hr, h1, hn, hb⟩ := h
  have hy := (hb n).2
  have hne : gl ≠ gc := hl.ne_ hc (by decide)
  have hgc := hc.lt
  have hgl := hl.lt
  have hlen : o.length ≤ 4096 := by
    have hsub : o.length ≤ (List.range n).length := by
      refine (List.Nodup.length_le_of_subset hr.nodup ?_)
      intro x hx; simpa using hr.lt x hx
    simp at hsub; omega
  have c0 : w.cell? ⟨gc, 0, none⟩ = some (.slice (some ⟨gl, 0, none⟩) (n + 1) (n + 1)) := hc.cell 0
  have c1 : w.cell? ⟨gc, 1, none⟩ = some (.int .i64 o.length) := hc.cell 1
  have f1 := hc.frozen 1
  have fl : ∀ k, w.frozen? ⟨gl, k, none⟩ = false := fun k => hl.frozen k
  have l1 : w.cell? ⟨gl, n * 3 + 1, none⟩ = some (.int .i64 (L n).behind) := (hl.cell _).trans (grid_at (r := 1) (lkF L) (by omega) (by omega))
  have li0 : w.cell? ⟨gl, i * 3, none⟩ = some (.int .i64 (L i).ahead) := (hl.cell _).trans (grid_at (r := 0) (lkF L) (by omega) (by omega))
  have li1 : w.cell? ⟨gl, i * 3 + 1, none⟩ = some (.int .i64 (L i).behind) := (hl.cell _).trans (grid_at (r := 1) (lkF L) (by omega) (by omega))
  have li2 : w.cell? ⟨gl, i * 3 + 2, none⟩ = some (.bool (L i).inn) := (hl.cell _).trans (grid_at (r := 2) (lkF L) (by omega) (by omega))
  have ly : w.cell? ⟨gl, (L n).behind * 3, none⟩ = some (.int .i64 (L (L n).behind).ahead) := (hl.cell _).trans (grid_at (r := 0) (lkF L) (by omega) (by omega))
  obtain ⟨v1, e1⟩ := still_cell (p := ⟨gl, i * 3, none⟩) (u := .int .i64 n) ly
  go_enter Tryz.func181, Tryz.ntmps181
  go_wp2
  refine bodyPost_end (results_none rfl _ _ _) rfl ⟨rfl, ?_, ?_⟩
  · have B := (((((hl.set_ (i * 3) (.int .i64 n)).set_ (i * 3 + 1) (.int .i64 (L n).behind)).set_ (i * 3 + 2) (.bool true)).set_ (n * 3 + 1) (.int .i64 i)).set_ ((L n).behind * 3) (.int .i64 i)).far (p := ⟨gc, 1, none⟩) hne (.int .i64 ((o.length : Int) + 1))
    have C := (((((hc.far (p := ⟨gl, i * 3, none⟩) hne.symm (.int .i64 n)).far (p := ⟨gl, i * 3 + 1, none⟩) hne.symm (.int .i64 (L n).behind)).far (p := ⟨gl, i * 3 + 2, none⟩) hne.symm (.bool true)).far (p := ⟨gl, n * 3 + 1, none⟩) hne.symm (.int .i64 i)).far (p := ⟨gl, (L n).behind * 3, none⟩) hne.symm (.int .i64 i)).set_ 1 (.int .i64 ((o.length : Int) + 1))
    have e : (#[.slice (some ⟨gl, 0, none⟩) (n + 1) (n + 1), .int .i64 o.length] : Array Value).setIfInBounds 1 (.int .i64 ((o.length : Int) + 1)) = #[.slice (some ⟨gl, 0, none⟩) (n + 1) (n + 1), .int .i64 (i :: o).length] := by simp
    have e2 : ((((((grid 3 (n + 1) (lkF L)).setIfInBounds (i * 3) (.int .i64 n)).setIfInBounds (i * 3 + 1) (.int .i64 (L n).behind)).setIfInBounds (i * 3 + 2) (.bool true)).setIfInBounds (n * 3 + 1) (.int .i64 i)).setIfInBounds ((L n).behind * 3) (.int .i64 i)) = grid 3 (n + 1) (lkF (putL L i n)) := by
      rw [lk_all (L := L) (m := n + 1) (j := i) (by omega) ⟨n, (L n).behind, true⟩, lk_behind (by omega), lk_ahead (by omega)]
      rfl
    exact ⟨putL L i n, (congrArg (Blk _ gc 243) e).mp C, (congrArg (Blk _ gl 240) e2).mp B, hr.put hi ho, h1, hn, put_bound (by omega) hb⟩
  · exact ((((((Keeps.refl _ w).setCell (fun _ => .inr rfl) _).setCell (fun _ => .inr rfl) _).setCell (fun _ => .inr rfl) _).setCell (fun _ => .inr rfl) _).setCell (fun _ => .inr rfl) _).setCell (fun _ => .inl rfl) _

/-- The front: one that wasn't in. -/
theorem chain_front_new {w : World} {gc gl n : Nat} {o : List Nat} (i : Nat) (hi : i < n) (ho : i ∉ o) (h : IsChain w gc gl n o) :
    Calls Tryz.prog 130 #[.pointer (some ⟨gc, 0, none⟩), .int .i64 i] w fun e w' => e = .returned (.int .i64 0) ∧ IsChain w' gc gl n (i :: o) ∧ Keeps (fun k => k = gc ∨ k = gl) w w' := by
  go_enter Tryz.func130, Tryz.ntmps130
  go_wp2_with fail
  refine (chain_there h i hi).mono ?_
  rintro e w' ⟨rfl, rfl⟩
  go_wp2_with fail
  refine (chain_out_no h i hi ho).mono ?_
  rintro e w1 ⟨rfl, h1, hb1⟩
  go_wp2_with fail
  refine (chain_root h1).mono ?_
  rintro e w2 ⟨rfl, rfl⟩
  go_wp2_with fail
  refine (chain_put i hi ho h1).mono ?_
  rintro e w2 ⟨rfl, h2, hb2⟩
  go_wp2_with fail
  go_ret
  exact ⟨rfl, h2, (Keeps.of_below hb1).trans hb2 (fun _ _ h => h) (fun _ _ h => h)⟩

theorem chain_cut_in {w : World} {gc gl n : Nat} {p s : List Nat} (i : Nat) (h : IsChain w gc gl n (p ++ i :: s)) :
    Calls Tryz.prog 126 #[.pointer (some ⟨gc, 0, none⟩), .int .i64 i] w fun e w' => e = .returned (.int .i64 0) ∧ IsChain w' gc gl n (p ++ s) ∧ Keeps (fun k => k = gc ∨ k = gl) w w' := by
  have h0 := h
  obtain ⟨L, hc, hl, hr, h1, hn, hb⟩ := h
  have hi : i < n := hr.lt i (by simp)
  have c0 : w.cell? ⟨gc, 0, none⟩ = some (.slice (some ⟨gl, 0, none⟩) (n + 1) (n + 1)) := hc.cell 0
  have l2 : w.cell? ⟨gl, i * 3 + 2, none⟩ = some (.bool true) := ((hl.cell _).trans (grid_at (r := 2) (lkF L) (by omega) (by omega))).trans (by simp [lkF, hr.inn i hi])
  go_enter Tryz.func126, Tryz.ntmps126
  go_wp2_with fail
  refine (chain_there h0 i hi).mono ?_
  rintro e w' ⟨rfl, rfl⟩
  go_wp2_with fail
  refine (chain_out_yes i h0).mono ?_
  rintro e w1 ⟨rfl, h1, hb1⟩
  go_wp2_with fail
  go_ret
  exact ⟨rfl, h1, hb1⟩

theorem chain_cut_no {w : World} {gc gl n : Nat} {o : List Nat} (i : Nat) (hi : i < n) (ho : i ∉ o) (h : IsChain w gc gl n o) :
    Calls Tryz.prog 126 #[.pointer (some ⟨gc, 0, none⟩), .int .i64 i] w fun e w' => e = .returned (.int .i64 9) ∧ w = w' := by
  have h0 := h
  obtain ⟨L, hc, hl, hr, h1, hn, hb⟩ := h
  have c0 : w.cell? ⟨gc, 0, none⟩ = some (.slice (some ⟨gl, 0, none⟩) (n + 1) (n + 1)) := hc.cell 0
  have l2 : w.cell? ⟨gl, i * 3 + 2, none⟩ = some (.bool false) := ((hl.cell _).trans (grid_at (r := 2) (lkF L) (by omega) (by omega))).trans (by simp [lkF, hr.inn i hi, ho])
  go_enter Tryz.func126, Tryz.ntmps126
  go_wp2_with fail
  refine (chain_there h0 i hi).mono ?_
  rintro e w' ⟨rfl, rfl⟩
  go_wp2_with fail
  go_ret
  exact ⟨rfl, rfl⟩

end Go.Proofs.Sg
