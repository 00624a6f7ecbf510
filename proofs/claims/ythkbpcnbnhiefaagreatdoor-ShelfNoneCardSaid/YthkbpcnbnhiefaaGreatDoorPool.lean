/- The pool of blocks: each of its methods. -/
import Derived.Test.YthkbpcnbnhiefaaGreatDoorProg
import Derived.Test.YthkbpcnbnhiefaaGreatDoorMem
import Derived.Test.YthkbpcnbnhiefaaGreatDoorBits
import Derived.Test.YthkbpcnbnhiefaaGreatDoorTz
import Derived.Test.YthkbpcnbnhiefaaGreatDoorFree
import Derived.Test.YthkbpcnbnhiefaaGreatDoorClone
import Derived.WalkKit
import Derived.Deep.QuietTactic
import Derived.BigQuiet
import Derived.Handy
namespace Go.Proofs.Sg
open Go.RowKit

def IsPool (w : World) (gp gr gw n : Nat) (H : Nat → Bool) : Prop :=
  Blk w gp 180 #[.pointer (some ⟨gr, 0, none⟩)] ∧ IsRow w gr gw n H ∧ Tab w

theorem IsPool.keep {w w' : World} {S : Nat → Prop} {gp gr gw n : Nat} {H : Nat → Bool} (h : IsPool w gp gr gw n H) (hk : Keeps S w w') (h1 : ¬ S gp) (h2 : ¬ S gr) (h3 : ¬ S gw) (h4 : ¬ S 0) : IsPool w' gp gr gw n H :=
  ⟨h.1.keep hk h1, h.2.1.keep hk h2 h3, h.2.2.keeps hk h4⟩
theorem IsPool.drewN {w : World} {gp gr gw n : Nat} {H : Nat → Bool} (h : IsPool w gp gr gw n H) (q : Nat) : IsPool (w.drewN q) gp gr gw n H := h

theorem row_has_out {w : World} {gr gw n : Nat} {H : Nat → Bool} (h : IsRow w gr gw n H) (i : Nat) (hi : n ≤ i) :
    Calls Tryz.prog 124 #[.pointer (some ⟨gr, 0, none⟩), .int .i64 i] w fun e w' => e = .returned (.bool false) ∧ w = w' := by
  go_enter Tryz.func124, Tryz.ntmps124
  go_wp2_with (go_at_call 177; refine (row_not_there h i hi).mono ?_; rintro e w' ⟨rfl, rfl⟩)
  go_ret
  exact ⟨rfl, rfl⟩

theorem pool_none {w : World} {gp gr gw n : Nat} {H : Nat → Bool} (h : IsPool w gp gr gw n H) :
    Calls Tryz.prog 123 #[.pointer (some ⟨gp, 0, none⟩)] w fun e w' => e = .returned (.bool false) ∧ w = w' := by
  have c0 : w.cell? ⟨gp, 0, none⟩ = some (.pointer (some ⟨gr, 0, none⟩)) := h.1.cell 0
  go_enter Tryz.func123, Tryz.ntmps123
  go_wp2
  go_ret
  exact ⟨rfl, rfl⟩

theorem pool_free {w : World} {gp gr gw n : Nat} {H : Nat → Bool} (h : IsPool w gp gr gw n H) :
    Calls Tryz.prog 101 #[.pointer (some ⟨gp, 0, none⟩)] w fun e w' => e = .returned (.int .i64 ((n : Int) - heldCount n H)) ∧ ∃ q, w' = w.drewN q := by
  have c0 : w.cell? ⟨gp, 0, none⟩ = some (.pointer (some ⟨gr, 0, none⟩)) := h.1.cell 0
  have hcl := heldCount_le n H
  obtain ⟨_, _, _, _, h5, h6⟩ := h.2.1
  go_enter Tryz.func101, Tryz.ntmps101
  go_wp2_with fail
  refine (pool_none h).mono ?_
  rintro e w' ⟨rfl, rfl⟩
  go_wp2_with fail
  go_quiet (first | (go_at_call 160; exact Calls.quiet_of_same (row_len' h.2.1)) | (go_at_call 161; exact Calls.quiet_of_same (row_count' h.2.1)))
  go_wp2
  go_ret
  exact ⟨rfl, nq, rfl⟩

theorem pool_has {w : World} {gp gr gw n : Nat} {H : Nat → Bool} (h : IsPool w gp gr gw n H) (i : Nat) (hi : i < n) :
    Calls Tryz.prog 64 #[.pointer (some ⟨gp, 0, none⟩), .int .u32 i] w fun e w' => e = .returned (.bool (H i)) ∧ w = w' := by
  have c0 : w.cell? ⟨gp, 0, none⟩ = some (.pointer (some ⟨gr, 0, none⟩)) := h.1.cell 0
  have hn := h.2.1
  obtain ⟨_, _, _, _, _, hn2⟩ := hn
  go_enter Tryz.func64, Tryz.ntmps64
  go_wp2_with fail
  refine (pool_none h).mono ?_
  rintro e w' ⟨rfl, rfl⟩
  go_wp2_with fail
  refine (row_has h.2.1 i hi).mono ?_
  rintro e w' ⟨rfl, rfl⟩
  go_wp2_with fail
  go_ret
  exact ⟨rfl, rfl⟩

theorem pool_grab_full {w : World} {gp gr gw n : Nat} {H : Nat → Bool} (h : IsPool w gp gr gw n H) (hf : heldCount n H = n) :
    Calls Tryz.prog 165 #[.pointer (some ⟨gp, 0, none⟩), .int .i64 1] w fun e w' => e = .returned (.tuple #[.slice none 0 0, .int .i64 11]) ∧ ∃ q, w' = w.drewN q := by
  have hp := pool_free h
  rw [hf, Int.sub_self] at hp
  have HP := Hd.mk hp; clear hp hf
  go_enter Tryz.func165, Tryz.ntmps165
  go_wp2_with fail
  refine (pool_none h).mono ?_
  rintro e w' ⟨rfl, rfl⟩
  go_wp2_with fail
  refine HP.out.mono ?_
  rintro e w' ⟨rfl, q, rfl⟩
  go_wp2_with fail
  go_ret2
  exact ⟨rfl, q, rfl⟩

theorem own_none (W : World) (base : Nat) (e : TypeId) (size : Nat) : W.ownsRow base e size (.slice none 0 0) 0 [] := ⟨by simp, .inl ⟨rfl, rfl⟩⟩
theorem Tryz.infoU32 : (Tryz.prog.info? 30).map (fun i => (i.zero, i.size, i.bytes)) = some (some (.int .u32 0), 1, 4) := by kernel_rfl

/-- The table's block is none that holds cells of another kind than a byte's. -/
theorem tab_ne {w : World} {g : Nat} {t : TypeId} {v : Value} {cs : Array Value} (hT : Tab w) (h : Blk w g t cs) (h0 : cs[0]? = some v) (hv : ∀ x, v ≠ .int .u8 x) : 0 ≠ g := by
  rintro rfl
  have h1 := hT 0 (by omega)
  rw [h.cell 0, h0] at h1
  exact hv _ (by injection h1)
theorem IsRow.tab {w : World} {gr gw n : Nat} {H : Nat → Bool} (h : IsRow w gr gw n H) (hT : Tab w) : 0 ≠ gr ∧ 0 ≠ gw := by
  obtain ⟨W, a, b, _, h1, h2⟩ := h
  refine ⟨tab_ne hT a (v := .int .i64 n) rfl (fun x e => by injection e with e; cases e), tab_ne hT b (v := .int .u64 (W 0)) ?_ (fun x e => by injection e with e; cases e)⟩
  have := grid_at (sz := 1) (m := (n + 63) / 64) (j := 0) (r := 0) (fun j _ => Value.int .u64 (W j)) (by omega) (by omega)
  simpa [wgrid] using this

/-- The lowest free block is taken. -/
theorem pool_grab_one {w : World} {gp gr gw n : Nat} {H : Nat → Bool} (h : IsPool w gp gr gw n H) (hf : heldCount n H < n) :
    Calls Tryz.prog 165 #[.pointer (some ⟨gp, 0, none⟩), .int .i64 1] w fun e w' => ∃ p g c : Nat, e = .returned (.tuple #[.slice (some ⟨g, 0, none⟩) 1 c, .int .i64 0]) ∧ p < n ∧ H p = false ∧ (∀ q, q < p → H q = true) ∧
      w.heap.size ≤ g ∧ w'.cell? ⟨g, 0, none⟩ = some (.int .u32 p) ∧ IsPool w' gp gr gw n (updH H p true) ∧ Keeps (fun k => k = gr ∨ k = gw) w w' := by
  have h0 := h
  have c0 : w.cell? ⟨gp, 0, none⟩ = some (.pointer (some ⟨gr, 0, none⟩)) := h.1.cell 0
  have hpr : gp ≠ gr := by obtain ⟨_, a, _⟩ := h.2.1; exact h.1.ne_ a (by decide)
  have hpw : gp ≠ gw := by obtain ⟨_, _, a, _⟩ := h.2.1; exact h.1.ne_ a (by decide)
  have h5 : 5 ≤ n := by obtain ⟨_, _, _, _, a, _⟩ := h.2.1; exact a
  have h6 : n ≤ 65536 := by obtain ⟨_, _, _, _, _, a⟩ := h.2.1; exact a
  go_enter Tryz.func165, Tryz.ntmps165
  go_wp2_with fail
  refine (pool_none h).mono ?_
  rintro e w' ⟨rfl, rfl⟩
  go_wp2_with fail
  refine (pool_free h).mono ?_
  rintro e w' ⟨rfl, q, rfl⟩
  go_wp2_with fail
  refine wp_loop_rounds 2 ?_
  rw [rounds_succ]
  go_wp2_with fail
  refine (row_free (h.drewN q).2.1 (h.drewN q).2.2 0 (by omega)).mono ?_
  rintro e w' ⟨⟨q2, rfl⟩, ⟨p, rfl, _, hp1, hp2, hp3⟩ | ⟨rfl, hp⟩⟩
  · have hHp : H p = false := by simpa using hp2
    have hH2 : ∀ r, r < p → H r = true := fun r hr => by simpa using hp3 r (Nat.zero_le _) hr
    have A1 := Hd.mk hHp
    have A2 := Hd.mk hH2
    clear hp2 hp3 hH2
    go_wp2_with fail
    refine (row_set_new (h.drewN (q + q2)).2.1 p hp1 A1.out).mono ?_
    clear hHp
    rintro e w1 ⟨rfl, hr1, hk1⟩
    obtain ⟨i0, hi, hz0, hz1, hz2⟩ := info_parts' Tryz.infoU32
    have c0' : w1.cell? ⟨gp, 0, none⟩ = some (.pointer (some ⟨gr, 0, none⟩)) := (h0.1.drewN (q + q2)).keep hk1 (by simp [hpr, hpw]) |>.cell 0
    go_wp2_with (at_builtin; refine wpList_append_own _ rfl _ _ 39 rfl w1.heap.size 30 i0 (.int .u32 0) 1 4 Tryz.underlying39 hi hz0 hz1 hz2 rfl (by decide) _ _ _ rfl (own_none _ _ _ _) ⟨w1.heap.size, 0, none⟩ 1 1 [.int .u32 p] rfl ?qc1 ?qc2 ?qc3 ?qc4 ?qc5 ?qc6 ?_)
    case qc1 => rfl
    case qc2 => exact cell_one_new _ _ _
    case qc3 => simp [Value.oneCell']
    case qc4 => unfold maxLen; omega
    case qc5 => omega
    case qc6 => simp
    intro v' w2 hown hgrow hnil
    go_wp2
    rw [rounds_succ]
    go_wp2
    go_ret2
    obtain ⟨g, c, rfl, hg1, hg2, _, _, hg3⟩ := own_at_ne hown (by simp)
    have hb : Below w1.heap.size w1 w2 := ((Below.refl _ w1).alloc (Nat.le_refl _) _).grown hgrow (by simp) (by intro k hk; simp [Value.ownBlock] at hk)
    have hk2 : Keeps (fun k => k = gr ∨ k = gw) w w2 := ((Keeps.refl _ w).drewN (q + q2)).trans (hk1.trans (T := fun _ => False) (Keeps.of_below hb) (fun _ _ h => h) (fun _ _ h => h.elim)) (fun _ _ h => h) (fun _ _ h => h)
    refine ⟨p, g, c, rfl, hp1, A1.out, A2.out, Nat.le_trans (by have := hk1.size; simpa using this) hg1, ?_, ⟨?_, ?_, ?_⟩, hk2⟩
    · exact (hg3 0 (by simp)).trans rfl
    · exact h0.1.keep hk2 (by simp [hpr, hpw])
    · exact hr1.keep (S := fun _ => False) (Keeps.of_below hb) (by simp) (by simp)
    · exact h0.2.2.keeps hk2 (by
        rintro (e | e)
        · exact (h0.2.1.tab h0.2.2).1 e
        · exact (h0.2.1.tab h0.2.2).2 e)
  · exact absurd hp (by
      intro hp
      have : heldCount n H = n := by
        unfold heldCount
        rw [List.filter_eq_self.2]
        · simp
        · intro x hx; simpa using hp x (Nat.zero_le _) (by simpa using hx)
      omega)


theorem pool_take_full {w : World} {gp gr gw n : Nat} {H : Nat → Bool} (h : IsPool w gp gr gw n H) (hf : heldCount n H = n) :
    Calls Tryz.prog 109 #[.pointer (some ⟨gp, 0, none⟩)] w fun e w' => e = .returned (.tuple #[.int .u32 0, .int .i64 11]) ∧ ∃ q, w' = w.drewN q := by
  go_enter Tryz.func109, Tryz.ntmps109
  go_wp2_with fail
  refine (pool_grab_full h hf).mono ?_
  rintro e w' ⟨rfl, q, rfl⟩
  go_wp2_with fail
  go_ret2
  exact ⟨rfl, q, rfl⟩

theorem pool_take_one {w : World} {gp gr gw n : Nat} {H : Nat → Bool} (h : IsPool w gp gr gw n H) (hf : heldCount n H < n) :
    Calls Tryz.prog 109 #[.pointer (some ⟨gp, 0, none⟩)] w fun e w' => ∃ p : Nat, e = .returned (.tuple #[.int .u32 p, .int .i64 0]) ∧ p < n ∧ H p = false ∧ (∀ q, q < p → H q = true) ∧
      IsPool w' gp gr gw n (updH H p true) ∧ Keeps (fun k => k = gr ∨ k = gw) w w' := by
  go_enter Tryz.func109, Tryz.ntmps109
  go_wp2_with fail
  refine (pool_grab_one h hf).mono ?_
  rintro e w1 ⟨p, g, c, rfl, hp1, hp2, hp3, hg, hc, hP, hk⟩
  have A1 := Hd.mk hp2
  have A2 := Hd.mk hp3
  clear hp2 hp3
  go_wp2_with fail
  go_ret2
  exact ⟨p, rfl, hp1, A1.out, A2.out, hP, hk⟩

theorem pool_mark_new {w : World} {gp gr gw n : Nat} {H : Nat → Bool} (h : IsPool w gp gr gw n H) (i : Nat) (hi : i < n) (hH : H i = false) :
    Calls Tryz.prog 112 #[.pointer (some ⟨gp, 0, none⟩), .int .u32 i] w fun e w' => e = .returned (.int .i64 0) ∧ IsPool w' gp gr gw n (updH H i true) ∧ Keeps (fun k => k = gr ∨ k = gw) w w' := by
  have c0 : w.cell? ⟨gp, 0, none⟩ = some (.pointer (some ⟨gr, 0, none⟩)) := h.1.cell 0
  have hpr : gp ≠ gr := by obtain ⟨_, a, _⟩ := h.2.1; exact h.1.ne_ a (by decide)
  have hpw : gp ≠ gw := by obtain ⟨_, _, a, _⟩ := h.2.1; exact h.1.ne_ a (by decide)
  have h6 : n ≤ 65536 := by obtain ⟨_, _, _, _, _, a⟩ := h.2.1; exact a
  have A1 := Hd.mk hH
  clear hH
  go_enter Tryz.func112, Tryz.ntmps112
  go_wp2_with fail
  refine (pool_none h).mono ?_
  rintro e w' ⟨rfl, rfl⟩
  go_wp2_with fail
  refine (row_set_new h.2.1 i hi A1.out).mono ?_
  rintro e w1 ⟨rfl, hr1, hk1⟩
  go_wp2_with fail
  go_ret
  refine ⟨rfl, ⟨h.1.keep hk1 (by simp [hpr, hpw]), hr1, h.2.2.keeps hk1 ?_⟩, hk1⟩
  rintro (e | e)
  · exact (h.2.1.tab h.2.2).1 e
  · exact (h.2.1.tab h.2.2).2 e

theorem pool_mark_twice {w : World} {gp gr gw n : Nat} {H : Nat → Bool} (h : IsPool w gp gr gw n H) (i : Nat) (hi : i < n) (hH : H i = true) :
    Calls Tryz.prog 112 #[.pointer (some ⟨gp, 0, none⟩), .int .u32 i] w fun e w' => e = .returned (.int .i64 10) ∧ w = w' := by
  have c0 : w.cell? ⟨gp, 0, none⟩ = some (.pointer (some ⟨gr, 0, none⟩)) := h.1.cell 0
  have h6 : n ≤ 65536 := by obtain ⟨_, _, _, _, _, a⟩ := h.2.1; exact a
  have A1 := Hd.mk hH
  clear hH
  go_enter Tryz.func112, Tryz.ntmps112
  go_wp2_with fail
  refine (pool_none h).mono ?_
  rintro e w' ⟨rfl, rfl⟩
  go_wp2_with fail
  refine (row_set_twice h.2.1 i hi A1.out).mono ?_
  rintro e w1 ⟨rfl, rfl⟩
  go_wp2_with fail
  go_ret
  exact ⟨rfl, rfl⟩

theorem pool_give_in {w : World} {gp gr gw n : Nat} {H : Nat → Bool} (h : IsPool w gp gr gw n H) (i : Nat) (h0 : 0 < i) (hi : i < n) (hH : H i = true) :
    Calls Tryz.prog 110 #[.pointer (some ⟨gp, 0, none⟩), .int .u32 i] w fun e w' => e = .returned (.int .i64 0) ∧ IsPool w' gp gr gw n (updH H i false) ∧ Keeps (fun k => k = gr ∨ k = gw) w w' := by
  have c0 : w.cell? ⟨gp, 0, none⟩ = some (.pointer (some ⟨gr, 0, none⟩)) := h.1.cell 0
  have hpr : gp ≠ gr := by obtain ⟨_, a, _⟩ := h.2.1; exact h.1.ne_ a (by decide)
  have hpw : gp ≠ gw := by obtain ⟨_, _, a, _⟩ := h.2.1; exact h.1.ne_ a (by decide)
  have h6 : n ≤ 65536 := by obtain ⟨_, _, _, _, _, a⟩ := h.2.1; exact a
  have hz : ((i : Int) == 0) = false := by simp; omega
  have A1 := Hd.mk hH
  clear hH
  go_enter Tryz.func110, Tryz.ntmps110
  go_wp2_with fail
  refine (pool_none h).mono ?_
  rintro e w' ⟨rfl, rfl⟩
  go_wp2_with fail
  refine (row_clear_in h.2.1 i hi A1.out).mono ?_
  rintro e w1 ⟨rfl, hr1, hk1⟩
  go_wp2_with fail
  go_ret
  refine ⟨rfl, ⟨h.1.keep hk1 (by simp [hpr, hpw]), hr1, h.2.2.keeps hk1 ?_⟩, hk1⟩
  rintro (e | e)
  · exact (h.2.1.tab h.2.2).1 e
  · exact (h.2.1.tab h.2.2).2 e

theorem pool_give_none {w : World} {gp gr gw n : Nat} {H : Nat → Bool} (h : IsPool w gp gr gw n H) (i : Nat) (h0 : 0 < i) (hi : i < n) (hH : H i = false) :
    Calls Tryz.prog 110 #[.pointer (some ⟨gp, 0, none⟩), .int .u32 i] w fun e w' => e = .returned (.int .i64 9) ∧ w = w' := by
  have c0 : w.cell? ⟨gp, 0, none⟩ = some (.pointer (some ⟨gr, 0, none⟩)) := h.1.cell 0
  have h6 : n ≤ 65536 := by obtain ⟨_, _, _, _, _, a⟩ := h.2.1; exact a
  have hz : ((i : Int) == 0) = false := by simp; omega
  have A1 := Hd.mk hH
  clear hH
  go_enter Tryz.func110, Tryz.ntmps110
  go_wp2_with fail
  refine (pool_none h).mono ?_
  rintro e w' ⟨rfl, rfl⟩
  go_wp2_with fail
  refine (row_clear_none h.2.1 i hi A1.out).mono ?_
  rintro e w1 ⟨rfl, rfl⟩
  go_wp2_with fail
  go_ret
  exact ⟨rfl, rfl⟩

end Go.Proofs.Sg
