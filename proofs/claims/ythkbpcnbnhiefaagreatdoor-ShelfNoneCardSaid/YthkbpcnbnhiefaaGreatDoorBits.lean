/- The row of places: each of its methods. -/
import Derived.Test.YthkbpcnbnhiefaaGreatDoorProg
import Derived.Test.YthkbpcnbnhiefaaGreatDoorMem
import Derived.Test.YthkbpcnbnhiefaaGreatDoorRing
import Derived.WalkKit
import Derived.Deep.QuietTactic
import Derived.BigQuiet
import Derived.Handy
namespace Go.Proofs.Sg
open Go.RowKit

/-- The words' digits are who is held. -/
structure Digits (n : Nat) (H : Nat → Bool) (W : Nat → Nat) : Prop where
  bit : ∀ j b, b < 64 → (W j).testBit b = (decide (j * 64 + b < n) && H (j * 64 + b))
  lt : ∀ j, W j < 18446744073709551616

def heldCount (n : Nat) (H : Nat → Bool) : Nat := ((List.range n).filter H).length
def wgrid (nw : Nat) (W : Nat → Nat) : Array Value := grid 1 nw fun j _ => .int .u64 (W j)

def IsRow (w : World) (gr gw n : Nat) (H : Nat → Bool) : Prop :=
  ∃ W, Blk w gr 238 #[.int .i64 n, .int .i64 (heldCount n H), .slice (some ⟨gw, 0, none⟩) ((n + 63) / 64) ((n + 63) / 64)] ∧ Blk w gw 101 (wgrid ((n + 63) / 64) W) ∧ Digits n H W ∧ 5 ≤ n ∧ n ≤ 65536

theorem row_len {w : World} {gr gw n : Nat} {H : Nat → Bool} (h : IsRow w gr gw n H) :
    Calls Tryz.prog 160 #[.pointer (some ⟨gr, 0, none⟩)] w fun e w' => e = .returned (.int .i64 n) ∧ w = w' := by
  obtain ⟨W, hr, hw, hd, h1, h2⟩ := h
  have c0 : w.cell? ⟨gr, 0, none⟩ = some (.int .i64 n) := hr.cell 0
  go_enter Tryz.func160, Tryz.ntmps160
  go_wp2
  go_ret
  exact ⟨rfl, rfl⟩

theorem row_count {w : World} {gr gw n : Nat} {H : Nat → Bool} (h : IsRow w gr gw n H) :
    Calls Tryz.prog 161 #[.pointer (some ⟨gr, 0, none⟩)] w fun e w' => e = .returned (.int .i64 (heldCount n H)) ∧ w = w' := by
  obtain ⟨W, hr, hw, hd, h1, h2⟩ := h
  have c0 : w.cell? ⟨gr, 1, none⟩ = some (.int .i64 (heldCount n H)) := hr.cell 1
  go_enter Tryz.func161, Tryz.ntmps161
  go_wp2
  go_ret
  exact ⟨rfl, rfl⟩

theorem row_len' {w : World} {gr gw n : Nat} {H : Nat → Bool} (h : IsRow w gr gw n H) :
    Calls Tryz.prog 160 #[.pointer (some ⟨gr, 0, none⟩)] w fun e w' => e = .returned (.int .i64 n) ∧ w' = w := (row_len h).mono fun _ _ ⟨h1, h2⟩ => ⟨h1, h2.symm⟩
theorem row_count' {w : World} {gr gw n : Nat} {H : Nat → Bool} (h : IsRow w gr gw n H) :
    Calls Tryz.prog 161 #[.pointer (some ⟨gr, 0, none⟩)] w fun e w' => e = .returned (.int .i64 (heldCount n H)) ∧ w' = w := (row_count h).mono fun _ _ ⟨h1, h2⟩ => ⟨h1, h2.symm⟩

theorem row_there {w : World} {gr gw n : Nat} {H : Nat → Bool} (h : IsRow w gr gw n H) (i : Nat) (hi : i < n) :
    Calls Tryz.prog 177 #[.pointer (some ⟨gr, 0, none⟩), .int .i64 i] w fun e w' => e = .returned (.int .i64 0) ∧ w = w' := by
  have h0 := h
  obtain ⟨W, hr, hw, hd, h1, h2⟩ := h
  have c0 : w.cell? ⟨gr, 0, none⟩ = some (.int .i64 n) := hr.cell 0
  go_enter Tryz.func177, Tryz.ntmps177
  go_wp2_with (go_at_call 160; refine (row_len h0).mono ?_; rintro e w' ⟨rfl, rfl⟩)
  go_ret
  exact ⟨rfl, rfl⟩

theorem row_not_there {w : World} {gr gw n : Nat} {H : Nat → Bool} (h : IsRow w gr gw n H) (i : Nat) (hi : n ≤ i) :
    Calls Tryz.prog 177 #[.pointer (some ⟨gr, 0, none⟩), .int .i64 i] w fun e w' => e = .returned (.int .i64 4) ∧ w = w' := by
  have h0 := h
  obtain ⟨W, hr, hw, hd, h1, h2⟩ := h
  have c0 : w.cell? ⟨gr, 0, none⟩ = some (.int .i64 n) := hr.cell 0
  go_enter Tryz.func177, Tryz.ntmps177
  go_wp2_with (go_at_call 160; refine (row_len h0).mono ?_; rintro e w' ⟨rfl, rfl⟩)
  go_ret
  exact ⟨rfl, rfl⟩

theorem has_bit (x k : Nat) (hx : x < 18446744073709551616) : (bits BinOp.and IntKind.u64 ((x : Int) / 2 ^ k) 1 == 1) = x.testBit k := by
  have e1 : ((x : Int) / 2 ^ k) = ((x / 2 ^ k : Nat) : Int) := by
    rw [Int.natCast_ediv]; simp
  have hle : x / 2 ^ k ≤ x := Nat.div_le_self _ _
  have h2 := u64_and_nat (x / 2 ^ k) 1 (by omega) (by omega)
  rw [e1]
  rw [show ((1 : Nat) : Int) = 1 from rfl] at h2
  rw [h2, nat_mask1, Nat.testBit_eq_decide_div_mod_eq, Bool.eq_iff_iff]
  simp
  omega

theorem row_has {w : World} {gr gw n : Nat} {H : Nat → Bool} (h : IsRow w gr gw n H) (i : Nat) (hi : i < n) :
    Calls Tryz.prog 124 #[.pointer (some ⟨gr, 0, none⟩), .int .i64 i] w fun e w' => e = .returned (.bool (H i)) ∧ w = w' := by
  have h0 := h
  obtain ⟨W, hr, hw, hd, h1, h2⟩ := h
  have c2 : w.cell? ⟨gr, 2, none⟩ = some (.slice (some ⟨gw, 0, none⟩) ((n + 63) / 64) ((n + 63) / 64)) := hr.cell 2
  have l0 : w.cell? ⟨gw, i / 64, none⟩ = some (.int .u64 (W (i / 64))) := by
    have := (hw.cell (i / 64 * 1 + 0)).trans (grid_at (sz := 1) (m := (n + 63) / 64) (r := 0) (fun j _ => .int .u64 (W j)) (by omega) (by omega))
    simpa using this
  have hb : (W (i / 64)).testBit (i % 64) = H i := by
    rw [hd.bit _ _ (by omega), show i / 64 * 64 + i % 64 = i by omega]
    simp [hi]
  have hlt := hd.lt (i / 64)
  have HB := Hd.mk hb; clear hb
  have HL := Hd.mk hlt; clear hlt
  go_enter Tryz.func124, Tryz.ntmps124
  go_wp2_with (go_at_call 177; refine (row_there h0 i hi).mono ?_; rintro e w' ⟨rfl, rfl⟩)
  go_ret
  refine ⟨?_, rfl⟩
  show Ending.returned (.bool (bits BinOp.and IntKind.u64 (↑(W (i / 64)) / 2 ^ (i % 64)) 1 == 1)) = _
  rw [has_bit _ _ HL.out, HB.out]

/-- H with one place turned. -/
def updH (H : Nat → Bool) (i : Nat) (b : Bool) : Nat → Bool := fun j => if j = i then b else H j
theorem heldCount_set {n i : Nat} {H : Nat → Bool} (hi : i < n) (h : H i = false) : heldCount n (updH H i true) = heldCount n H + 1 := by
  unfold heldCount
  have key : ∀ l : List Nat, l.Nodup → (l.filter (updH H i true)).length = (l.filter H).length + if i ∈ l then 1 else 0 := by
    intro l
    induction l with
    | nil => simp
    | cons a t ih =>
      intro hn
      obtain ⟨h1, h2⟩ := List.nodup_cons.1 hn
      have := ih h2
      by_cases e : a = i
      · subst e
        simp [updH, h, h1] at this ⊢
        omega
      · have e' : ¬ i = a := fun h => e h.symm
        by_cases hH : H a = true
        · simp [updH, e, e', hH] at this ⊢; omega
        · simp [updH, e, e', hH] at this ⊢; omega
  rw [key _ List.nodup_range]; simp [hi]
theorem heldCount_clear {n i : Nat} {H : Nat → Bool} (hi : i < n) (h : H i = true) : heldCount n (updH H i false) + 1 = heldCount n H := by
  have h2 : updH (updH H i false) i true = H := by
    funext j; unfold updH; by_cases e : j = i
    · subst e; simp [h]
    · simp [e]
  have := heldCount_set (n := n) (i := i) (H := updH H i false) hi (by simp [updH])
  rw [h2] at this; omega
theorem heldCount_le (n : Nat) (H : Nat → Bool) : heldCount n H ≤ n := by
  unfold heldCount
  exact Nat.le_trans (List.length_filter_le _ _) (by simp)

theorem wgrid_set {nw j : Nat} (W : Nat → Nat) (hj : j < nw) (x : Nat) : (wgrid nw W).setIfInBounds j (.int .u64 x) = wgrid nw (upd W j x) := by
  have := grid_set (sz := 1) (m := nw) (r := 0) (fun j _ => Value.int .u64 (W j)) hj (by omega) (.int .u64 x)
  rw [show j * 1 + 0 = j by omega] at this
  unfold wgrid
  rw [this]
  apply grid_congr
  intro a b _ hb
  obtain rfl : b = 0 := by omega
  by_cases e : a = j <;> simp [upd, e]

theorem wrap_pow (k : Nat) (hk : k < 64) : IntKind.u64.wrap (2 ^ k : Int) = ((2 ^ k : Nat) : Int) := by
  have h1 : 2 ^ k < 2 ^ 64 := Nat.pow_lt_pow_right (by omega) hk
  have h2 : ((2 : Int) ^ k) = ((2 ^ k : Nat) : Int) := by simp
  rw [h2, IntKind.wrap_u64]
  generalize (2 : Nat) ^ k = p at h1 ⊢
  omega
theorem pow_lt64 (k : Nat) (hk : k < 64) : 2 ^ k < 18446744073709551616 := by
  have h1 : 2 ^ k < 2 ^ 64 := Nat.pow_lt_pow_right (by omega) hk
  omega
theorem or_word (x k : Nat) (hx : x < 18446744073709551616) (hk : k < 64) : bits BinOp.or IntKind.u64 (x : Int) (IntKind.u64.wrap (2 ^ k)) = ((x ||| 2 ^ k : Nat) : Int) := by
  rw [wrap_pow k hk]; exact u64_or_nat x (2 ^ k) hx (pow_lt64 k hk)
theorem Digits.set {n i : Nat} {H : Nat → Bool} {W : Nat → Nat} (h : Digits n H W) (hi : i < n) : Digits n (updH H i true) (upd W (i / 64) (W (i / 64) ||| 2 ^ (i % 64))) := by
  refine ⟨fun j b hb => ?_, fun j => ?_⟩
  · by_cases e : j = i / 64
    · subst e
      rw [upd_same, Nat.testBit_or, h.bit _ _ hb, Nat.testBit_two_pow]
      by_cases e2 : i % 64 = b
      · subst e2
        have e3 : i / 64 * 64 + i % 64 = i := by omega
        simp [e3, updH, hi]
      · have e3 : i / 64 * 64 + b ≠ i := by omega
        simp [e2, e3, updH]
    · have e3 : j * 64 + b ≠ i := by omega
      rw [upd_other _ _ e, h.bit _ _ hb]
      simp [updH, e3]
  · unfold upd; split
    · have := Nat.or_lt_two_pow (n := 64) (x := W (i / 64)) (y := 2 ^ (i % 64)) (by have := h.lt (i / 64); omega) (by have := pow_lt64 (i % 64) (by omega); omega)
      omega
    · exact h.lt j

theorem row_set_new {w : World} {gr gw n : Nat} {H : Nat → Bool} (h : IsRow w gr gw n H) (i : Nat) (hi : i < n) (hH : H i = false) :
    Calls Tryz.prog 164 #[.pointer (some ⟨gr, 0, none⟩), .int .i64 i] w fun e w' => e = .returned (.int .i64 0) ∧ IsRow w' gr gw n (updH H i true) ∧ Keeps (fun k => k = gr ∨ k = gw) w w' := by
  have h0 := h
  obtain ⟨W, hr, hw, hd, h1, h2⟩ := h
  have hne : gr ≠ gw := hr.ne_ hw (by decide)
  have hgr := hr.lt
  have hgw := hw.lt
  have hcl := heldCount_le n H
  have c1 : w.cell? ⟨gr, 1, none⟩ = some (.int .i64 (heldCount n H)) := hr.cell 1
  have c2 : w.cell? ⟨gr, 2, none⟩ = some (.slice (some ⟨gw, 0, none⟩) ((n + 63) / 64) ((n + 63) / 64)) := hr.cell 2
  have f1 := hr.frozen 1
  have fw := hw.frozen (i / 64)
  have l0 : w.cell? ⟨gw, i / 64, none⟩ = some (.int .u64 (W (i / 64))) := by
    have := (hw.cell (i / 64 * 1 + 0)).trans (grid_at (sz := 1) (m := (n + 63) / 64) (r := 0) (fun j _ => .int .u64 (W j)) (by omega) (by omega))
    simpa using this
  have hc := row_has h0 i hi
  rw [hH] at hc
  have HC := Hd.mk hc; clear hc
  have HH := Hd.mk hH; clear hH
  go_enter Tryz.func164, Tryz.ntmps164
  go_wp2_with fail
  refine (row_there h0 i hi).mono ?_
  rintro e w' ⟨rfl, rfl⟩
  go_wp2_with fail
  refine HC.out.mono ?_
  rintro e w' ⟨rfl, rfl⟩
  go_wp2_with fail
  go_region
  go_wp2
  refine bodyPost_ret (v := .int .i64 0) (by simp [results, Tryz.results164, go_sem]) rfl ⟨rfl, ?_, ?_⟩
  · rw [or_word _ _ (hd.lt _) (by omega)]
    have B := (hw.set_ (i / 64) (.int .u64 ((W (i / 64) ||| 2 ^ (i % 64) : Nat) : Int))).far (p := ⟨gr, 1, none⟩) hne.symm (.int .i64 ((heldCount n H : Int) + 1))
    rw [wgrid_set W (by omega)] at B
    have R := (hr.far (p := ⟨gw, i / 64, none⟩) hne (.int .u64 ((W (i / 64) ||| 2 ^ (i % 64) : Nat) : Int))).set_ 1 (.int .i64 ((heldCount n H : Int) + 1))
    refine ⟨upd W (i / 64) (W (i / 64) ||| 2 ^ (i % 64)), ?_, B.drew, hd.set hi, h1, h2⟩
    rw [heldCount_set hi HH.out]
    exact R.drew
  · exact (((Keeps.refl _ w).setCell (fun _ => .inr rfl) _).setCell (fun _ => .inl rfl) _).drew


theorem row_set_twice {w : World} {gr gw n : Nat} {H : Nat → Bool} (h : IsRow w gr gw n H) (i : Nat) (hi : i < n) (hH : H i = true) :
    Calls Tryz.prog 164 #[.pointer (some ⟨gr, 0, none⟩), .int .i64 i] w fun e w' => e = .returned (.int .i64 10) ∧ w = w' := by
  have hc := row_has h i hi
  rw [hH] at hc
  have HC := Hd.mk hc; clear hc hH
  go_enter Tryz.func164, Tryz.ntmps164
  go_wp2_with fail
  refine (row_there h i hi).mono ?_
  rintro e w' ⟨rfl, rfl⟩
  go_wp2_with fail
  refine HC.out.mono ?_
  rintro e w' ⟨rfl, rfl⟩
  go_wp2_with fail
  go_ret
  exact ⟨rfl, rfl⟩

theorem row_set_out {w : World} {gr gw n : Nat} {H : Nat → Bool} (h : IsRow w gr gw n H) (i : Nat) (hi : n ≤ i) :
    Calls Tryz.prog 164 #[.pointer (some ⟨gr, 0, none⟩), .int .i64 i] w fun e w' => e = .returned (.int .i64 4) ∧ w = w' := by
  go_enter Tryz.func164, Tryz.ntmps164
  go_wp2_with fail
  refine (row_not_there h i hi).mono ?_
  rintro e w' ⟨rfl, rfl⟩
  go_wp2_with fail
  go_ret
  exact ⟨rfl, rfl⟩

theorem row_clear_none {w : World} {gr gw n : Nat} {H : Nat → Bool} (h : IsRow w gr gw n H) (i : Nat) (hi : i < n) (hH : H i = false) :
    Calls Tryz.prog 166 #[.pointer (some ⟨gr, 0, none⟩), .int .i64 i] w fun e w' => e = .returned (.int .i64 9) ∧ w = w' := by
  have hc := row_has h i hi
  rw [hH] at hc
  have HC := Hd.mk hc; clear hc hH
  go_enter Tryz.func166, Tryz.ntmps166
  go_wp2_with fail
  refine (row_there h i hi).mono ?_
  rintro e w' ⟨rfl, rfl⟩
  go_wp2_with fail
  refine HC.out.mono ?_
  rintro e w' ⟨rfl, rfl⟩
  go_wp2_with fail
  go_ret
  exact ⟨rfl, rfl⟩

theorem row_clear_out {w : World} {gr gw n : Nat} {H : Nat → Bool} (h : IsRow w gr gw n H) (i : Nat) (hi : n ≤ i) :
    Calls Tryz.prog 166 #[.pointer (some ⟨gr, 0, none⟩), .int .i64 i] w fun e w' => e = .returned (.int .i64 4) ∧ w = w' := by
  go_enter Tryz.func166, Tryz.ntmps166
  go_wp2_with fail
  refine (row_not_there h i hi).mono ?_
  rintro e w' ⟨rfl, rfl⟩
  go_wp2_with fail
  go_ret
  exact ⟨rfl, rfl⟩

theorem andNot_word (x k : Nat) (hx : x < 18446744073709551616) (hk : k < 64) : bits BinOp.andNot IntKind.u64 (x : Int) (IntKind.u64.wrap (2 ^ k)) = ((x &&& (18446744073709551615 - 2 ^ k) : Nat) : Int) := by
  rw [wrap_pow k hk]; exact u64_andNot_nat x (2 ^ k) hx (pow_lt64 k hk)
theorem comp_bit (k b : Nat) (hk : k < 64) (hb : b < 64) : (18446744073709551615 - 2 ^ k).testBit b = !decide (k = b) := by
  have h := Nat.testBit_two_pow_sub_succ (n := 64) (x := 2 ^ k) (by have := pow_lt64 k hk; omega) b
  rw [show 2 ^ 64 - (2 ^ k + 1) = 18446744073709551615 - 2 ^ k by omega] at h
  rw [h, Nat.testBit_two_pow]; simp [hb]
theorem Digits.clear {n i : Nat} {H : Nat → Bool} {W : Nat → Nat} (h : Digits n H W) : Digits n (updH H i false) (upd W (i / 64) (W (i / 64) &&& (18446744073709551615 - 2 ^ (i % 64)))) := by
  refine ⟨fun j b hb => ?_, fun j => ?_⟩
  · by_cases e : j = i / 64
    · subst e
      rw [upd_same, Nat.testBit_and, h.bit _ _ hb, comp_bit _ _ (by omega) hb]
      by_cases e2 : i % 64 = b
      · subst e2
        have e3 : i / 64 * 64 + i % 64 = i := by omega
        simp [e3, updH]
      · have e3 : i / 64 * 64 + b ≠ i := by omega
        simp [e2, e3, updH]
    · have e3 : j * 64 + b ≠ i := by omega
      rw [upd_other _ _ e, h.bit _ _ hb]
      simp [updH, e3]
  · unfold upd; split
    · exact Nat.lt_of_le_of_lt Nat.and_le_left (h.lt _)
    · exact h.lt j

theorem row_clear_in {w : World} {gr gw n : Nat} {H : Nat → Bool} (h : IsRow w gr gw n H) (i : Nat) (hi : i < n) (hH : H i = true) :
    Calls Tryz.prog 166 #[.pointer (some ⟨gr, 0, none⟩), .int .i64 i] w fun e w' => e = .returned (.int .i64 0) ∧ IsRow w' gr gw n (updH H i false) ∧ Keeps (fun k => k = gr ∨ k = gw) w w' := by
  have h0 := h
  obtain ⟨W, hr, hw, hd, h1, h2⟩ := h
  have hne : gr ≠ gw := hr.ne_ hw (by decide)
  have hgr := hr.lt
  have hgw := hw.lt
  have hcl := heldCount_le n H
  have hcc := heldCount_clear hi hH
  obtain ⟨m, hm⟩ : ∃ m, m = heldCount n (updH H i false) := ⟨_, rfl⟩
  rw [← hm] at hcc
  have c1 : w.cell? ⟨gr, 1, none⟩ = some (.int .i64 ((m : Int) + 1)) := (hr.cell 1).trans (by rw [← hcc]; rfl)
  have c2 : w.cell? ⟨gr, 2, none⟩ = some (.slice (some ⟨gw, 0, none⟩) ((n + 63) / 64) ((n + 63) / 64)) := hr.cell 2
  have f1 := hr.frozen 1
  have fw := hw.frozen (i / 64)
  have l0 : w.cell? ⟨gw, i / 64, none⟩ = some (.int .u64 (W (i / 64))) := by
    have := (hw.cell (i / 64 * 1 + 0)).trans (grid_at (sz := 1) (m := (n + 63) / 64) (r := 0) (fun j _ => .int .u64 (W j)) (by omega) (by omega))
    simpa using this
  have hc := row_has h0 i hi
  rw [hH] at hc
  have hml : m ≤ 65536 := by omega
  have HC := Hd.mk hc; clear hc
  have HM := Hd.mk hm; clear hm
  have HX := Hd.mk hcc; clear hcc
  have HH := Hd.mk hH; clear hH
  go_enter Tryz.func166, Tryz.ntmps166
  go_wp2_with fail
  refine (row_there h0 i hi).mono ?_
  rintro e w' ⟨rfl, rfl⟩
  go_wp2_with fail
  refine HC.out.mono ?_
  rintro e w' ⟨rfl, rfl⟩
  go_wp2_with fail
  go_region
  go_wp2
  refine bodyPost_ret (v := .int .i64 0) (by simp [results, Tryz.results166, go_sem]) rfl ⟨rfl, ?_, ?_⟩
  · rw [andNot_word _ _ (hd.lt _) (by omega)]
    have B := (hw.set_ (i / 64) (.int .u64 ((W (i / 64) &&& (18446744073709551615 - 2 ^ (i % 64)) : Nat) : Int))).far (p := ⟨gr, 1, none⟩) hne.symm (.int .i64 (m : Int))
    rw [wgrid_set W (by omega)] at B
    have R := (hr.far (p := ⟨gw, i / 64, none⟩) hne (.int .u64 ((W (i / 64) &&& (18446744073709551615 - 2 ^ (i % 64)) : Nat) : Int))).set_ 1 (.int .i64 (m : Int))
    refine ⟨upd W (i / 64) (W (i / 64) &&& (18446744073709551615 - 2 ^ (i % 64))), ?_, B.drew, hd.clear, h1, h2⟩
    rw [← HM.out]
    exact R.drew
  · exact (((Keeps.refl _ w).setCell (fun _ => .inr rfl) _).setCell (fun _ => .inl rfl) _).drew

theorem IsRow.keep {w w' : World} {S : Nat → Prop} {gr gw n : Nat} {H : Nat → Bool} (h : IsRow w gr gw n H) (hk : Keeps S w w') (h1 : ¬ S gr) (h2 : ¬ S gw) : IsRow w' gr gw n H := by
  obtain ⟨W, a, b, c⟩ := h
  exact ⟨W, a.keep hk h1, b.keep hk h2, c⟩

end Go.Proofs.Sg
