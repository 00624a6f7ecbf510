/- Bits · Tz · Seek0 · Free · Pool, in one. -/
import Derived.Test.YthkbpcnbnhiefaaGreatDoorProg
import Derived.WalkKit
import Derived.Deep.QuietTactic
import Derived.BigQuiet
import Derived.Handy
import Derived.Laws.Bits64b
import Derived.Lib.TrailingZeros
import Derived.Test.YthkbpcnbnhiefaaGreatDoorKBase
/-! The row of places: each of its methods. -/
namespace Go.Proofs.Sg
open Go.RowKit

/-- The words' digits are who is held. -/
structure Digits (n : Nat) (H : Nat → Bool) (W : Nat → Nat) : Prop where
  bit : ∀ j b, b < 64 → (W j).testBit b = (decide (j * 64 + b < n) && H (j * 64 + b))
  lt : ∀ j, W j < 18446744073709551616

def heldCount (n : Nat) (H : Nat → Bool) : Nat := ((List.range n).filter H).length
def wgrid (nw : Nat) (W : Nat → Nat) : Array Value := grid 1 nw fun j _ => .int .u64 (W j)

def IsRow (w : World) (gr gw n : Nat) (H : Nat → Bool) : Prop :=
  ∃ W, Blk w gr 238 #[.int .i64 n, .int .i64 (heldCount n H), .slice (some ⟨gw, 0, none⟩) ((n + 63) / 64) ((n + 63) / 64)] ∧ Blk w gw 101 (wgrid ((n + 63) / 64) W) ∧ Digits n H W ∧ 5 ≤ n ∧ n ≤ 65536

theorem row_len {w : World} {gr gw n : Nat} {H : Nat → Bool} (h : IsRow w gr gw n H) :
    Calls Tryz.prog 160 #[.pointer (some ⟨gr, 0, none⟩)] w fun e w' => e = .returned (.int .i64 n) ∧ w = w' := by
  obtain ⟨W, hr, hw, hd, h1, h2⟩ := h
  have c0 : w.cell? ⟨gr, 0, none⟩ = some (.int .i64 n) := hr.cell 0
  go_enter Tryz.func160, Tryz.ntmps160
  go_wp2
  go_ret
  exact ⟨rfl, rfl⟩

theorem row_count {w : World} {gr gw n : Nat} {H : Nat → Bool} (h : IsRow w gr gw n H) :
    Calls Tryz.prog 161 #[.pointer (some ⟨gr, 0, none⟩)] w fun e w' => e = .returned (.int .i64 (heldCount n H)) ∧ w = w' := by
  obtain ⟨W, hr, hw, hd, h1, h2⟩ := h
  have c0 : w.cell? ⟨gr, 1, none⟩ = some (.int .i64 (heldCount n H)) := hr.cell 1
  go_enter Tryz.func161, Tryz.ntmps161
  go_wp2
  go_ret
  exact ⟨rfl, rfl⟩

theorem row_len' {w : World} {gr gw n : Nat} {H : Nat → Bool} (h : IsRow w gr gw n H) :
    Calls Tryz.prog 160 #[.pointer (some ⟨gr, 0, none⟩)] w fun e w' => e = .returned (.int .i64 n) ∧ w' = w := (row_len h).mono fun _ _ ⟨h1, h2⟩ => ⟨h1, h2.symm⟩
theorem row_count' {w : World} {gr gw n : Nat} {H : Nat → Bool} (h : IsRow w gr gw n H) :
    Calls Tryz.prog 161 #[.pointer (some ⟨gr, 0, none⟩)] w fun e w' => e = .returned (.int .i64 (heldCount n H)) ∧ w' = w := (row_count h).mono fun _ _ ⟨h1, h2⟩ => ⟨h1, h2.symm⟩

theorem row_there {w : World} {gr gw n : Nat} {H : Nat → Bool} (h : IsRow w gr gw n H) (i : Nat) (hi : i < n) :
    Calls Tryz.prog 177 #[.pointer (some ⟨gr, 0, none⟩), .int .i64 i] w fun e w' => e = .returned (.int .i64 0) ∧ w = w' := by
  have h0 := h
  obtain ⟨W, hr, hw, hd, h1, h2⟩ := h
  have c0 : w.cell? ⟨gr, 0, none⟩ = some (.int .i64 n) := hr.cell 0
  go_enter Tryz.func177, Tryz.ntmps177
  go_wp2_with (go_at_call 160; refine (row_len h0).mono ?_; rintro e w' ⟨rfl, rfl⟩)
  go_ret
  exact ⟨rfl, rfl⟩

theorem row_not_there {w : World} {gr gw n : Nat} {H : Nat → Bool} (h : IsRow w gr gw n H) (i : Nat) (hi : n ≤ i) :
    Calls Tryz.prog 177 #[.pointer (some ⟨gr, 0, none⟩), .int .i64 i] w fun e w' => e = .returned (.int .i64 4) ∧ w = w' := by
  have h0 := h
  obtain ⟨W, hr, hw, hd, h1, h2⟩ := h
  have c0 : w.cell? ⟨gr, 0, none⟩ = some (.int .i64 n) := hr.cell 0
  go_enter Tryz.func177, Tryz.ntmps177
  go_wp2_with (go_at_call 160; refine (row_len h0).mono ?_; rintro e w' ⟨rfl, rfl⟩)
  go_ret
  exact ⟨rfl, rfl⟩

theorem has_bit (x k : Nat) (hx : x < 18446744073709551616) : (bits BinOp.and IntKind.u64 ((x : Int) / 2 ^ k) 1 == 1) = x.testBit k := by
  have e1 : ((x : Int) / 2 ^ k) = ((x / 2 ^ k : Nat) : Int) := by
    rw [Int.natCast_ediv]; simp
  have hle : x / 2 ^ k ≤ x := Nat.div_le_self _ _
  have h2 := u64_and_nat (x / 2 ^ k) 1 (by omega) (by omega)
  rw [e1]
  rw [show ((1 : Nat) : Int) = 1 from rfl] at h2
  rw [h2, nat_mask1, Nat.testBit_eq_decide_div_mod_eq, Bool.eq_iff_iff]
  simp
  omega

theorem row_has {w : World} {gr gw n : Nat} {H : Nat → Bool} (h : IsRow w gr gw n H) (i : Nat) (hi : i < n) :
    Calls Tryz.prog 124 #[.pointer (some ⟨gr, 0, none⟩), .int .i64 i] w fun e w' => e = .returned (.bool (H i)) ∧ w = w' := by
  have h0 := h
  obtain ⟨W, hr, hw, hd, h1, h2⟩ := h
  have c2 : w.cell? ⟨gr, 2, none⟩ = some (.slice (some ⟨gw, 0, none⟩) ((n + 63) / 64) ((n + 63) / 64)) := hr.cell 2
  have l0 : w.cell? ⟨gw, i / 64, none⟩ = some (.int .u64 (W (i / 64))) := by
    have := (hw.cell (i / 64 * 1 + 0)).trans (grid_at (sz := 1) (m := (n + 63) / 64) (r := 0) (fun j _ => .int .u64 (W j)) (by omega) (by omega))
    simpa using this
  have hb : (W (i / 64)).testBit (i % 64) = H i := by
    rw [hd.bit _ _ (by omega), show i / 64 * 64 + i % 64 = i by omega]
    simp [hi]
  have hlt := hd.lt (i / 64)
  have HB := Hd.mk hb; clear hb
  have HL := Hd.mk hlt; clear hlt
  go_enter Tryz.func124, Tryz.ntmps124
  go_wp2_with (go_at_call 177; refine (row_there h0 i hi).mono ?_; rintro e w' ⟨rfl, rfl⟩)
  go_ret
  refine ⟨?_, rfl⟩
  show Ending.returned (.bool (bits BinOp.and IntKind.u64 (↑(W (i / 64)) / 2 ^ (i % 64)) 1 == 1)) = _
  rw [has_bit _ _ HL.out, HB.out]

/-- H with one place turned. -/
def updH (H : Nat → Bool) (i : Nat) (b : Bool) : Nat → Bool := fun j => if j = i then b else H j
theorem heldCount_set {n i : Nat} {H : Nat → Bool} (hi : i < n) (h : H i = false) : heldCount n (updH H i true) = heldCount n H + 1 := by
  unfold heldCount
  have key : ∀ l : List Nat, l.Nodup → (l.filter (updH H i true)).length = (l.filter H).length + if i ∈ l then 1 else 0 := by
    intro l
    induction l with
    | nil => simp
    | cons a t ih =>
      intro hn
      obtain ⟨h1, h2⟩ := List.nodup_cons.1 hn
      have := ih h2
      by_cases e : a = i
      · subst e
        simp [updH, h, h1] at this ⊢
        omega
      · have e' : ¬ i = a := fun h => e h.symm
        by_cases hH : H a = true
        · simp [updH, e, e', hH] at this ⊢; omega
        · simp [updH, e, e', hH] at this ⊢; omega
  rw [key _ List.nodup_range]; simp [hi]
theorem heldCount_clear {n i : Nat} {H : Nat → Bool} (hi : i < n) (h : H i = true) : heldCount n (updH H i false) + 1 = heldCount n H := by
  have h2 : updH (updH H i false) i true = H := by
    funext j; unfold updH; by_cases e : j = i
    · subst e; simp [h]
    · simp [e]
  have := heldCount_set (n := n) (i := i) (H := updH H i false) hi (by simp [updH])
  rw [h2] at this; omega
theorem heldCount_le (n : Nat) (H : Nat → Bool) : heldCount n H ≤ n := by
  unfold heldCount
  exact Nat.le_trans (List.length_filter_le _ _) (by simp)

theorem wgrid_set {nw j : Nat} (W : Nat → Nat) (hj : j < nw) (x : Nat) : (wgrid nw W).setIfInBounds j (.int .u64 x) = wgrid nw (upd W j x) := by
  have := grid_set (sz := 1) (m := nw) (r := 0) (fun j _ => Value.int .u64 (W j)) hj (by omega) (.int .u64 x)
  rw [show j * 1 + 0 = j by omega] at this
  unfold wgrid
  rw [this]
  apply grid_congr
  intro a b _ hb
  obtain rfl : b = 0 := by omega
  by_cases e : a = j <;> simp [upd, e]

theorem wrap_pow (k : Nat) (hk : k < 64) : IntKind.u64.wrap (2 ^ k : Int) = ((2 ^ k : Nat) : Int) := by
  have h1 : 2 ^ k < 2 ^ 64 := Nat.pow_lt_pow_right (by omega) hk
  have h2 : ((2 : Int) ^ k) = ((2 ^ k : Nat) : Int) := by simp
  rw [h2, IntKind.wrap_u64]
  generalize (2 : Nat) ^ k = p at h1 ⊢
  omega
theorem pow_lt64 (k : Nat) (hk : k < 64) : 2 ^ k < 18446744073709551616 := by
  have h1 : 2 ^ k < 2 ^ 64 := Nat.pow_lt_pow_right (by omega) hk
  omega
theorem or_word (x k : Nat) (hx : x < 18446744073709551616) (hk : k < 64) : bits BinOp.or IntKind.u64 (x : Int) (IntKind.u64.wrap (2 ^ k)) = ((x ||| 2 ^ k : Nat) : Int) := by
  rw [wrap_pow k hk]; exact u64_or_nat x (2 ^ k) hx (pow_lt64 k hk)
theorem Digits.set {n i : Nat} {H : Nat → Bool} {W : Nat → Nat} (h : Digits n H W) (hi : i < n) : Digits n (updH H i true) (upd W (i / 64) (W (i / 64) ||| 2 ^ (i % 64))) := by
  refine ⟨fun j b hb => ?_, fun j => ?_⟩
  · by_cases e : j = i / 64
    · subst e
      rw [upd_same, Nat.testBit_or, h.bit _ _ hb, Nat.testBit_two_pow]
      by_cases e2 : i % 64 = b
      · subst e2
        have e3 : i / 64 * 64 + i % 64 = i := by omega
        simp [e3, updH, hi]
      · have e3 : i / 64 * 64 + b ≠ i := by omega
        simp [e2, e3, updH]
    · have e3 : j * 64 + b ≠ i := by omega
      rw [upd_other _ _ e, h.bit _ _ hb]
      simp [updH, e3]
  · unfold upd; split
    · have := Nat.or_lt_two_pow (n := 64) (x := W (i / 64)) (y := 2 ^ (i % 64)) (by have := h.lt (i / 64); omega) (by have := pow_lt64 (i % 64) (by omega); omega)
      omega
    · exact h.lt j

theorem row_set_new {w : World} {gr gw n : Nat} {H : Nat → Bool} (h : IsRow w gr gw n H) (i : Nat) (hi : i < n) (hH : H i = false) :
    Calls Tryz.prog 164 #[.pointer (some ⟨gr, 0, none⟩), .int .i64 i] w fun e w' => e = .returned (.int .i64 0) ∧ IsRow w' gr gw n (updH H i true) ∧ Keeps (fun k => k = gr ∨ k = gw) w w' := by
  have h0 := h
  obtain ⟨W, hr, hw, hd, h1, h2⟩ := h
  have hne : gr ≠ gw := hr.ne_ hw (by decide)
  have hgr := hr.lt
  have hgw := hw.lt
  have hcl := heldCount_le n H
  have c1 : w.cell? ⟨gr, 1, none⟩ = some (.int .i64 (heldCount n H)) := hr.cell 1
  have c2 : w.cell? ⟨gr, 2, none⟩ = some (.slice (some ⟨gw, 0, none⟩) ((n + 63) / 64) ((n + 63) / 64)) := hr.cell 2
  have f1 := hr.frozen 1
  have fw := hw.frozen (i / 64)
  have l0 : w.cell? ⟨gw, i / 64, none⟩ = some (.int .u64 (W (i / 64))) := by
    have := (hw.cell (i / 64 * 1 + 0)).trans (grid_at (sz := 1) (m := (n + 63) / 64) (r := 0) (fun j _ => .int .u64 (W j)) (by omega) (by omega))
    simpa using this
  have hc := row_has h0 i hi
  rw [hH] at hc
  have HC := Hd.mk hc; clear hc
  have HH := Hd.mk hH; clear hH
  go_enter Tryz.func164, Tryz.ntmps164
  go_wp2_with fail
  refine (row_there h0 i hi).mono ?_
  rintro e w' ⟨rfl, rfl⟩
  go_wp2_with fail
  refine HC.out.mono ?_
  rintro e w' ⟨rfl, rfl⟩
  go_wp2_with fail
  go_region
  go_wp2
  refine bodyPost_ret (v := .int .i64 0) (by simp [results, Tryz.results164, go_sem]) rfl ⟨rfl, ?_, ?_⟩
  · rw [or_word _ _ (hd.lt _) (by omega)]
    have B := (hw.set_ (i / 64) (.int .u64 ((W (i / 64) ||| 2 ^ (i % 64) : Nat) : Int))).far (p := ⟨gr, 1, none⟩) hne.symm (.int .i64 ((heldCount n H : Int) + 1))
    rw [wgrid_set W (by omega)] at B
    have R := (hr.far (p := ⟨gw, i / 64, none⟩) hne (.int .u64 ((W (i / 64) ||| 2 ^ (i % 64) : Nat) : Int))).set_ 1 (.int .i64 ((heldCount n H : Int) + 1))
    refine ⟨upd W (i / 64) (W (i / 64) ||| 2 ^ (i % 64)), ?_, B.drew, hd.set hi, h1, h2⟩
    rw [heldCount_set hi HH.out]
    exact R.drew
  · exact (((Keeps.refl _ w).setCell (fun _ => .inr rfl) _).setCell (fun _ => .inl rfl) _).drew


theorem row_set_twice {w : World} {gr gw n : Nat} {H : Nat → Bool} (h : IsRow w gr gw n H) (i : Nat) (hi : i < n) (hH : H i = true) :
    Calls Tryz.prog 164 #[.pointer (some ⟨gr, 0, none⟩), .int .i64 i] w fun e w' => e = .returned (.int .i64 10) ∧ w = w' := by
  have hc := row_has h i hi
  rw [hH] at hc
  have HC := Hd.mk hc; clear hc hH
  go_enter Tryz.func164, Tryz.ntmps164
  go_wp2_with fail
  refine (row_there h i hi).mono ?_
  rintro e w' ⟨rfl, rfl⟩
  go_wp2_with fail
  refine HC.out.mono ?_
  rintro e w' ⟨rfl, rfl⟩
  go_wp2_with fail
  go_ret
  exact ⟨rfl, rfl⟩

theorem row_set_out {w : World} {gr gw n : Nat} {H : Nat → Bool} (h : IsRow w gr gw n H) (i : Nat) (hi : n ≤ i) :
    Calls Tryz.prog 164 #[.pointer (some ⟨gr, 0, none⟩), .int .i64 i] w fun e w' => e = .returned (.int .i64 4) ∧ w = w' := by
  go_enter Tryz.func164, Tryz.ntmps164
  go_wp2_with fail
  refine (row_not_there h i hi).mono ?_
  rintro e w' ⟨rfl, rfl⟩
  go_wp2_with fail
  go_ret
  exact ⟨rfl, rfl⟩

theorem row_clear_none {w : World} {gr gw n : Nat} {H : Nat → Bool} (h : IsRow w gr gw n H) (i : Nat) (hi : i < n) (hH : H i = false) :
    Calls Tryz.prog 166 #[.pointer (some ⟨gr, 0, none⟩), .int .i64 i] w fun e w' => e = .returned (.int .i64 9) ∧ w = w' := by
  have hc := row_has h i hi
  rw [hH] at hc
  have HC := Hd.mk hc; clear hc hH
  go_enter Tryz.func166, Tryz.ntmps166
  go_wp2_with fail
  refine (row_there h i hi).mono ?_
  rintro e w' ⟨rfl, rfl⟩
  go_wp2_with fail
  refine HC.out.mono ?_
  rintro e w' ⟨rfl, rfl⟩
  go_wp2_with fail
  go_ret
  exact ⟨rfl, rfl⟩

theorem row_clear_out {w : World} {gr gw n : Nat} {H : Nat → Bool} (h : IsRow w gr gw n H) (i : Nat) (hi : n ≤ i) :
    Calls Tryz.prog 166 #[.pointer (some ⟨gr, 0, none⟩), .int .i64 i] w fun e w' => e = .returned (.int .i64 4) ∧ w = w' := by
  go_enter Tryz.func166, Tryz.ntmps166
  go_wp2_with fail
  refine (row_not_there h i hi).mono ?_
  rintro e w' ⟨rfl, rfl⟩
  go_wp2_with fail
  go_ret
  exact ⟨rfl, rfl⟩

theorem andNot_word (x k : Nat) (hx : x < 18446744073709551616) (hk : k < 64) : bits BinOp.andNot IntKind.u64 (x : Int) (IntKind.u64.wrap (2 ^ k)) = ((x &&& (18446744073709551615 - 2 ^ k) : Nat) : Int) := by
  rw [wrap_pow k hk]; exact u64_andNot_nat x (2 ^ k) hx (pow_lt64 k hk)
theorem comp_bit (k b : Nat) (hk : k < 64) (hb : b < 64) : (18446744073709551615 - 2 ^ k).testBit b = !decide (k = b) := by
  have h := Nat.testBit_two_pow_sub_succ (n := 64) (x := 2 ^ k) (by have := pow_lt64 k hk; omega) b
  rw [show 2 ^ 64 - (2 ^ k + 1) = 18446744073709551615 - 2 ^ k by omega] at h
  rw [h, Nat.testBit_two_pow]; simp [hb]
theorem Digits.clear {n i : Nat} {H : Nat → Bool} {W : Nat → Nat} (h : Digits n H W) : Digits n (updH H i false) (upd W (i / 64) (W (i / 64) &&& (18446744073709551615 - 2 ^ (i % 64)))) := by
  refine ⟨fun j b hb => ?_, fun j => ?_⟩
  · by_cases e : j = i / 64
    · subst e
      rw [upd_same, Nat.testBit_and, h.bit _ _ hb, comp_bit _ _ (by omega) hb]
      by_cases e2 : i % 64 = b
      · subst e2
        have e3 : i / 64 * 64 + i % 64 = i := by omega
        simp [e3, updH]
      · have e3 : i / 64 * 64 + b ≠ i := by omega
        simp [e2, e3, updH]
    · have e3 : j * 64 + b ≠ i := by omega
      rw [upd_other _ _ e, h.bit _ _ hb]
      simp [updH, e3]
  · unfold upd; split
    · exact Nat.lt_of_le_of_lt Nat.and_le_left (h.lt _)
    · exact h.lt j

theorem row_clear_in {w : World} {gr gw n : Nat} {H : Nat → Bool} (h : IsRow w gr gw n H) (i : Nat) (hi : i < n) (hH : H i = true) :
    Calls Tryz.prog 166 #[.pointer (some ⟨gr, 0, none⟩), .int .i64 i] w fun e w' => e = .returned (.int .i64 0) ∧ IsRow w' gr gw n (updH H i false) ∧ Keeps (fun k => k = gr ∨ k = gw) w w' := by
  have h0 := h
  obtain ⟨W, hr, hw, hd, h1, h2⟩ := h
  have hne : gr ≠ gw := hr.ne_ hw (by decide)
  have hgr := hr.lt
  have hgw := hw.lt
  have hcl := heldCount_le n H
  have hcc := heldCount_clear hi hH
  obtain ⟨m, hm⟩ : ∃ m, m = heldCount n (updH H i false) := ⟨_, rfl⟩
  rw [← hm] at hcc
  have c1 : w.cell? ⟨gr, 1, none⟩ = some (.int .i64 ((m : Int) + 1)) := (hr.cell 1).trans (by rw [← hcc]; rfl)
  have c2 : w.cell? ⟨gr, 2, none⟩ = some (.slice (some ⟨gw, 0, none⟩) ((n + 63) / 64) ((n + 63) / 64)) := hr.cell 2
  have f1 := hr.frozen 1
  have fw := hw.frozen (i / 64)
  have l0 : w.cell? ⟨gw, i / 64, none⟩ = some (.int .u64 (W (i / 64))) := by
    have := (hw.cell (i / 64 * 1 + 0)).trans (grid_at (sz := 1) (m := (n + 63) / 64) (r := 0) (fun j _ => .int .u64 (W j)) (by omega) (by omega))
    simpa using this
  have hc := row_has h0 i hi
  rw [hH] at hc
  have hml : m ≤ 65536 := by omega
  have HC := Hd.mk hc; clear hc
  have HM := Hd.mk hm; clear hm
  have HX := Hd.mk hcc; clear hcc
  have HH := Hd.mk hH; clear hH
  go_enter Tryz.func166, Tryz.ntmps166
  go_wp2_with fail
  refine (row_there h0 i hi).mono ?_
  rintro e w' ⟨rfl, rfl⟩
  go_wp2_with fail
  refine HC.out.mono ?_
  rintro e w' ⟨rfl, rfl⟩
  go_wp2_with fail
  go_region
  go_wp2
  refine bodyPost_ret (v := .int .i64 0) (by simp [results, Tryz.results166, go_sem]) rfl ⟨rfl, ?_, ?_⟩
  · rw [andNot_word _ _ (hd.lt _) (by omega)]
    have B := (hw.set_ (i / 64) (.int .u64 ((W (i / 64) &&& (18446744073709551615 - 2 ^ (i % 64)) : Nat) : Int))).far (p := ⟨gr, 1, none⟩) hne.symm (.int .i64 (m : Int))
    rw [wgrid_set W (by omega)] at B
    have R := (hr.far (p := ⟨gw, i / 64, none⟩) hne (.int .u64 ((W (i / 64) &&& (18446744073709551615 - 2 ^ (i % 64)) : Nat) : Int))).set_ 1 (.int .i64 (m : Int))
    refine ⟨upd W (i / 64) (W (i / 64) &&& (18446744073709551615 - 2 ^ (i % 64))), ?_, B.drew, hd.clear, h1, h2⟩
    rw [← HM.out]
    exact R.drew
  · exact (((Keeps.refl _ w).setCell (fun _ => .inr rfl) _).setCell (fun _ => .inl rfl) _).drew

theorem IsRow.keep {w w' : World} {S : Nat → Prop} {gr gw n : Nat} {H : Nat → Bool} (h : IsRow w gr gw n H) (hk : Keeps S w w') (h1 : ¬ S gr) (h2 : ¬ S gw) : IsRow w' gr gw n H := by
  obtain ⟨W, a, b, c⟩ := h
  exact ⟨W, a.keep hk h1, b.keep hk h2, c⟩

end Go.Proofs.Sg
/-! math/bits.TrailingZeros64, where its table lies as the program's text lays it. -/
namespace Go.Proofs.Sg
open Go.RowKit

/-- The table in its variable. -/
def Tab (w : World) : Prop := ∀ j, j < 64 → w.cell? ⟨0, j, none⟩ = some (.int .u8 (Lib.deBruijn64tab.getD j 0))
theorem Tab.keep {w w' : World} (h : Tab w) (e : w'.heap[0]? = w.heap[0]?) : Tab w' := fun j hj => (World.cell?_of_block e).trans (h j hj)
theorem Tab.drewN {w : World} (h : Tab w) (q : Nat) : Tab (w.drewN q) := h
theorem Tab.lt {w : World} (h : Tab w) : 0 < w.heap.size := World.block_lt_of_cell? w _ (h 0 (by omega))
theorem Tab.keeps {w w' : World} {S : Nat → Prop} (h : Tab w) (hk : Keeps S w w') (hS : ¬ S 0) : Tab w' := h.keep (hk.block _ h.lt hS)

set_option maxHeartbeats 1000000 in
theorem tz64_core (x k idx : Nat) (w : World) (hx0 : ((x : Int) == 0) = false)
    (key : IntKind.u64.wrap (bits BinOp.and IntKind.u64 (x : Int) (IntKind.u64.wrap (-(x : Int))) * 285870213051353865) / 288230376151711744 = (idx : Int))
    (hi : idx < 64) (hk : k < 64) (hcell : w.cell? ⟨0, idx, none⟩ = some (.int .u8 k)) :
    Calls Tryz.prog 237 #[.int .u64 x] w fun e w' => e = .returned (.int .i64 k) ∧ w = w' := by
  go_enter Tryz.func237, Tryz.ntmps237
  go_wp2_with (simp only [key])
  go_ret
  exact ⟨rfl, rfl⟩

theorem tz64_key (x a : Nat) (hx : x < 18446744073709551616) (hx0 : x ≠ 0) (hlow : x &&& (18446744073709551616 - x) = a) :
    IntKind.u64.wrap (bits BinOp.and IntKind.u64 (x : Int) (IntKind.u64.wrap (-(x : Int))) * 285870213051353865) / 288230376151711744 = ((a * 285870213051353865 % 18446744073709551616 / 288230376151711744 : Nat) : Int) := by
  have e1 : IntKind.u64.wrap (-(x : Int)) = ((18446744073709551616 - x : Nat) : Int) := by rw [IntKind.wrap_u64]; omega
  rw [e1, bits_and_u64_nat x _ hx (by omega), hlow, IntKind.wrap_u64]
  omega

/-- Of any x that is not 0: the place of its lowest digit 1. -/
theorem tz64 (x : Nat) (hx : x < 18446744073709551616) (hx0 : x ≠ 0) (w : World) (hT : Tab w) :
    Calls Tryz.prog 237 #[.int .u64 x] w fun e w' => e = .returned (.int .i64 (Lib.ctz 64 x)) ∧ w = w' := by
  obtain ⟨hlow, hk⟩ := Lib.lowest_bit 64 x hx0 hx
  obtain ⟨hi, htab⟩ := Lib.deBruijn64_at _ hk
  refine tz64_core x (Lib.ctz 64 x) _ w (by simp; omega) (tz64_key x _ hx hx0 hlow) hi hk ?_
  rw [hT _ hi, htab]

end Go.Proofs.Sg
/-! The row of places: the first place, from one on, that is taken, or free. -/
namespace Go.Proofs.Sg
open Go.RowKit

/-- The lowest digit 1. -/
theorem ctz_spec (x : Nat) (h0 : x ≠ 0) (h : x < 18446744073709551616) : x.testBit (Lib.ctz 64 x) = true ∧ Lib.ctz 64 x < 64 ∧ ∀ j, j < Lib.ctz 64 x → x.testBit j = false := by
  obtain ⟨m, hm, hk⟩ := Lib.ctzFrom_spec 64 x (by omega) h
  have e : Lib.ctz 64 x = Lib.ctzFrom 64 x := by simp [Lib.ctz, h0]
  rw [e]
  generalize Lib.ctzFrom 64 x = k at hm hk
  subst hm
  refine ⟨?_, hk, fun j hj => ?_⟩
  · rw [Nat.mul_comm, Nat.testBit_mul_two_pow]
    simp
  · rw [Nat.mul_comm, Nat.testBit_mul_two_pow]
    simp; omega

def turned (W : Nat → Nat) (turn p : Nat) : Bool := (W (p / 64) ^^^ turn).testBit (p % 64)

theorem seek_xor (x turn : Nat) (hx : x < 18446744073709551616) (ht : turn < 18446744073709551616) :
    ∃ X : Nat, X < 18446744073709551616 ∧ bits BinOp.xor IntKind.u64 (x : Int) (turn : Int) = (X : Int) ∧ ∀ b, b < 64 → X.testBit b = (x ^^^ turn).testBit b := by
  refine ⟨x ^^^ turn, ?_, u64_xor_nat x turn hx ht, fun _ _ => rfl⟩
  have := Nat.xor_lt_two_pow (n := 64) (x := x) (y := turn) (by omega) (by omega)
  omega
theorem seek_mask (x turn s : Nat) (hx : x < 18446744073709551616) (ht : turn < 18446744073709551616) (hs : s < 64) :
    ∃ X : Nat, X < 18446744073709551616 ∧ bits BinOp.and IntKind.u64 (bits BinOp.xor IntKind.u64 (x : Int) (turn : Int)) (IntKind.u64.wrap (18446744073709551615 * 2 ^ s)) = (X : Int) ∧ ∀ b, b < 64 → X.testBit b = (decide (s ≤ b) && (x ^^^ turn).testBit b) := by
  have hy : x ^^^ turn < 18446744073709551616 := by
    have := Nat.xor_lt_two_pow (n := 64) (x := x) (y := turn) (by omega) (by omega)
    omega
  have e : IntKind.u64.wrap (18446744073709551615 * 2 ^ s : Int) = ((18446744073709551615 * 2 ^ s % 18446744073709551616 : Nat) : Int) := by
    rw [IntKind.wrap_u64]
    rw [show ((18446744073709551615 : Int) * 2 ^ s) = ((18446744073709551615 * 2 ^ s : Nat) : Int) by simp]
    generalize 18446744073709551615 * 2 ^ s = p
    omega
  refine ⟨(x ^^^ turn) &&& (18446744073709551615 * 2 ^ s % 18446744073709551616), Nat.lt_of_le_of_lt Nat.and_le_left hy, ?_, fun b hb => ?_⟩
  · rw [u64_xor_nat x turn hx ht, e]
    exact u64_and_nat _ _ hy (Nat.mod_lt _ (by omega))
  · rw [Nat.testBit_and, show 18446744073709551616 = 2 ^ 64 from rfl, Nat.testBit_mod_two_pow, Nat.testBit_mul_two_pow, show 18446744073709551615 = 2 ^ 64 - 1 from rfl, Nat.testBit_two_pow_sub_one, Bool.and_comm]
    congr 1
    by_cases h : s ≤ b
    · simp [h, hb]; omega
    · simp [h]

theorem turned_at (W : Nat → Nat) (turn k b : Nat) (hb : b < 64) : turned W turn (k * 64 + b) = (W k ^^^ turn).testBit b := by
  unfold turned
  rw [show (k * 64 + b) / 64 = k by omega, show (k * 64 + b) % 64 = b by omega]

theorem row_seek_pos {w : World} {gr gw n : Nat} (W : Nat → Nat) (cnt : Int) (hlt0 : ∀ j, W j < 18446744073709551616) (from_ turn : Nat) (hturn : turn < 18446744073709551616)
    (hr : Blk w gr 238 #[.int .i64 n, .int .i64 cnt, .slice (some ⟨gw, 0, none⟩) ((n + 63) / 64) ((n + 63) / 64)]) (hw : Blk w gw 101 (wgrid ((n + 63) / 64) W)) (h1 : 5 ≤ n) (h2 : n ≤ 65536)
    (hf0 : 0 < from_) (hf : from_ < n) (hT : Tab w) :
    Calls Tryz.prog 209 #[.pointer (some ⟨gr, 0, none⟩), .int .i64 from_, .int .u64 turn] w fun e w' => (∃ q, w' = w.drewN q) ∧
      ((e = .returned (.tuple #[.int .i64 0, .bool false]) ∧ ∀ p, from_ ≤ p → p < (n + 63) / 64 * 64 → turned W turn p = false) ∨
       (∃ p, e = .returned (.tuple #[.int .i64 (p : Nat), .bool (decide (p < n))]) ∧ from_ ≤ p ∧ p < (n + 63) / 64 * 64 ∧ turned W turn p = true ∧ ∀ q, from_ ≤ q → q < p → turned W turn q = false)) := by
  have c0 : w.cell? ⟨gr, 0, none⟩ = some (.int .i64 n) := hr.cell 0
  have c2 : w.cell? ⟨gr, 2, none⟩ = some (.slice (some ⟨gw, 0, none⟩) ((n + 63) / 64) ((n + 63) / 64)) := hr.cell 2
  go_enter Tryz.func209, Tryz.ntmps209
  go_wp2
  · go_loopw [8] (fun v wr => ∃ k : Nat, v = .int .i64 k ∧ from_ / 64 ≤ k ∧ k ≤ (n + 63) / 64 ∧ (∃ q, wr = w.drewN q) ∧ Hd (∀ p, from_ ≤ p → p < k * 64 → turned W turn p = false)) (fun v _ => (n + 63) / 64 - (intOf v).toNat)
    case atStart => exact ⟨from_ / 64, by go_num, Nat.le_refl _, by omega, ⟨0, rfl⟩, ⟨fun p h3 h4 => by omega⟩⟩
    case round =>
      obtain ⟨k, rfl, hk1, hk2, ⟨q, rfl⟩, hP⟩ := hrel
      by_cases hlt : k < (n + 63) / 64
      · have l0 : w.cell? ⟨gw, k, none⟩ = some (.int .u64 (W k)) := by
          have := (hw.cell (k * 1 + 0)).trans (grid_at (sz := 1) (m := (n + 63) / 64) (r := 0) (fun j _ => .int .u64 (W j)) (by omega) (by omega))
          simpa using this
        have hround : ∀ X : Nat, X < 18446744073709551616 → (∀ b, b < 64 → X.testBit b = (decide (from_ ≤ k * 64 + b) && turned W turn (k * 64 + b))) → (X = 0 → Hd (∀ p, from_ ≤ p → p < (k + 1) * 64 → turned W turn p = false)) ∧
            (X ≠ 0 → Hd (from_ ≤ k * 64 + Lib.ctz 64 X ∧ turned W turn (k * 64 + Lib.ctz 64 X) = true ∧ ∀ r, from_ ≤ r → r < k * 64 + Lib.ctz 64 X → turned W turn r = false) ∧ Lib.ctz 64 X < 64) := by
          intro X hX hb
          refine ⟨fun h0 => ⟨fun p h3 h4 => ?_⟩, fun h0 => ?_⟩
          · by_cases h5 : p < k * 64
            · exact hP.out p h3 h5
            · have h6 := hb (p - k * 64) (by omega)
              rw [show k * 64 + (p - k * 64) = p by omega, h0] at h6
              simpa [h3] using h6.symm
          · obtain ⟨c1, c2, c3⟩ := ctz_spec X h0 hX
            have h6 := hb _ c2
            rw [c1] at h6
            have h7 := h6.symm
            simp only [Bool.and_eq_true, decide_eq_true_eq] at h7
            refine ⟨⟨h7.1, h7.2, fun r h8 h9 => ?_⟩, c2⟩
            by_cases h5 : r < k * 64
            · exact hP.out r h8 h5
            · have h10 := hb (r - k * 64) (by omega)
              rw [show k * 64 + (r - k * 64) = r by omega, c3 _ (by omega)] at h10
              simpa [h8] using h10.symm
        have HR := Hd.mk hround; clear hround
        have hWk := hlt0 k
        by_cases hkf : k = from_ / 64
        · obtain ⟨X, hX, hXe, hXb⟩ := seek_mask (W k) turn (from_ % 64) hWk hturn (by omega)
          have h3 := HR.out X hX (fun b hb => by rw [hXb b hb, turned_at _ _ _ _ hb]; congr 1; simp <;> omega)
          have HXb := Hd.mk hXb; clear hXb
          have ht : ((k : Int) == (from_ : Int) / 64) = true := by simp; omega
          have HK := Hd.mk hkf; clear hkf
          by_cases hX0 : X = 0
          · have h4 := h3.1 hX0
            have hz : ((X : Int) == 0) = true := by simp; omega
            have HZ := Hd.mk hX0; clear hX0
            have H3 := Hd.mk h3; clear h3
            go_wp2_with fail
            exact ⟨⟨k + 1, by go_num, by omega, by omega, ⟨q, rfl⟩, h4⟩, by simp [intOf]; omega⟩
          · have h4 := (h3.2 hX0).1
            have h5 := (h3.2 hX0).2
            have hz : ((X : Int) == 0) = false := by simp; omega
            have H3 := Hd.mk h3; clear h3
            go_wp2_with fail
            refine (tz64 X hX hX0 (w.drewN q) (hT.drewN q)).mono ?_
            rintro e w' ⟨rfl, rfl⟩
            go_wp2_with fail
            go_quiet (fail)
            go_wp2
            go_ret2
            refine ⟨⟨_, World.drewN_drewN ..⟩, .inr ⟨k * 64 + Lib.ctz 64 X, ?_, h4.out.1, by omega, h4.out.2⟩⟩
            simp; omega
        · obtain ⟨X, hX, hXe, hXb⟩ := seek_xor (W k) turn hWk hturn
          have h3 := HR.out X hX (fun b hb => by rw [hXb b hb, turned_at _ _ _ _ hb]; simp <;> omega)
          have HXb := Hd.mk hXb; clear hXb
          have ht : ((k : Int) == (from_ : Int) / 64) = false := by simp; omega
          have HK := Hd.mk hkf; clear hkf
          by_cases hX0 : X = 0
          · have h4 := h3.1 hX0
            have hz : ((X : Int) == 0) = true := by simp; omega
            have HZ := Hd.mk hX0; clear hX0
            have H3 := Hd.mk h3; clear h3
            go_wp2_with fail
            exact ⟨⟨k + 1, by go_num, by omega, by omega, ⟨q, rfl⟩, h4⟩, by simp [intOf]; omega⟩
          · have h4 := (h3.2 hX0).1
            have h5 := (h3.2 hX0).2
            have hz : ((X : Int) == 0) = false := by simp; omega
            have H3 := Hd.mk h3; clear h3
            go_wp2_with fail
            refine (tz64 X hX hX0 (w.drewN q) (hT.drewN q)).mono ?_
            rintro e w' ⟨rfl, rfl⟩
            go_wp2_with fail
            go_quiet (fail)
            go_wp2
            go_ret2
            refine ⟨⟨_, World.drewN_drewN ..⟩, .inr ⟨k * 64 + Lib.ctz 64 X, ?_, h4.out.1, by omega, h4.out.2⟩⟩
            simp; omega
      · have hkk : k = (n + 63) / 64 := by omega
        go_wp2
        go_ret2
        exact ⟨⟨q, rfl⟩, .inl ⟨rfl, fun p h3 h4 => hP.out p h3 (by omega)⟩⟩


theorem row_seek_zero {w : World} {gr gw n : Nat} (W : Nat → Nat) (cnt : Int) (hlt0 : ∀ j, W j < 18446744073709551616) (turn : Nat) (hturn : turn < 18446744073709551616)
    (hr : Blk w gr 238 #[.int .i64 n, .int .i64 cnt, .slice (some ⟨gw, 0, none⟩) ((n + 63) / 64) ((n + 63) / 64)]) (hw : Blk w gw 101 (wgrid ((n + 63) / 64) W)) (h1 : 5 ≤ n) (h2 : n ≤ 65536)
    (hT : Tab w) :
    Calls Tryz.prog 209 #[.pointer (some ⟨gr, 0, none⟩), .int .i64 0, .int .u64 turn] w fun e w' => (∃ q, w' = w.drewN q) ∧
      ((e = .returned (.tuple #[.int .i64 0, .bool false]) ∧ ∀ p, 0 ≤ p → p < (n + 63) / 64 * 64 → turned W turn p = false) ∨
       (∃ p, e = .returned (.tuple #[.int .i64 (p : Nat), .bool (decide (p < n))]) ∧ 0 ≤ p ∧ p < (n + 63) / 64 * 64 ∧ turned W turn p = true ∧ ∀ q, 0 ≤ q → q < p → turned W turn q = false)) := by
  have c0 : w.cell? ⟨gr, 0, none⟩ = some (.int .i64 n) := hr.cell 0
  have c2 : w.cell? ⟨gr, 2, none⟩ = some (.slice (some ⟨gw, 0, none⟩) ((n + 63) / 64) ((n + 63) / 64)) := hr.cell 2
  go_enter Tryz.func209, Tryz.ntmps209
  go_wp2
  · go_loopw [8] (fun v wr => ∃ k : Nat, v = .int .i64 k ∧ k ≤ (n + 63) / 64 ∧ (∃ q, wr = w.drewN q) ∧ Hd (∀ p, 0 ≤ p → p < k * 64 → turned W turn p = false)) (fun v _ => (n + 63) / 64 - (intOf v).toNat)
    case atStart => exact ⟨0, by go_num, by omega, ⟨0, rfl⟩, ⟨fun p h3 h4 => by omega⟩⟩
    case round =>
      obtain ⟨k, rfl, hk2, ⟨q, rfl⟩, hP⟩ := hrel
      by_cases hlt : k < (n + 63) / 64
      · have l0 : w.cell? ⟨gw, k, none⟩ = some (.int .u64 (W k)) := by
          have := (hw.cell (k * 1 + 0)).trans (grid_at (sz := 1) (m := (n + 63) / 64) (r := 0) (fun j _ => .int .u64 (W j)) (by omega) (by omega))
          simpa using this
        have hround : ∀ X : Nat, X < 18446744073709551616 → (∀ b, b < 64 → X.testBit b = (decide (0 ≤ k * 64 + b) && turned W turn (k * 64 + b))) → (X = 0 → Hd (∀ p, 0 ≤ p → p < (k + 1) * 64 → turned W turn p = false)) ∧
            (X ≠ 0 → Hd (0 ≤ k * 64 + Lib.ctz 64 X ∧ turned W turn (k * 64 + Lib.ctz 64 X) = true ∧ ∀ r, 0 ≤ r → r < k * 64 + Lib.ctz 64 X → turned W turn r = false) ∧ Lib.ctz 64 X < 64) := by
          intro X hX hb
          refine ⟨fun h0 => ⟨fun p h3 h4 => ?_⟩, fun h0 => ?_⟩
          · by_cases h5 : p < k * 64
            · exact hP.out p h3 h5
            · have h6 := hb (p - k * 64) (by omega)
              rw [show k * 64 + (p - k * 64) = p by omega, h0] at h6
              simpa [h3] using h6.symm
          · obtain ⟨c1, c2, c3⟩ := ctz_spec X h0 hX
            have h6 := hb _ c2
            rw [c1] at h6
            have h7 := h6.symm
            simp only [Bool.and_eq_true, decide_eq_true_eq] at h7
            refine ⟨⟨h7.1, h7.2, fun r h8 h9 => ?_⟩, c2⟩
            by_cases h5 : r < k * 64
            · exact hP.out r h8 h5
            · have h10 := hb (r - k * 64) (by omega)
              rw [show k * 64 + (r - k * 64) = r by omega, c3 _ (by omega)] at h10
              simpa [h8] using h10.symm
        have HR := Hd.mk hround; clear hround
        have hWk := hlt0 k
        by_cases hkf : k = 0
        · obtain ⟨X, hX, hXe, hXb⟩ := seek_mask (W k) turn 0 hWk hturn (by omega)
          rw [show IntKind.u64.wrap (18446744073709551615 * 2 ^ 0) = 18446744073709551615 by decide] at hXe
          have h3 := HR.out X hX (fun b hb => by rw [hXb b hb, turned_at _ _ _ _ hb]; simp)
          have HXb := Hd.mk hXb; clear hXb
          have ht : ((k : Int) == 0) = true := by simp; omega
          have HK := Hd.mk hkf; clear hkf
          by_cases hX0 : X = 0
          · have h4 := h3.1 hX0
            have hz : ((X : Int) == 0) = true := by simp; omega
            have HZ := Hd.mk hX0; clear hX0
            have H3 := Hd.mk h3; clear h3
            go_wp2_with fail
            exact ⟨⟨k + 1, by go_num, by omega, ⟨q, rfl⟩, h4⟩, by simp [intOf]; omega⟩
          · have h4 := (h3.2 hX0).1
            have h5 := (h3.2 hX0).2
            have hz : ((X : Int) == 0) = false := by simp; omega
            have H3 := Hd.mk h3; clear h3
            go_wp2_with fail
            refine (tz64 X hX hX0 (w.drewN q) (hT.drewN q)).mono ?_
            rintro e w' ⟨rfl, rfl⟩
            go_wp2_with fail
            go_quiet (fail)
            go_wp2
            go_ret2
            refine ⟨⟨_, World.drewN_drewN ..⟩, .inr ⟨k * 64 + Lib.ctz 64 X, ?_, h4.out.1, by omega, h4.out.2⟩⟩
            simp; omega
        · obtain ⟨X, hX, hXe, hXb⟩ := seek_xor (W k) turn hWk hturn
          have h3 := HR.out X hX (fun b hb => by rw [hXb b hb, turned_at _ _ _ _ hb]; simp <;> omega)
          have HXb := Hd.mk hXb; clear hXb
          have ht : ((k : Int) == 0) = false := by simp; omega
          have HK := Hd.mk hkf; clear hkf
          by_cases hX0 : X = 0
          · have h4 := h3.1 hX0
            have hz : ((X : Int) == 0) = true := by simp; omega
            have HZ := Hd.mk hX0; clear hX0
            have H3 := Hd.mk h3; clear h3
            go_wp2_with fail
            exact ⟨⟨k + 1, by go_num, by omega, ⟨q, rfl⟩, h4⟩, by simp [intOf]; omega⟩
          · have h4 := (h3.2 hX0).1
            have h5 := (h3.2 hX0).2
            have hz : ((X : Int) == 0) = false := by simp; omega
            have H3 := Hd.mk h3; clear h3
            go_wp2_with fail
            refine (tz64 X hX hX0 (w.drewN q) (hT.drewN q)).mono ?_
            rintro e w' ⟨rfl, rfl⟩
            go_wp2_with fail
            go_quiet (fail)
            go_wp2
            go_ret2
            refine ⟨⟨_, World.drewN_drewN ..⟩, .inr ⟨k * 64 + Lib.ctz 64 X, ?_, h4.out.1, by omega, h4.out.2⟩⟩
            simp; omega
      · have hkk : k = (n + 63) / 64 := by omega
        go_wp2
        go_ret2
        exact ⟨⟨q, rfl⟩, .inl ⟨rfl, fun p h3 h4 => hP.out p h3 (by omega)⟩⟩


end Go.Proofs.Sg
/-! The row of places: the first free place, and the next taken one. -/
namespace Go.Proofs.Sg
open Go.RowKit

theorem turned_zero {n : Nat} {H : Nat → Bool} {W : Nat → Nat} (h : Digits n H W) (p : Nat) : turned W 0 p = (decide (p < n) && H p) := by
  unfold turned
  rw [Nat.xor_zero, h.bit _ _ (by omega), show p / 64 * 64 + p % 64 = p by omega]
theorem turned_ones {n : Nat} {H : Nat → Bool} {W : Nat → Nat} (h : Digits n H W) (p : Nat) : turned W 18446744073709551615 p = !(decide (p < n) && H p) := by
  unfold turned
  rw [Nat.testBit_xor, h.bit _ _ (by omega), show p / 64 * 64 + p % 64 = p by omega, show 18446744073709551615 = 2 ^ 64 - 1 from rfl, Nat.testBit_two_pow_sub_one]
  simp [show p % 64 < 64 by omega]

theorem row_seek {w : World} {gr gw n : Nat} (W : Nat → Nat) (cnt : Int) (hlt0 : ∀ j, W j < 18446744073709551616) (from_ turn : Nat) (hturn : turn < 18446744073709551616)
    (hr : Blk w gr 238 #[.int .i64 n, .int .i64 cnt, .slice (some ⟨gw, 0, none⟩) ((n + 63) / 64) ((n + 63) / 64)]) (hw : Blk w gw 101 (wgrid ((n + 63) / 64) W)) (h1 : 5 ≤ n) (h2 : n ≤ 65536)
    (hf : from_ < n) (hT : Tab w) :
    Calls Tryz.prog 209 #[.pointer (some ⟨gr, 0, none⟩), .int .i64 from_, .int .u64 turn] w fun e w' => (∃ q, w' = w.drewN q) ∧
      ((e = .returned (.tuple #[.int .i64 0, .bool false]) ∧ ∀ p, from_ ≤ p → p < (n + 63) / 64 * 64 → turned W turn p = false) ∨
       (∃ p, e = .returned (.tuple #[.int .i64 (p : Nat), .bool (decide (p < n))]) ∧ from_ ≤ p ∧ p < (n + 63) / 64 * 64 ∧ turned W turn p = true ∧ ∀ q, from_ ≤ q → q < p → turned W turn q = false)) := by
  rcases Nat.eq_zero_or_pos from_ with h0 | h0
  · subst h0
    exact row_seek_zero W cnt hlt0 turn hturn hr hw h1 h2 hT
  · exact row_seek_pos W cnt hlt0 from_ turn hturn hr hw h1 h2 h0 hf hT

/-- What is sought among the places of a kind: the first one from a place on. -/
def Sought (n from_ : Nat) (is : Nat → Bool) (e : Ending) : Prop :=
  (∃ p : Nat, e = .returned (.tuple #[.int .i64 (p : Nat), .bool true]) ∧ from_ ≤ p ∧ p < n ∧ is p = true ∧ ∀ q, from_ ≤ q → q < p → is q = false) ∨
  (e = .returned (.tuple #[.int .i64 0, .bool false]) ∧ ∀ q, from_ ≤ q → q < n → is q = false)

theorem told_yes (i : Nat) (w : World) : Calls Tryz.prog 208 #[.int .i64 i, .bool true] w fun e w' => e = .returned (.tuple #[.int .i64 i, .bool true]) ∧ w = w' := by
  go_enter Tryz.func208, Tryz.ntmps208
  go_wp2
  go_ret2
  exact ⟨rfl, rfl⟩
theorem told_no (i : Int) (w : World) : Calls Tryz.prog 208 #[.int .i64 i, .bool false] w fun e w' => e = .returned (.tuple #[.int .i64 0, .bool false]) ∧ w = w' := by
  go_enter Tryz.func208, Tryz.ntmps208
  go_wp2
  go_ret2
  exact ⟨rfl, rfl⟩

theorem row_free {w : World} {gr gw n : Nat} {H : Nat → Bool} (h : IsRow w gr gw n H) (hT : Tab w) (from_ : Nat) (hf : from_ < n) :
    Calls Tryz.prog 210 #[.pointer (some ⟨gr, 0, none⟩), .int .i64 from_] w fun e w' => (∃ q, w' = w.drewN q) ∧ Sought n from_ (fun p => !H p) e := by
  have h0 := h
  obtain ⟨W, hr, hw, hd, h1, h2⟩ := h
  have hs := row_seek W _ hd.lt from_ 18446744073709551615 (by omega) hr hw h1 h2 hf hT
  have hx : ∀ p, turned W 18446744073709551615 p = !(decide (p < n) && H p) := turned_ones hd
  generalize turned W 18446744073709551615 = t at hs hx
  have HS := Hd.mk hs; clear hs
  have HX := Hd.mk hx; clear hx
  have hn0 : ((n : Int) == 0) = false := by simp; omega
  have hn1 : decide (n ≤ from_) = false := by simp; omega
  go_enter Tryz.func210, Tryz.ntmps210
  go_wp2_with fail
  refine (row_len h0).mono ?_
  rintro e w' ⟨rfl, rfl⟩
  go_wp2_with fail
  refine (row_len h0).mono ?_
  rintro e w' ⟨rfl, rfl⟩
  go_wp2_with fail
  refine HS.out.mono ?_
  rintro e w' ⟨⟨q, rfl⟩, ⟨rfl, hn⟩ | ⟨p, rfl, hp1, hp2, hp3, hp4⟩⟩
  · have HN := Hd.mk hn; clear hn
    go_wp2_with fail
    refine (told_no _ _).mono ?_
    rintro e w' ⟨rfl, rfl⟩
    go_wp2_with fail
    go_ret2
    refine ⟨⟨q, rfl⟩, .inr ⟨rfl, fun r h3 h4 => ?_⟩⟩
    have := HN.out r h3 (by omega)
    rw [HX.out] at this
    simpa [h4] using this
  · have HP := Hd.mk hp4; clear hp4
    have hp3' := hp3
    rw [HX.out] at hp3'
    have HQ := Hd.mk hp3'; clear hp3 hp3'
    by_cases hpn : p < n
    · have hd : decide (p < n) = true := by simpa using hpn
      go_wp2_with fail
      refine (told_yes p _).mono ?_
      rintro e w' ⟨rfl, rfl⟩
      go_wp2_with fail
      go_ret2
      refine ⟨⟨q, rfl⟩, .inl ⟨p, rfl, hp1, hpn, by simpa [hpn] using HQ.out, fun r h3 h4 => ?_⟩⟩
      have := HP.out r h3 h4
      rw [HX.out] at this
      simpa [show r < n by omega] using this
    · have hd : decide (p < n) = false := by simpa using hpn
      go_wp2_with fail
      refine (told_no p _).mono ?_
      rintro e w' ⟨rfl, rfl⟩
      go_wp2_with fail
      go_ret2
      refine ⟨⟨q, rfl⟩, .inr ⟨rfl, fun r h3 h4 => ?_⟩⟩
      have := HP.out r h3 (by omega)
      rw [HX.out] at this
      simpa [h4] using this

theorem row_next {w : World} {gr gw n : Nat} {H : Nat → Bool} (h : IsRow w gr gw n H) (hT : Tab w) (from_ : Nat) (hf : from_ < n) :
    Calls Tryz.prog 159 #[.pointer (some ⟨gr, 0, none⟩), .int .i64 from_] w fun e w' => (∃ q, w' = w.drewN q) ∧ Sought n from_ H e := by
  have h0 := h
  obtain ⟨W, hr, hw, hd, h1, h2⟩ := h
  have hs := row_seek W _ hd.lt from_ 0 (by omega) hr hw h1 h2 hf hT
  have hx : ∀ p, turned W 0 p = (decide (p < n) && H p) := turned_zero hd
  generalize turned W 0 = t at hs hx
  have HS := Hd.mk hs; clear hs
  have HX := Hd.mk hx; clear hx
  have hn0 : ((n : Int) == 0) = false := by simp; omega
  have hn1 : decide (n ≤ from_) = false := by simp; omega
  go_enter Tryz.func159, Tryz.ntmps159
  go_wp2_with fail
  refine (row_len h0).mono ?_
  rintro e w' ⟨rfl, rfl⟩
  go_wp2_with fail
  refine (row_len h0).mono ?_
  rintro e w' ⟨rfl, rfl⟩
  go_wp2_with fail
  refine HS.out.mono ?_
  rintro e w' ⟨⟨q, rfl⟩, ⟨rfl, hn⟩ | ⟨p, rfl, hp1, hp2, hp3, hp4⟩⟩
  · have HN := Hd.mk hn; clear hn
    go_wp2_with fail
    refine (told_no _ _).mono ?_
    rintro e w' ⟨rfl, rfl⟩
    go_wp2_with fail
    go_ret2
    refine ⟨⟨q, rfl⟩, .inr ⟨rfl, fun r h3 h4 => ?_⟩⟩
    have := HN.out r h3 (by omega)
    rw [HX.out] at this
    simpa [h4] using this
  · have HP := Hd.mk hp4; clear hp4
    have hp3' := hp3
    rw [HX.out] at hp3'
    have hpn : p < n := by
      simp only [Bool.and_eq_true, decide_eq_true_eq] at hp3'; exact hp3'.1
    have HQ := Hd.mk hp3'; clear hp3 hp3'
    have hd : decide (p < n) = true := by simpa using hpn
    go_wp2_with fail
    refine (told_yes p _).mono ?_
    rintro e w' ⟨rfl, rfl⟩
    go_wp2_with fail
    go_ret2
    refine ⟨⟨q, rfl⟩, .inl ⟨p, rfl, hp1, hpn, by simpa [hpn] using HQ.out, fun r h3 h4 => ?_⟩⟩
    have := HP.out r h3 h4
    rw [HX.out] at this
    simpa [show r < n by omega] using this

theorem row_next_end {w : World} {gr gw n : Nat} {H : Nat → Bool} (h : IsRow w gr gw n H) (from_ : Nat) (hf : n ≤ from_) :
    Calls Tryz.prog 159 #[.pointer (some ⟨gr, 0, none⟩), .int .i64 from_] w fun e w' => e = .returned (.tuple #[.int .i64 0, .bool false]) ∧ w = w' := by
  have h0 := h
  obtain ⟨W, hr, hw, hd, h1, h2⟩ := h
  have hn0 : ((n : Int) == 0) = false := by simp; omega
  have hn1 : decide (n ≤ from_) = true := by simp; omega
  go_enter Tryz.func159, Tryz.ntmps159
  go_wp2_with fail
  refine (row_len h0).mono ?_
  rintro e w' ⟨rfl, rfl⟩
  go_wp2_with fail
  refine (row_len h0).mono ?_
  rintro e w' ⟨rfl, rfl⟩
  go_wp2_with fail
  go_ret2
  exact ⟨rfl, rfl⟩

end Go.Proofs.Sg
/-! The pool of blocks: each of its methods. -/
namespace Go.Proofs.Sg
open Go.RowKit

def IsPool (w : World) (gp gr gw n : Nat) (H : Nat → Bool) : Prop :=
  Blk w gp 180 #[.pointer (some ⟨gr, 0, none⟩)] ∧ IsRow w gr gw n H ∧ Tab w

theorem IsPool.keep {w w' : World} {S : Nat → Prop} {gp gr gw n : Nat} {H : Nat → Bool} (h : IsPool w gp gr gw n H) (hk : Keeps S w w') (h1 : ¬ S gp) (h2 : ¬ S gr) (h3 : ¬ S gw) (h4 : ¬ S 0) : IsPool w' gp gr gw n H :=
  ⟨h.1.keep hk h1, h.2.1.keep hk h2 h3, h.2.2.keeps hk h4⟩
theorem IsPool.drewN {w : World} {gp gr gw n : Nat} {H : Nat → Bool} (h : IsPool w gp gr gw n H) (q : Nat) : IsPool (w.drewN q) gp gr gw n H := h

theorem row_has_out {w : World} {gr gw n : Nat} {H : Nat → Bool} (h : IsRow w gr gw n H) (i : Nat) (hi : n ≤ i) :
    Calls Tryz.prog 124 #[.pointer (some ⟨gr, 0, none⟩), .int .i64 i] w fun e w' => e = .returned (.bool false) ∧ w = w' := by
  go_enter Tryz.func124, Tryz.ntmps124
  go_wp2_with (go_at_call 177; refine (row_not_there h i hi).mono ?_; rintro e w' ⟨rfl, rfl⟩)
  go_ret
  exact ⟨rfl, rfl⟩

theorem pool_none {w : World} {gp gr gw n : Nat} {H : Nat → Bool} (h : IsPool w gp gr gw n H) :
    Calls Tryz.prog 123 #[.pointer (some ⟨gp, 0, none⟩)] w fun e w' => e = .returned (.bool false) ∧ w = w' := by
  have c0 : w.cell? ⟨gp, 0, none⟩ = some (.pointer (some ⟨gr, 0, none⟩)) := h.1.cell 0
  go_enter Tryz.func123, Tryz.ntmps123
  go_wp2
  go_ret
  exact ⟨rfl, rfl⟩

theorem pool_free {w : World} {gp gr gw n : Nat} {H : Nat → Bool} (h : IsPool w gp gr gw n H) :
    Calls Tryz.prog 101 #[.pointer (some ⟨gp, 0, none⟩)] w fun e w' => e = .returned (.int .i64 ((n : Int) - heldCount n H)) ∧ ∃ q, w' = w.drewN q := by
  have c0 : w.cell? ⟨gp, 0, none⟩ = some (.pointer (some ⟨gr, 0, none⟩)) := h.1.cell 0
  have hcl := heldCount_le n H
  obtain ⟨_, _, _, _, h5, h6⟩ := h.2.1
  go_enter Tryz.func101, Tryz.ntmps101
  go_wp2_with fail
  refine (pool_none h).mono ?_
  rintro e w' ⟨rfl, rfl⟩
  go_wp2_with fail
  go_quiet (first | (go_at_call 160; exact Calls.quiet_of_same (row_len' h.2.1)) | (go_at_call 161; exact Calls.quiet_of_same (row_count' h.2.1)))
  go_wp2
  go_ret
  exact ⟨rfl, nq, rfl⟩

theorem pool_has {w : World} {gp gr gw n : Nat} {H : Nat → Bool} (h : IsPool w gp gr gw n H) (i : Nat) (hi : i < n) :
    Calls Tryz.prog 64 #[.pointer (some ⟨gp, 0, none⟩), .int .u32 i] w fun e w' => e = .returned (.bool (H i)) ∧ w = w' := by
  have c0 : w.cell? ⟨gp, 0, none⟩ = some (.pointer (some ⟨gr, 0, none⟩)) := h.1.cell 0
  have hn := h.2.1
  obtain ⟨_, _, _, _, _, hn2⟩ := hn
  go_enter Tryz.func64, Tryz.ntmps64
  go_wp2_with fail
  refine (pool_none h).mono ?_
  rintro e w' ⟨rfl, rfl⟩
  go_wp2_with fail
  refine (row_has h.2.1 i hi).mono ?_
  rintro e w' ⟨rfl, rfl⟩
  go_wp2_with fail
  go_ret
  exact ⟨rfl, rfl⟩

theorem pool_grab_full {w : World} {gp gr gw n : Nat} {H : Nat → Bool} (h : IsPool w gp gr gw n H) (hf : heldCount n H = n) :
    Calls Tryz.prog 165 #[.pointer (some ⟨gp, 0, none⟩), .int .i64 1] w fun e w' => e = .returned (.tuple #[.slice none 0 0, .int .i64 11]) ∧ ∃ q, w' = w.drewN q := by
  have hp := pool_free h
  rw [hf, Int.sub_self] at hp
  have HP := Hd.mk hp; clear hp hf
  go_enter Tryz.func165, Tryz.ntmps165
  go_wp2_with fail
  refine (pool_none h).mono ?_
  rintro e w' ⟨rfl, rfl⟩
  go_wp2_with fail
  refine HP.out.mono ?_
  rintro e w' ⟨rfl, q, rfl⟩
  go_wp2_with fail
  go_ret2
  exact ⟨rfl, q, rfl⟩

theorem own_none (W : World) (base : Nat) (e : TypeId) (size : Nat) : W.ownsRow base e size (.slice none 0 0) 0 [] := ⟨by simp, .inl ⟨rfl, rfl⟩⟩
theorem Tryz.infoU32 : (Tryz.prog.info? 30).map (fun i => (i.zero, i.size, i.bytes)) = some (some (.int .u32 0), 1, 4) := by kernel_rfl

/-- The table's block is none that holds cells of another kind than a byte's. -/
theorem tab_ne {w : World} {g : Nat} {t : TypeId} {v : Value} {cs : Array Value} (hT : Tab w) (h : Blk w g t cs) (h0 : cs[0]? = some v) (hv : ∀ x, v ≠ .int .u8 x) : 0 ≠ g := by
  rintro rfl
  have h1 := hT 0 (by omega)
  rw [h.cell 0, h0] at h1
  exact hv _ (by injection h1)
theorem IsRow.tab {w : World} {gr gw n : Nat} {H : Nat → Bool} (h : IsRow w gr gw n H) (hT : Tab w) : 0 ≠ gr ∧ 0 ≠ gw := by
  obtain ⟨W, a, b, _, h1, h2⟩ := h
  refine ⟨tab_ne hT a (v := .int .i64 n) rfl (fun x e => by injection e with e; cases e), tab_ne hT b (v := .int .u64 (W 0)) ?_ (fun x e => by injection e with e; cases e)⟩
  have := grid_at (sz := 1) (m := (n + 63) / 64) (j := 0) (r := 0) (fun j _ => Value.int .u64 (W j)) (by omega) (by omega)
  simpa [wgrid] using this

/-- The lowest free block is taken. -/
theorem pool_grab_one {w : World} {gp gr gw n : Nat} {H : Nat → Bool} (h : IsPool w gp gr gw n H) (hf : heldCount n H < n) :
    Calls Tryz.prog 165 #[.pointer (some ⟨gp, 0, none⟩), .int .i64 1] w fun e w' => ∃ p g c : Nat, e = .returned (.tuple #[.slice (some ⟨g, 0, none⟩) 1 c, .int .i64 0]) ∧ p < n ∧ H p = false ∧ (∀ q, q < p → H q = true) ∧
      w.heap.size ≤ g ∧ w'.cell? ⟨g, 0, none⟩ = some (.int .u32 p) ∧ IsPool w' gp gr gw n (updH H p true) ∧ Keeps (fun k => k = gr ∨ k = gw) w w' := by
  have h0 := h
  have c0 : w.cell? ⟨gp, 0, none⟩ = some (.pointer (some ⟨gr, 0, none⟩)) := h.1.cell 0
  have hpr : gp ≠ gr := by obtain ⟨_, a, _⟩ := h.2.1; exact h.1.ne_ a (by decide)
  have hpw : gp ≠ gw := by obtain ⟨_, _, a, _⟩ := h.2.1; exact h.1.ne_ a (by decide)
  have h5 : 5 ≤ n := by obtain ⟨_, _, _, _, a, _⟩ := h.2.1; exact a
  have h6 : n ≤ 65536 := by obtain ⟨_, _, _, _, _, a⟩ := h.2.1; exact a
  go_enter Tryz.func165, Tryz.ntmps165
  go_wp2_with fail
  refine (pool_none h).mono ?_
  rintro e w' ⟨rfl, rfl⟩
  go_wp2_with fail
  refine (pool_free h).mono ?_
  rintro e w' ⟨rfl, q, rfl⟩
  go_wp2_with fail
  refine wp_loop_rounds 2 ?_
  rw [rounds_succ]
  go_wp2_with fail
  refine (row_free (h.drewN q).2.1 (h.drewN q).2.2 0 (by omega)).mono ?_
  rintro e w' ⟨⟨q2, rfl⟩, ⟨p, rfl, _, hp1, hp2, hp3⟩ | ⟨rfl, hp⟩⟩
  · have hHp : H p = false := by simpa using hp2
    have hH2 : ∀ r, r < p → H r = true := fun r hr => by simpa using hp3 r (Nat.zero_le _) hr
    have A1 := Hd.mk hHp
    have A2 := Hd.mk hH2
    clear hp2 hp3 hH2
    go_wp2_with fail
    refine (row_set_new (h.drewN (q + q2)).2.1 p hp1 A1.out).mono ?_
    clear hHp
    rintro e w1 ⟨rfl, hr1, hk1⟩
    obtain ⟨i0, hi, hz0, hz1, hz2⟩ := info_parts' Tryz.infoU32
    have c0' : w1.cell? ⟨gp, 0, none⟩ = some (.pointer (some ⟨gr, 0, none⟩)) := (h0.1.drewN (q + q2)).keep hk1 (by simp [hpr, hpw]) |>.cell 0
    go_wp2_with (at_builtin; refine wpList_append_own _ rfl _ _ 39 rfl w1.heap.size 30 i0 (.int .u32 0) 1 4 Tryz.underlying39 hi hz0 hz1 hz2 rfl (by decide) _ _ _ rfl (own_none _ _ _ _) ⟨w1.heap.size, 0, none⟩ 1 1 [.int .u32 p] rfl ?qc1 ?qc2 ?qc3 ?qc4 ?qc5 ?qc6 ?_)
    case qc1 => rfl
    case qc2 => exact cell_one_new _ _ _
    case qc3 => simp [Value.oneCell']
    case qc4 => unfold maxLen; omega
    case qc5 => omega
    case qc6 => simp
    intro v' w2 hown hgrow hnil
    go_wp2
    rw [rounds_succ]
    go_wp2
    go_ret2
    obtain ⟨g, c, rfl, hg1, hg2, _, _, hg3⟩ := own_at_ne hown (by simp)
    have hb : Below w1.heap.size w1 w2 := ((Below.refl _ w1).alloc (Nat.le_refl _) _).grown hgrow (by simp) (by intro k hk; simp [Value.ownBlock] at hk)
    have hk2 : Keeps (fun k => k = gr ∨ k = gw) w w2 := ((Keeps.refl _ w).drewN (q + q2)).trans (hk1.trans (T := fun _ => False) (Keeps.of_below hb) (fun _ _ h => h) (fun _ _ h => h.elim)) (fun _ _ h => h) (fun _ _ h => h)
    refine ⟨p, g, c, rfl, hp1, A1.out, A2.out, Nat.le_trans (by have := hk1.size; simpa using this) hg1, ?_, ⟨?_, ?_, ?_⟩, hk2⟩
    · exact (hg3 0 (by simp)).trans rfl
    · exact h0.1.keep hk2 (by simp [hpr, hpw])
    · exact hr1.keep (S := fun _ => False) (Keeps.of_below hb) (by simp) (by simp)
    · exact h0.2.2.keeps hk2 (by
        rintro (e | e)
        · exact (h0.2.1.tab h0.2.2).1 e
        · exact (h0.2.1.tab h0.2.2).2 e)
  · exact absurd hp (by
      intro hp
      have : heldCount n H = n := by
        unfold heldCount
        rw [List.filter_eq_self.2]
        · simp
        · intro x hx; simpa using hp x (Nat.zero_le _) (by simpa using hx)
      omega)


theorem pool_take_full {w : World} {gp gr gw n : Nat} {H : Nat → Bool} (h : IsPool w gp gr gw n H) (hf : heldCount n H = n) :
    Calls Tryz.prog 109 #[.pointer (some ⟨gp, 0, none⟩)] w fun e w' => e = .returned (.tuple #[.int .u32 0, .int .i64 11]) ∧ ∃ q, w' = w.drewN q := by
  go_enter Tryz.func109, Tryz.ntmps109
  go_wp2_with fail
  refine (pool_grab_full h hf).mono ?_
  rintro e w' ⟨rfl, q, rfl⟩
  go_wp2_with fail
  go_ret2
  exact ⟨rfl, q, rfl⟩

theorem pool_take_one {w : World} {gp gr gw n : Nat} {H : Nat → Bool} (h : IsPool w gp gr gw n H) (hf : heldCount n H < n) :
    Calls Tryz.prog 109 #[.pointer (some ⟨gp, 0, none⟩)] w fun e w' => ∃ p : Nat, e = .returned (.tuple #[.int .u32 p, .int .i64 0]) ∧ p < n ∧ H p = false ∧ (∀ q, q < p → H q = true) ∧
      IsPool w' gp gr gw n (updH H p true) ∧ Keeps (fun k => k = gr ∨ k = gw) w w' := by
  go_enter Tryz.func109, Tryz.ntmps109
  go_wp2_with fail
  refine (pool_grab_one h hf).mono ?_
  rintro e w1 ⟨p, g, c, rfl, hp1, hp2, hp3, hg, hc, hP, hk⟩
  have A1 := Hd.mk hp2
  have A2 := Hd.mk hp3
  clear hp2 hp3
  go_wp2_with fail
  go_ret2
  exact ⟨p, rfl, hp1, A1.out, A2.out, hP, hk⟩

theorem pool_mark_new {w : World} {gp gr gw n : Nat} {H : Nat → Bool} (h : IsPool w gp gr gw n H) (i : Nat) (hi : i < n) (hH : H i = false) :
    Calls Tryz.prog 112 #[.pointer (some ⟨gp, 0, none⟩), .int .u32 i] w fun e w' => e = .returned (.int .i64 0) ∧ IsPool w' gp gr gw n (updH H i true) ∧ Keeps (fun k => k = gr ∨ k = gw) w w' := by
  have c0 : w.cell? ⟨gp, 0, none⟩ = some (.pointer (some ⟨gr, 0, none⟩)) := h.1.cell 0
  have hpr : gp ≠ gr := by obtain ⟨_, a, _⟩ := h.2.1; exact h.1.ne_ a (by decide)
  have hpw : gp ≠ gw := by obtain ⟨_, _, a, _⟩ := h.2.1; exact h.1.ne_ a (by decide)
  have h6 : n ≤ 65536 := by obtain ⟨_, _, _, _, _, a⟩ := h.2.1; exact a
  have A1 := Hd.mk hH
  clear hH
  go_enter Tryz.func112, Tryz.ntmps112
  go_wp2_with fail
  refine (pool_none h).mono ?_
  rintro e w' ⟨rfl, rfl⟩
  go_wp2_with fail
  refine (row_set_new h.2.1 i hi A1.out).mono ?_
  rintro e w1 ⟨rfl, hr1, hk1⟩
  go_wp2_with fail
  go_ret
  refine ⟨rfl, ⟨h.1.keep hk1 (by simp [hpr, hpw]), hr1, h.2.2.keeps hk1 ?_⟩, hk1⟩
  rintro (e | e)
  · exact (h.2.1.tab h.2.2).1 e
  · exact (h.2.1.tab h.2.2).2 e

theorem pool_mark_twice {w : World} {gp gr gw n : Nat} {H : Nat → Bool} (h : IsPool w gp gr gw n H) (i : Nat) (hi : i < n) (hH : H i = true) :
    Calls Tryz.prog 112 #[.pointer (some ⟨gp, 0, none⟩), .int .u32 i] w fun e w' => e = .returned (.int .i64 10) ∧ w = w' := by
  have c0 : w.cell? ⟨gp, 0, none⟩ = some (.pointer (some ⟨gr, 0, none⟩)) := h.1.cell 0
  have h6 : n ≤ 65536 := by obtain ⟨_, _, _, _, _, a⟩ := h.2.1; exact a
  have A1 := Hd.mk hH
  clear hH
  go_enter Tryz.func112, Tryz.ntmps112
  go_wp2_with fail
  refine (pool_none h).mono ?_
  rintro e w' ⟨rfl, rfl⟩
  go_wp2_with fail
  refine (row_set_twice h.2.1 i hi A1.out).mono ?_
  rintro e w1 ⟨rfl, rfl⟩
  go_wp2_with fail
  go_ret
  exact ⟨rfl, rfl⟩

theorem pool_give_in {w : World} {gp gr gw n : Nat} {H : Nat → Bool} (h : IsPool w gp gr gw n H) (i : Nat) (h0 : 0 < i) (hi : i < n) (hH : H i = true) :
    Calls Tryz.prog 110 #[.pointer (some ⟨gp, 0, none⟩), .int .u32 i] w fun e w' => e = .returned (.int .i64 0) ∧ IsPool w' gp gr gw n (updH H i false) ∧ Keeps (fun k => k = gr ∨ k = gw) w w' := by
  have c0 : w.cell? ⟨gp, 0, none⟩ = some (.pointer (some ⟨gr, 0, none⟩)) := h.1.cell 0
  have hpr : gp ≠ gr := by obtain ⟨_, a, _⟩ := h.2.1; exact h.1.ne_ a (by decide)
  have hpw : gp ≠ gw := by obtain ⟨_, _, a, _⟩ := h.2.1; exact h.1.ne_ a (by decide)
  have h6 : n ≤ 65536 := by obtain ⟨_, _, _, _, _, a⟩ := h.2.1; exact a
  have hz : ((i : Int) == 0) = false := by simp; omega
  have A1 := Hd.mk hH
  clear hH
  go_enter Tryz.func110, Tryz.ntmps110
  go_wp2_with fail
  refine (pool_none h).mono ?_
  rintro e w' ⟨rfl, rfl⟩
  go_wp2_with fail
  refine (row_clear_in h.2.1 i hi A1.out).mono ?_
  rintro e w1 ⟨rfl, hr1, hk1⟩
  go_wp2_with fail
  go_ret
  refine ⟨rfl, ⟨h.1.keep hk1 (by simp [hpr, hpw]), hr1, h.2.2.keeps hk1 ?_⟩, hk1⟩
  rintro (e | e)
  · exact (h.2.1.tab h.2.2).1 e
  · exact (h.2.1.tab h.2.2).2 e

theorem pool_give_none {w : World} {gp gr gw n : Nat} {H : Nat → Bool} (h : IsPool w gp gr gw n H) (i : Nat) (h0 : 0 < i) (hi : i < n) (hH : H i = false) :
    Calls Tryz.prog 110 #[.pointer (some ⟨gp, 0, none⟩), .int .u32 i] w fun e w' => e = .returned (.int .i64 9) ∧ w = w' := by
  have c0 : w.cell? ⟨gp, 0, none⟩ = some (.pointer (some ⟨gr, 0, none⟩)) := h.1.cell 0
  have h6 : n ≤ 65536 := by obtain ⟨_, _, _, _, _, a⟩ := h.2.1; exact a
  have hz : ((i : Int) == 0) = false := by simp; omega
  have A1 := Hd.mk hH
  clear hH
  go_enter Tryz.func110, Tryz.ntmps110
  go_wp2_with fail
  refine (pool_none h).mono ?_
  rintro e w' ⟨rfl, rfl⟩
  go_wp2_with fail
  refine (row_clear_none h.2.1 i hi A1.out).mono ?_
  rintro e w1 ⟨rfl, rfl⟩
  go_wp2_with fail
  go_ret
  exact ⟨rfl, rfl⟩

end Go.Proofs.Sg
