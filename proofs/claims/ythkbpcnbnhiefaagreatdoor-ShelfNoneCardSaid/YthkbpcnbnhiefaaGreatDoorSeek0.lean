/- The row of places: the first place, from one on, that is taken, or free. -/
import Derived.Test.YthkbpcnbnhiefaaGreatDoorProg
import Derived.Test.YthkbpcnbnhiefaaGreatDoorMem
import Derived.Test.YthkbpcnbnhiefaaGreatDoorBits
import Derived.Test.YthkbpcnbnhiefaaGreatDoorTz
import Derived.WalkKit
import Derived.Deep.QuietTactic
import Derived.BigQuiet
import Derived.Handy
namespace Go.Proofs.Sg
open Go.RowKit

/-- The lowest digit 1. -/
theorem ctz_spec (x : Nat) (h0 : x ≠ 0) (h : x < 18446744073709551616) : x.testBit (Lib.ctz 64 x) = true ∧ Lib.ctz 64 x < 64 ∧ ∀ j, j < Lib.ctz 64 x → x.testBit j = false := by
  obtain ⟨m, hm, hk⟩ := Lib.ctzFrom_spec 64 x (by omega) h
  have e : Lib.ctz 64 x = Lib.ctzFrom 64 x := by simp [Lib.ctz, h0]
  rw [e]
  generalize Lib.ctzFrom 64 x = k at hm hk
  subst hm
  refine ⟨?_, hk, fun j hj => ?_⟩
  · rw [Nat.mul_comm, Nat.testBit_mul_two_pow]
    simp
  · rw [Nat.mul_comm, Nat.testBit_mul_two_pow]
    simp; omega

def turned (W : Nat → Nat) (turn p : Nat) : Bool := (W (p / 64) ^^^ turn).testBit (p % 64)

theorem seek_xor (x turn : Nat) (hx : x < 18446744073709551616) (ht : turn < 18446744073709551616) :
    ∃ X : Nat, X < 18446744073709551616 ∧ bits BinOp.xor IntKind.u64 (x : Int) (turn : Int) = (X : Int) ∧ ∀ b, b < 64 → X.testBit b = (x ^^^ turn).testBit b := by
  refine ⟨x ^^^ turn, ?_, u64_xor_nat x turn hx ht, fun _ _ => rfl⟩
  have := Nat.xor_lt_two_pow (n := 64) (x := x) (y := turn) (by omega) (by omega)
  omega
theorem seek_mask (x turn s : Nat) (hx : x < 18446744073709551616) (ht : turn < 18446744073709551616) (hs : s < 64) :
    ∃ X : Nat, X < 18446744073709551616 ∧ bits BinOp.and IntKind.u64 (bits BinOp.xor IntKind.u64 (x : Int) (turn : Int)) (IntKind.u64.wrap (18446744073709551615 * 2 ^ s)) = (X : Int) ∧ ∀ b, b < 64 → X.testBit b = (decide (s ≤ b) && (x ^^^ turn).testBit b) := by
  have hy : x ^^^ turn < 18446744073709551616 := by
    have := Nat.xor_lt_two_pow (n := 64) (x := x) (y := turn) (by omega) (by omega)
    omega
  have e : IntKind.u64.wrap (18446744073709551615 * 2 ^ s : Int) = ((18446744073709551615 * 2 ^ s % 18446744073709551616 : Nat) : Int) := by
    rw [IntKind.wrap_u64]
    rw [show ((18446744073709551615 : Int) * 2 ^ s) = ((18446744073709551615 * 2 ^ s : Nat) : Int) by simp]
    generalize 18446744073709551615 * 2 ^ s = p
    omega
  refine ⟨(x ^^^ turn) &&& (18446744073709551615 * 2 ^ s % 18446744073709551616), Nat.lt_of_le_of_lt Nat.and_le_left hy, ?_, fun b hb => ?_⟩
  · rw [u64_xor_nat x turn hx ht, e]
    exact u64_and_nat _ _ hy (Nat.mod_lt _ (by omega))
  · rw [Nat.testBit_and, show 18446744073709551616 = 2 ^ 64 from rfl, Nat.testBit_mod_two_pow, Nat.testBit_mul_two_pow, show 18446744073709551615 = 2 ^ 64 - 1 from rfl, Nat.testBit_two_pow_sub_one, Bool.and_comm]
    congr 1
    by_cases h : s ≤ b
    · simp [h, hb]; omega
    · simp [h]

theorem turned_at (W : Nat → Nat) (turn k b : Nat) (hb : b < 64) : turned W turn (k * 64 + b) = (W k ^^^ turn).testBit b := by
  unfold turned
  rw [show (k * 64 + b) / 64 = k by omega, show (k * 64 + b) % 64 = b by omega]

theorem row_seek_pos {w : World} {gr gw n : Nat} (W : Nat → Nat) (cnt : Int) (hlt0 : ∀ j, W j < 18446744073709551616) (from_ turn : Nat) (hturn : turn < 18446744073709551616)
    (hr : Blk w gr 238 #[.int .i64 n, .int .i64 cnt, .slice (some ⟨gw, 0, none⟩) ((n + 63) / 64) ((n + 63) / 64)]) (hw : Blk w gw 101 (wgrid ((n + 63) / 64) W)) (h1 : 5 ≤ n) (h2 : n ≤ 65536)
    (hf0 : 0 < from_) (hf : from_ < n) (hT : Tab w) :
    Calls Tryz.prog 209 #[.pointer (some ⟨gr, 0, none⟩), .int .i64 from_, .int .u64 turn] w fun e w' => (∃ q, w' = w.drewN q) ∧
      ((e = .returned (.tuple #[.int .i64 0, .bool false]) ∧ ∀ p, from_ ≤ p → p < (n + 63) / 64 * 64 → turned W turn p = false) ∨
       (∃ p, e = .returned (.tuple #[.int .i64 (p : Nat), .bool (decide (p < n))]) ∧ from_ ≤ p ∧ p < (n + 63) / 64 * 64 ∧ turned W turn p = true ∧ ∀ q, from_ ≤ q → q < p → turned W turn q = false)) := by
  have c0 : w.cell? ⟨gr, 0, none⟩ = some (.int .i64 n) := hr.cell 0
  have c2 : w.cell? ⟨gr, 2, none⟩ = some (.slice (some ⟨gw, 0, none⟩) ((n + 63) / 64) ((n + 63) / 64)) := hr.cell 2
  go_enter Tryz.func209, Tryz.ntmps209
  go_wp2
  · go_loopw [8] (fun v wr => ∃ k : Nat, v = .int .i64 k ∧ from_ / 64 ≤ k ∧ k ≤ (n + 63) / 64 ∧ (∃ q, wr = w.drewN q) ∧ Hd (∀ p, from_ ≤ p → p < k * 64 → turned W turn p = false)) (fun v _ => (n + 63) / 64 - (intOf v).toNat)
    case atStart => exact ⟨from_ / 64, by go_num, Nat.le_refl _, by omega, ⟨0, rfl⟩, ⟨fun p h3 h4 => by omega⟩⟩
    case round =>
      obtain ⟨k, rfl, hk1, hk2, ⟨q, rfl⟩, hP⟩ := hrel
      by_cases hlt : k < (n + 63) / 64
      · have l0 : w.cell? ⟨gw, k, none⟩ = some (.int .u64 (W k)) := by
          have := (hw.cell (k * 1 + 0)).trans (grid_at (sz := 1) (m := (n + 63) / 64) (r := 0) (fun j _ => .int .u64 (W j)) (by omega) (by omega))
          simpa using this
        have hround : ∀ X : Nat, X < 18446744073709551616 → (∀ b, b < 64 → X.testBit b = (decide (from_ ≤ k * 64 + b) && turned W turn (k * 64 + b))) → (X = 0 → Hd (∀ p, from_ ≤ p → p < (k + 1) * 64 → turned W turn p = false)) ∧
            (X ≠ 0 → Hd (from_ ≤ k * 64 + Lib.ctz 64 X ∧ turned W turn (k * 64 + Lib.ctz 64 X) = true ∧ ∀ r, from_ ≤ r → r < k * 64 + Lib.ctz 64 X → turned W turn r = false) ∧ Lib.ctz 64 X < 64) := by
          intro X hX hb
          refine ⟨fun h0 => ⟨fun p h3 h4 => ?_⟩, fun h0 => ?_⟩
          · by_cases h5 : p < k * 64
            · exact hP.out p h3 h5
            · have h6 := hb (p - k * 64) (by omega)
              rw [show k * 64 + (p - k * 64) = p by omega, h0] at h6
              simpa [h3] using h6.symm
          · obtain ⟨c1, c2, c3⟩ := ctz_spec X h0 hX
            have h6 := hb _ c2
            rw [c1] at h6
            have h7 := h6.symm
            simp only [Bool.and_eq_true, decide_eq_true_eq] at h7
            refine ⟨⟨h7.1, h7.2, fun r h8 h9 => ?_⟩, c2⟩
            by_cases h5 : r < k * 64
            · exact hP.out r h8 h5
            · have h10 := hb (r - k * 64) (by omega)
              rw [show k * 64 + (r - k * 64) = r by omega, c3 _ (by omega)] at h10
              simpa [h8] using h10.symm
        have HR := Hd.mk hround; clear hround
        have hWk := hlt0 k
        by_cases hkf : k = from_ / 64
        · obtain ⟨X, hX, hXe, hXb⟩ := seek_mask (W k) turn (from_ % 64) hWk hturn (by omega)
          have h3 := HR.out X hX (fun b hb => by rw [hXb b hb, turned_at _ _ _ _ hb]; congr 1; simp <;> omega)
          have HXb := Hd.mk hXb; clear hXb
          have ht : ((k : Int) == (from_ : Int) / 64) = true := by simp; omega
          have HK := Hd.mk hkf; clear hkf
          by_cases hX0 : X = 0
          · have h4 := h3.1 hX0
            have hz : ((X : Int) == 0) = true := by simp; omega
            have HZ := Hd.mk hX0; clear hX0
            have H3 := Hd.mk h3; clear h3
            go_wp2_with fail
            exact ⟨⟨k + 1, by go_num, by omega, by omega, ⟨q, rfl⟩, h4⟩, by simp [intOf]; omega⟩
          · have h4 := (h3.2 hX0).1
            have h5 := (h3.2 hX0).2
            have hz : ((X : Int) == 0) = false := by simp; omega
            have H3 := Hd.mk h3; clear h3
            go_wp2_with fail
            refine (tz64 X hX hX0 (w.drewN q) (hT.drewN q)).mono ?_
            rintro e w' ⟨rfl, rfl⟩
            go_wp2_with fail
            go_quiet (fail)
            go_wp2
            go_ret2
            refine ⟨⟨_, World.drewN_drewN ..⟩, .inr ⟨k * 64 + Lib.ctz 64 X, ?_, h4.out.1, by omega, h4.out.2⟩⟩
            simp; omega
        · obtain ⟨X, hX, hXe, hXb⟩ := seek_xor (W k) turn hWk hturn
          have h3 := HR.out X hX (fun b hb => by rw [hXb b hb, turned_at _ _ _ _ hb]; simp <;> omega)
          have HXb := Hd.mk hXb; clear hXb
          have ht : ((k : Int) == (from_ : Int) / 64) = false := by simp; omega
          have HK := Hd.mk hkf; clear hkf
          by_cases hX0 : X = 0
          · have h4 := h3.1 hX0
            have hz : ((X : Int) == 0) = true := by simp; omega
            have HZ := Hd.mk hX0; clear hX0
            have H3 := Hd.mk h3; clear h3
            go_wp2_with fail
            exact ⟨⟨k + 1, by go_num, by omega, by omega, ⟨q, rfl⟩, h4⟩, by simp [intOf]; omega⟩
          · have h4 := (h3.2 hX0).1
            have h5 := (h3.2 hX0).2
            have hz : ((X : Int) == 0) = false := by simp; omega
            have H3 := Hd.mk h3; clear h3
            go_wp2_with fail
            refine (tz64 X hX hX0 (w.drewN q) (hT.drewN q)).mono ?_
            rintro e w' ⟨rfl, rfl⟩
            go_wp2_with fail
            go_quiet (fail)
            go_wp2
            go_ret2
            refine ⟨⟨_, World.drewN_drewN ..⟩, .inr ⟨k * 64 + Lib.ctz 64 X, ?_, h4.out.1, by omega, h4.out.2⟩⟩
            simp; omega
      · have hkk : k = (n + 63) / 64 := by omega
        go_wp2
        go_ret2
        exact ⟨⟨q, rfl⟩, .inl ⟨rfl, fun p h3 h4 => hP.out p h3 (by omega)⟩⟩


theorem row_seek_zero {w : World} {gr gw n : Nat} (W : Nat → Nat) (cnt : Int) (hlt0 : ∀ j, W j < 18446744073709551616) (turn : Nat) (hturn : turn < 18446744073709551616)
    (hr : Blk w gr 238 #[.int .i64 n, .int .i64 cnt, .slice (some ⟨gw, 0, none⟩) ((n + 63) / 64) ((n + 63) / 64)]) (hw : Blk w gw 101 (wgrid ((n + 63) / 64) W)) (h1 : 5 ≤ n) (h2 : n ≤ 65536)
    (hT : Tab w) :
    Calls Tryz.prog 209 #[.pointer (some ⟨gr, 0, none⟩), .int .i64 0, .int .u64 turn] w fun e w' => (∃ q, w' = w.drewN q) ∧
      ((e = .returned (.tuple #[.int .i64 0, .bool false]) ∧ ∀ p, 0 ≤ p → p < (n + 63) / 64 * 64 → turned W turn p = false) ∨
       (∃ p, e = .returned (.tuple #[.int .i64 (p : Nat), .bool (decide (p < n))]) ∧ 0 ≤ p ∧ p < (n + 63) / 64 * 64 ∧ turned W turn p = true ∧ ∀ q, 0 ≤ q → q < p → turned W turn q = false)) := by
  have c0 : w.cell? ⟨gr, 0, none⟩ = some (.int .i64 n) := hr.cell 0
  have c2 : w.cell? ⟨gr, 2, none⟩ = some (.slice (some ⟨gw, 0, none⟩) ((n + 63) / 64) ((n + 63) / 64)) := hr.cell 2
  go_enter Tryz.func209, Tryz.ntmps209
  go_wp2
  · go_loopw [8] (fun v wr => ∃ k : Nat, v = .int .i64 k ∧ k ≤ (n + 63) / 64 ∧ (∃ q, wr = w.drewN q) ∧ Hd (∀ p, 0 ≤ p → p < k * 64 → turned W turn p = false)) (fun v _ => (n + 63) / 64 - (intOf v).toNat)
    case atStart => exact ⟨0, by go_num, by omega, ⟨0, rfl⟩, ⟨fun p h3 h4 => by omega⟩⟩
    case round =>
      obtain ⟨k, rfl, hk2, ⟨q, rfl⟩, hP⟩ := hrel
      by_cases hlt : k < (n + 63) / 64
      · have l0 : w.cell? ⟨gw, k, none⟩ = some (.int .u64 (W k)) := by
          have := (hw.cell (k * 1 + 0)).trans (grid_at (sz := 1) (m := (n + 63) / 64) (r := 0) (fun j _ => .int .u64 (W j)) (by omega) (by omega))
          simpa using this
        have hround : ∀ X : Nat, X < 18446744073709551616 → (∀ b, b < 64 → X.testBit b = (decide (0 ≤ k * 64 + b) && turned W turn (k * 64 + b))) → (X = 0 → Hd (∀ p, 0 ≤ p → p < (k + 1) * 64 → turned W turn p = false)) ∧
            (X ≠ 0 → Hd (0 ≤ k * 64 + Lib.ctz 64 X ∧ turned W turn (k * 64 + Lib.ctz 64 X) = true ∧ ∀ r, 0 ≤ r → r < k * 64 + Lib.ctz 64 X → turned W turn r = false) ∧ Lib.ctz 64 X < 64) := by
          intro X hX hb
          refine ⟨fun h0 => ⟨fun p h3 h4 => ?_⟩, fun h0 => ?_⟩
          · by_cases h5 : p < k * 64
            · exact hP.out p h3 h5
            · have h6 := hb (p - k * 64) (by omega)
              rw [show k * 64 + (p - k * 64) = p by omega, h0] at h6
              simpa [h3] using h6.symm
          · obtain ⟨c1, c2, c3⟩ := ctz_spec X h0 hX
            have h6 := hb _ c2
            rw [c1] at h6
            have h7 := h6.symm
            simp only [Bool.and_eq_true, decide_eq_true_eq] at h7
            refine ⟨⟨h7.1, h7.2, fun r h8 h9 => ?_⟩, c2⟩
            by_cases h5 : r < k * 64
            · exact hP.out r h8 h5
            · have h10 := hb (r - k * 64) (by omega)
              rw [show k * 64 + (r - k * 64) = r by omega, c3 _ (by omega)] at h10
              simpa [h8] using h10.symm
        have HR := Hd.mk hround; clear hround
        have hWk := hlt0 k
        by_cases hkf : k = 0
        · obtain ⟨X, hX, hXe, hXb⟩ := seek_mask (W k) turn 0 hWk hturn (by omega)
          rw [show IntKind.u64.wrap (18446744073709551615 * 2 ^ 0) = 18446744073709551615 by decide] at hXe
          have h3 := HR.out X hX (fun b hb => by rw [hXb b hb, turned_at _ _ _ _ hb]; simp)
          have HXb := Hd.mk hXb; clear hXb
          have ht : ((k : Int) == 0) = true := by simp; omega
          have HK := Hd.mk hkf; clear hkf
          by_cases hX0 : X = 0
          · have h4 := h3.1 hX0
            have hz : ((X : Int) == 0) = true := by simp; omega
            have HZ := Hd.mk hX0; clear hX0
            have H3 := Hd.mk h3; clear h3
            go_wp2_with fail
            exact ⟨⟨k + 1, by go_num, by omega, ⟨q, rfl⟩, h4⟩, by simp [intOf]; omega⟩
          · have h4 := (h3.2 hX0).1
            have h5 := (h3.2 hX0).2
            have hz : ((X : Int) == 0) = false := by simp; omega
            have H3 := Hd.mk h3; clear h3
            go_wp2_with fail
            refine (tz64 X hX hX0 (w.drewN q) (hT.drewN q)).mono ?_
            rintro e w' ⟨rfl, rfl⟩
            go_wp2_with fail
            go_quiet (fail)
            go_wp2
            go_ret2
            refine ⟨⟨_, World.drewN_drewN ..⟩, .inr ⟨k * 64 + Lib.ctz 64 X, ?_, h4.out.1, by omega, h4.out.2⟩⟩
            simp; omega
        · obtain ⟨X, hX, hXe, hXb⟩ := seek_xor (W k) turn hWk hturn
          have h3 := HR.out X hX (fun b hb => by rw [hXb b hb, turned_at _ _ _ _ hb]; simp <;> omega)
          have HXb := Hd.mk hXb; clear hXb
          have ht : ((k : Int) == 0) = false := by simp; omega
          have HK := Hd.mk hkf; clear hkf
          by_cases hX0 : X = 0
          · have h4 := h3.1 hX0
            have hz : ((X : Int) == 0) = true := by simp; omega
            have HZ := Hd.mk hX0; clear hX0
            have H3 := Hd.mk h3; clear h3
            go_wp2_with fail
            exact ⟨⟨k + 1, by go_num, by omega, ⟨q, rfl⟩, h4⟩, by simp [intOf]; omega⟩
          · have h4 := (h3.2 hX0).1
            have h5 := (h3.2 hX0).2
            have hz : ((X : Int) == 0) = false := by simp; omega
            have H3 := Hd.mk h3; clear h3
            go_wp2_with fail
            refine (tz64 X hX hX0 (w.drewN q) (hT.drewN q)).mono ?_
            rintro e w' ⟨rfl, rfl⟩
            go_wp2_with fail
            go_quiet (fail)
            go_wp2
            go_ret2
            refine ⟨⟨_, World.drewN_drewN ..⟩, .inr ⟨k * 64 + Lib.ctz 64 X, ?_, h4.out.1, by omega, h4.out.2⟩⟩
            simp; omega
      · have hkk : k = (n + 63) / 64 := by omega
        go_wp2
        go_ret2
        exact ⟨⟨q, rfl⟩, .inl ⟨rfl, fun p h3 h4 => hP.out p h3 (by omega)⟩⟩


end Go.Proofs.Sg
