/- The row of places: the first free place, and the next taken one. -/
import Derived.Test.YthkbpcnbnhiefaaGreatDoorProg
import Derived.Test.YthkbpcnbnhiefaaGreatDoorMem
import Derived.Test.YthkbpcnbnhiefaaGreatDoorBits
import Derived.Test.YthkbpcnbnhiefaaGreatDoorTz
import Derived.Test.YthkbpcnbnhiefaaGreatDoorSeek0
import Derived.WalkKit
import Derived.Handy
namespace Go.Proofs.Sg
open Go.RowKit

theorem turned_zero {n : Nat} {H : Nat → Bool} {W : Nat → Nat} (h : Digits n H W) (p : Nat) : turned W 0 p = (decide (p < n) && H p) := by
  unfold turned
  rw [Nat.xor_zero, h.bit _ _ (by omega), show p / 64 * 64 + p % 64 = p by omega]
theorem turned_ones {n : Nat} {H : Nat → Bool} {W : Nat → Nat} (h : Digits n H W) (p : Nat) : turned W 18446744073709551615 p = !(decide (p < n) && H p) := by
  unfold turned
  rw [Nat.testBit_xor, h.bit _ _ (by omega), show p / 64 * 64 + p % 64 = p by omega, show 18446744073709551615 = 2 ^ 64 - 1 from rfl, Nat.testBit_two_pow_sub_one]
  simp [show p % 64 < 64 by omega]

theorem row_seek {w : World} {gr gw n : Nat} (W : Nat → Nat) (cnt : Int) (hlt0 : ∀ j, W j < 18446744073709551616) (from_ turn : Nat) (hturn : turn < 18446744073709551616)
    (hr : Blk w gr 238 #[.int .i64 n, .int .i64 cnt, .slice (some ⟨gw, 0, none⟩) ((n + 63) / 64) ((n + 63) / 64)]) (hw : Blk w gw 101 (wgrid ((n + 63) / 64) W)) (h1 : 5 ≤ n) (h2 : n ≤ 65536)
    (hf : from_ < n) (hT : Tab w) :
    Calls Tryz.prog 209 #[.pointer (some ⟨gr, 0, none⟩), .int .i64 from_, .int .u64 turn] w fun e w' => (∃ q, w' = w.drewN q) ∧
      ((e = .returned (.tuple #[.int .i64 0, .bool false]) ∧ ∀ p, from_ ≤ p → p < (n + 63) / 64 * 64 → turned W turn p = false) ∨
       (∃ p, e = .returned (.tuple #[.int .i64 (p : Nat), .bool (decide (p < n))]) ∧ from_ ≤ p ∧ p < (n + 63) / 64 * 64 ∧ turned W turn p = true ∧ ∀ q, from_ ≤ q → q < p → turned W turn q = false)) := by
  rcases Nat.eq_zero_or_pos from_ with h0 | h0
  · subst h0
    exact row_seek_zero W cnt hlt0 turn hturn hr hw h1 h2 hT
  · exact row_seek_pos W cnt hlt0 from_ turn hturn hr hw h1 h2 h0 hf hT

/-- What is sought among the places of a kind: the first one from a place on. -/
def Sought (n from_ : Nat) (is : Nat → Bool) (e : Ending) : Prop :=
  (∃ p : Nat, e = .returned (.tuple #[.int .i64 (p : Nat), .bool true]) ∧ from_ ≤ p ∧ p < n ∧ is p = true ∧ ∀ q, from_ ≤ q → q < p → is q = false) ∨
  (e = .returned (.tuple #[.int .i64 0, .bool false]) ∧ ∀ q, from_ ≤ q → q < n → is q = false)

theorem told_yes (i : Nat) (w : World) : Calls Tryz.prog 208 #[.int .i64 i, .bool true] w fun e w' => e = .returned (.tuple #[.int .i64 i, .bool true]) ∧ w = w' := by
  go_enter Tryz.func208, Tryz.ntmps208
  go_wp2
  go_ret2
  exact ⟨rfl, rfl⟩
theorem told_no (i : Int) (w : World) : Calls Tryz.prog 208 #[.int .i64 i, .bool false] w fun e w' => e = .returned (.tuple #[.int .i64 0, .bool false]) ∧ w = w' := by
  go_enter Tryz.func208, Tryz.ntmps208
  go_wp2
  go_ret2
  exact ⟨rfl, rfl⟩

theorem row_free {w : World} {gr gw n : Nat} {H : Nat → Bool} (h : IsRow w gr gw n H) (hT : Tab w) (from_ : Nat) (hf : from_ < n) :
    Calls Tryz.prog 210 #[.pointer (some ⟨gr, 0, none⟩), .int .i64 from_] w fun e w' => (∃ q, w' = w.drewN q) ∧ Sought n from_ (fun p => !H p) e := by
  have h0 := h
  obtain ⟨W, hr, hw, hd, h1, h2⟩ := h
  have hs := row_seek W _ hd.lt from_ 18446744073709551615 (by omega) hr hw h1 h2 hf hT
  have hx : ∀ p, turned W 18446744073709551615 p = !(decide (p < n) && H p) := turned_ones hd
  generalize turned W 18446744073709551615 = t at hs hx
  have HS := Hd.mk hs; clear hs
  have HX := Hd.mk hx; clear hx
  have hn0 : ((n : Int) == 0) = false := by simp; omega
  have hn1 : decide (n ≤ from_) = false := by simp; omega
  go_enter Tryz.func210, Tryz.ntmps210
  go_wp2_with fail
  refine (row_len h0).mono ?_
  rintro e w' ⟨rfl, rfl⟩
  go_wp2_with fail
  refine (row_len h0).mono ?_
  rintro e w' ⟨rfl, rfl⟩
  go_wp2_with fail
  refine HS.out.mono ?_
  rintro e w' ⟨⟨q, rfl⟩, ⟨rfl, hn⟩ | ⟨p, rfl, hp1, hp2, hp3, hp4⟩⟩
  · have HN := Hd.mk hn; clear hn
    go_wp2_with fail
    refine (told_no _ _).mono ?_
    rintro e w' ⟨rfl, rfl⟩
    go_wp2_with fail
    go_ret2
    refine ⟨⟨q, rfl⟩, .inr ⟨rfl, fun r h3 h4 => ?_⟩⟩
    have := HN.out r h3 (by omega)
    rw [HX.out] at this
    simpa [h4] using this
  · have HP := Hd.mk hp4; clear hp4
    have hp3' := hp3
    rw [HX.out] at hp3'
    have HQ := Hd.mk hp3'; clear hp3 hp3'
    by_cases hpn : p < n
    · have hd : decide (p < n) = true := by simpa using hpn
      go_wp2_with fail
      refine (told_yes p _).mono ?_
      rintro e w' ⟨rfl, rfl⟩
      go_wp2_with fail
      go_ret2
      refine ⟨⟨q, rfl⟩, .inl ⟨p, rfl, hp1, hpn, by simpa [hpn] using HQ.out, fun r h3 h4 => ?_⟩⟩
      have := HP.out r h3 h4
      rw [HX.out] at this
      simpa [show r < n by omega] using this
    · have hd : decide (p < n) = false := by simpa using hpn
      go_wp2_with fail
      refine (told_no p _).mono ?_
      rintro e w' ⟨rfl, rfl⟩
      go_wp2_with fail
      go_ret2
      refine ⟨⟨q, rfl⟩, .inr ⟨rfl, fun r h3 h4 => ?_⟩⟩
      have := HP.out r h3 (by omega)
      rw [HX.out] at this
      simpa [h4] using this

theorem row_next {w : World} {gr gw n : Nat} {H : Nat → Bool} (h : IsRow w gr gw n H) (hT : Tab w) (from_ : Nat) (hf : from_ < n) :
    Calls Tryz.prog 159 #[.pointer (some ⟨gr, 0, none⟩), .int .i64 from_] w fun e w' => (∃ q, w' = w.drewN q) ∧ Sought n from_ H e := by
  have h0 := h
  obtain ⟨W, hr, hw, hd, h1, h2⟩ := h
  have hs := row_seek W _ hd.lt from_ 0 (by omega) hr hw h1 h2 hf hT
  have hx : ∀ p, turned W 0 p = (decide (p < n) && H p) := turned_zero hd
  generalize turned W 0 = t at hs hx
  have HS := Hd.mk hs; clear hs
  have HX := Hd.mk hx; clear hx
  have hn0 : ((n : Int) == 0) = false := by simp; omega
  have hn1 : decide (n ≤ from_) = false := by simp; omega
  go_enter Tryz.func159, Tryz.ntmps159
  go_wp2_with fail
  refine (row_len h0).mono ?_
  rintro e w' ⟨rfl, rfl⟩
  go_wp2_with fail
  refine (row_len h0).mono ?_
  rintro e w' ⟨rfl, rfl⟩
  go_wp2_with fail
  refine HS.out.mono ?_
  rintro e w' ⟨⟨q, rfl⟩, ⟨rfl, hn⟩ | ⟨p, rfl, hp1, hp2, hp3, hp4⟩⟩
  · have HN := Hd.mk hn; clear hn
    go_wp2_with fail
    refine (told_no _ _).mono ?_
    rintro e w' ⟨rfl, rfl⟩
    go_wp2_with fail
    go_ret2
    refine ⟨⟨q, rfl⟩, .inr ⟨rfl, fun r h3 h4 => ?_⟩⟩
    have := HN.out r h3 (by omega)
    rw [HX.out] at this
    simpa [h4] using this
  · have HP := Hd.mk hp4; clear hp4
    have hp3' := hp3
    rw [HX.out] at hp3'
    have hpn : p < n := by
      simp only [Bool.and_eq_true, decide_eq_true_eq] at hp3'; exact hp3'.1
    have HQ := Hd.mk hp3'; clear hp3 hp3'
    have hd : decide (p < n) = true := by simpa using hpn
    go_wp2_with fail
    refine (told_yes p _).mono ?_
    rintro e w' ⟨rfl, rfl⟩
    go_wp2_with fail
    go_ret2
    refine ⟨⟨q, rfl⟩, .inl ⟨p, rfl, hp1, hpn, by simpa [hpn] using HQ.out, fun r h3 h4 => ?_⟩⟩
    have := HP.out r h3 h4
    rw [HX.out] at this
    simpa [show r < n by omega] using this

theorem row_next_end {w : World} {gr gw n : Nat} {H : Nat → Bool} (h : IsRow w gr gw n H) (from_ : Nat) (hf : n ≤ from_) :
    Calls Tryz.prog 159 #[.pointer (some ⟨gr, 0, none⟩), .int .i64 from_] w fun e w' => e = .returned (.tuple #[.int .i64 0, .bool false]) ∧ w = w' := by
  have h0 := h
  obtain ⟨W, hr, hw, hd, h1, h2⟩ := h
  have hn0 : ((n : Int) == 0) = false := by simp; omega
  have hn1 : decide (n ≤ from_) = true := by simp; omega
  go_enter Tryz.func159, Tryz.ntmps159
  go_wp2_with fail
  refine (row_len h0).mono ?_
  rintro e w' ⟨rfl, rfl⟩
  go_wp2_with fail
  refine (row_len h0).mono ?_
  rintro e w' ⟨rfl, rfl⟩
  go_wp2_with fail
  go_ret2
  exact ⟨rfl, rfl⟩

end Go.Proofs.Sg
