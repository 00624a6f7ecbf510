/- Settings: which are right; both the program's word and the document's. -/
import Derived.Test.YthkbpcnbnhiefaaGreatDoorProg
import Derived.Test.YthkbpcnbnhiefaaGreatDoorMem
import Derived.WalkKit
import Derived.Handy
namespace Go.Proofs.Sg
set_option linter.unusedSimpArgs false
set_option linter.unusedVariables false
open Go.RowKit

structure Cfg where
  blocks : Int
  bytes : Int
  frames : Int
  fan : Int
  buffer : Int
  leaf : Int
  key : Int
  val : Int
  deriving DecidableEq

def Cfg.v (c : Cfg) : Value := .agg #[.int .i64 c.blocks, .int .i64 c.bytes, .int .i64 c.frames, .int .i64 c.fan, .int .i64 c.buffer, .int .i64 c.leaf, .int .i64 c.key, .int .i64 c.val]

def Cfg.Sized (c : Cfg) : Prop := 8 ≤ c.fan ∧ c.fan ≤ 64 ∧ 1 ≤ c.key ∧ c.key ≤ 64 ∧ 0 ≤ c.val ∧ c.val ≤ 256 ∧ 2 * c.fan ≤ c.buffer ∧ c.buffer ≤ 512 ∧ c.buffer ≤ c.leaf ∧ c.leaf ≤ 1024
instance (c : Cfg) : Decidable c.Sized := by unfold Cfg.Sized; infer_instance
def Cfg.inner (c : Cfg) : Int := 8 + 4 * c.fan + (c.fan - 1) * (1 + c.key) + c.buffer * (4 + c.key + c.val)
def Cfg.outer (c : Cfg) : Int := 8 + c.leaf * (3 + c.key + c.val)
def Cfg.Right (c : Cfg) : Prop := c.Sized ∧ 5 ≤ c.blocks ∧ c.blocks ≤ 65536 ∧ 8 ≤ c.frames ∧ c.frames ≤ 64 ∧ 64 ≤ c.bytes ∧ c.bytes ≤ 65536 ∧ c.inner ≤ c.bytes ∧ c.outer ≤ c.bytes
instance (c : Cfg) : Decidable c.Right := by unfold Cfg.Right; infer_instance

/-- Each is an int of 64 bits. -/
def in64 (x : Int) : Prop := -9223372036854775808 ≤ x ∧ x ≤ 9223372036854775807
def Cfg.In (c : Cfg) : Prop := in64 c.blocks ∧ in64 c.bytes ∧ in64 c.frames ∧ in64 c.fan ∧ in64 c.buffer ∧ in64 c.leaf ∧ in64 c.key ∧ in64 c.val

theorem ref9_in {w : World} (a lo hi : Int) : Calls Tryz.prog 106 #[.int .i64 a, .int .i64 lo, .int .i64 hi] w fun e w' => e = .returned (.bool (decide (lo ≤ a ∧ a ≤ hi))) ∧ w = w' := by
  go_enter Tryz.func106, Tryz.ntmps106
  go_wp2
  · go_ret
    refine ⟨?_, rfl⟩
    rename_i h1
    simp [h1]
  · go_ret
    refine ⟨?_, rfl⟩
    rename_i h1
    have : ¬ lo ≤ a := by omega
    simp [this]

theorem conf_sized {w : World} (c : Cfg) (hc : c.In) : Calls Tryz.prog 150 #[c.v] w fun e w' => e = .returned (.bool (decide c.Sized)) ∧ Below w.heap.size w w' := by
  unfold Cfg.v
  go_enter Tryz.func150, Tryz.ntmps150
  go_wp2
  all_goals try (go_ret; exact ⟨by rw [decide_eq_false (show ¬ c.Sized by unfold Cfg.Sized; omega)]; rfl, by go_grown⟩)
  all_goals try (go_ret; exact ⟨by rw [decide_eq_true (show c.Sized by unfold Cfg.Sized; omega)]; rfl, by go_grown⟩)

theorem ref9_sized {w : World} (c : Cfg) (hc : c.In) : Calls Tryz.prog 105 #[c.v] w fun e w' => e = .returned (.bool (decide c.Sized)) ∧ Below w.heap.size w w' := by
  unfold Cfg.v
  go_enter Tryz.func105, Tryz.ntmps105
  go_wp2_with (go_at_call 106; refine (ref9_in _ _ _).mono ?_; rintro e w' ⟨rfl, rfl⟩)
  all_goals go_ret
  all_goals refine ⟨?_, by go_grown⟩
  all_goals show Ending.returned (.bool _) = _
  all_goals congr 2
  all_goals rw [Bool.eq_iff_iff, decide_eq_true_eq (p := c.Sized)]
  all_goals simp only [Bool.not_eq_true', Bool.not_eq_false', decide_eq_true_eq, decide_eq_false_iff_not, Cfg.Sized, Bool.false_eq_true, Bool.and_eq_true, false_iff, and_true, true_and] at *
  all_goals omega


/-- The document's Inner, by its loops. -/
theorem ref9_inner {w : World} (c : Cfg) (hc : c.In) (hs : c.Sized) : Calls Tryz.prog 107 #[c.v] w fun e w' => e = .returned (.int .i64 c.inner) ∧ Below w.heap.size w w' := by
  have h9 := fun w => ref9_sized (w := w) c hc
  obtain ⟨s1, s2, s3, s4, s5, s6, s7, s8, s9, s10⟩ := hs
  rw [decide_eq_true ⟨s1, s2, s3, s4, s5, s6, s7, s8, s9, s10⟩] at h9
  unfold Cfg.v at *
  go_enter Tryz.func107, Tryz.ntmps107
  go_wp2_with (go_at_call 105; refine (h9 _).mono ?_; rintro e w' ⟨rfl, hb⟩)
  have c3 : w'.cell? ⟨w.heap.size, 3, none⟩ = some (.int .i64 c.fan) := (World.cell?_of_block (hb.block _ (by simp))).trans (Blk.cell (Blk.new w _ _) 3)
  have c4 : w'.cell? ⟨w.heap.size, 4, none⟩ = some (.int .i64 c.buffer) := (World.cell?_of_block (hb.block _ (by simp))).trans (Blk.cell (Blk.new w _ _) 4)
  have c6 : w'.cell? ⟨w.heap.size, 6, none⟩ = some (.int .i64 c.key) := (World.cell?_of_block (hb.block _ (by simp))).trans (Blk.cell (Blk.new w _ _) 6)
  have c7 : w'.cell? ⟨w.heap.size, 7, none⟩ = some (.int .i64 c.val) := (World.cell?_of_block (hb.block _ (by simp))).trans (Blk.cell (Blk.new w _ _) 7)
  have B0 : Hd (Below w.heap.size w w') := ⟨(((Below.refl _ w).alloc (Nat.le_refl _) _).trans (hb.mono (by simp)))⟩
  clear hb
  go_loopw [3, 4] (fun v3 v4 wr => ∃ (k : Nat) (x : Int), v3 = .int .i64 x ∧ v4 = .int .i64 k ∧ (k : Int) ≤ c.fan ∧ 0 ≤ x ∧ x ≤ 8 + k * 69 ∧ Hd (x = if k = 0 then 8 else 8 + 4 * k + ((k : Int) - 1) * (1 + c.key)) ∧ w' = wr) (fun _ v4 _ => (c.fan).toNat - (intOf v4).toNat)
  case atStart => exact ⟨0, 8, by go_num, by go_num, by omega, by omega, by omega, ⟨rfl⟩, rfl⟩
  case round =>
    obtain ⟨k, x, rfl, rfl, hk, hx0, hx1, hx, rfl⟩ := hrel
    by_cases hlt : (k : Int) < c.fan
    · by_cases hk0 : k = 0
      · subst hk0
        go_wp2_with fail
        refine ⟨⟨1, x + 4, by go_num, by go_num, by omega, by omega, by omega, ⟨?_⟩, trivial⟩, by simp [intOf]; omega⟩
        rw [hx.out]; simp
      · go_wp2_with fail
        refine ⟨⟨k + 1, x + 4 + 1 + c.key, by go_num, by go_num, by omega, by omega, by omega, ⟨?_⟩, trivial⟩, by simp [intOf]; omega⟩
        rw [hx.out, if_neg hk0, if_neg (by omega)]
        have e : ((k + 1 : Nat) : Int) - 1 = ((k : Int) - 1) + 1 := by omega
        rw [e, Int.add_mul, Int.one_mul]
        push_cast
        omega
    · have hkf : (k : Int) = c.fan := by omega
      have hy : Hd (x = 8 + 4 * c.fan + (c.fan - 1) * (1 + c.key)) := ⟨by rw [hx.out, if_neg (by omega), hkf]⟩
      have hxb : x ≤ 4424 := by omega
      clear hx hx1
      go_wp2_with fail
      go_loopw [3, 5] (fun v3 v5 wr => ∃ (j : Nat) (y : Int), v3 = .int .i64 y ∧ v5 = .int .i64 j ∧ (j : Int) ≤ c.buffer ∧ 0 ≤ y ∧ y ≤ 4424 + j * 324 ∧ Hd (y = x + j * (4 + c.key + c.val)) ∧ w' = wr) (fun _ v5 _ => (c.buffer).toNat - (intOf v5).toNat)
      case atStart => exact ⟨0, x, by go_num, by go_num, by omega, by omega, by omega, ⟨by simp⟩, rfl⟩
      case round =>
        obtain ⟨j, y, rfl, rfl, hj, hy0, hy1, hye, rfl⟩ := hrel
        by_cases hlt2 : (j : Int) < c.buffer
        · go_wp2_with fail
          refine ⟨⟨j + 1, y + 4 + c.key + c.val, by go_num, by go_num, by omega, by omega, by omega, ⟨?_⟩, trivial⟩, by simp [intOf]; omega⟩
          rw [hye.out]
          push_cast
          rw [Int.add_mul, Int.one_mul]
          omega
        · go_wp2_with fail
          go_ret
          refine ⟨?_, B0.out⟩
          have : (j : Int) = c.buffer := by omega
          rw [hye.out, hy.out, this]
          rfl

end Go.Proofs.Sg
