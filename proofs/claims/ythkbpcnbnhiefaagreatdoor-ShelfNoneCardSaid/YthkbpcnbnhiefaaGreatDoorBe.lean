/- Numbers as bytes of a width; no program. -/
import Derived.Test.YthkbpcnbnhiefaaGreatDoorDev0
namespace Go.Proofs.Sg

def be : Nat → Nat → List UInt8
  | 0, _ => []
  | k + 1, x => be k (x / 256) ++ [UInt8.ofNat x]

@[simp] theorem be_length (k x : Nat) : (be k x).length = k := by
  induction k generalizing x with
  | zero => rfl
  | succ k ih => simp [be, ih]

theorem be_get {k x j : Nat} (h : j < k) : (be k x)[j]? = some (UInt8.ofNat (x / 256 ^ (k - 1 - j))) := by
  induction k generalizing x with
  | zero => omega
  | succ k ih =>
    unfold be
    by_cases hj : j < k
    · rw [List.getElem?_append_left (by simpa using hj), ih hj, Nat.div_div_eq_div_mul]
      congr 3
      rw [show k + 1 - 1 - j = (k - 1 - j) + 1 by omega, Nat.pow_succ, Nat.mul_comm]
    · have : j = k := by omega
      subst this
      rw [List.getElem?_append_right (by simp)]
      simp

/-- One byte more, from the left. -/
theorem be_more {W k x : Nat} (h : k < W) : be (k + 1) (x / 256 ^ (W - (k + 1))) = be k (x / 256 ^ (W - k)) ++ [UInt8.ofNat (x / 256 ^ (W - (k + 1)))] := by
  rw [be]
  congr 2
  rw [Nat.div_div_eq_div_mul]
  congr 1
  rw [show W - k = (W - (k + 1)) + 1 by omega, Nat.pow_succ]

theorem bv_ofNat (x : Nat) : bv (UInt8.ofNat x) = .int .u8 ((x % 256 : Nat) : Int) := by
  unfold bv
  rw [UInt8.toNat_ofNat']

theorem be_zero (k : Nat) : be k 0 = List.replicate k 0 := by
  induction k with
  | zero => rfl
  | succ k ih =>
    rw [be, Nat.zero_div, ih, List.replicate_succ']
    rfl

end Go.Proofs.Sg
