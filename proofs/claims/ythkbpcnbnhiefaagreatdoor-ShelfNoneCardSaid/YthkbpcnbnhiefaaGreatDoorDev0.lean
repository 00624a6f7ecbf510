/- Bytes in memory, and a device: words. -/
import Derived.Test.YthkbpcnbnhiefaaGreatDoorProg
import Derived.Test.YthkbpcnbnhiefaaGreatDoorMem
import Derived.WalkKit
import Derived.Deep.QuietTactic
import Derived.BigQuiet
namespace Go.Proofs.Sg
open Go.RowKit

/-- A value of a byte. -/
abbrev bv (b : UInt8) : Value := .int .u8 b.toNat

/-- The cells of a block from a place on are these bytes. -/
def BytesAt (w : World) (b off : Nat) (xs : List UInt8) : Prop := ∀ j, j < xs.length → w.cell? ⟨b, off + j, none⟩ = some (bv (xs.getD j 0))
theorem BytesAt.keep {w w' : World} {b off : Nat} {xs : List UInt8} (h : BytesAt w b off xs) (e : w'.heap[b]? = w.heap[b]?) : BytesAt w' b off xs := fun j hj => (World.cell?_of_block e).trans (h j hj)

/-- All blocks' bytes, one behind the other. -/
def dgrid (bytes blocks : Nat) (D : Nat → List UInt8) : Array Value := grid bytes blocks fun i j => bv ((D i).getD j 0)
def updD (D : Nat → List UInt8) (i : Nat) (bs : List UInt8) : Nat → List UInt8 := fun j => if j = i then bs else D j
theorem dgrid_row {bytes blocks i : Nat} (D : Nat → List UInt8) (hi : i < blocks) (bs : List UInt8) (hl : bs.length = bytes) :
    ((dgrid bytes blocks D).toList.take (i * bytes) ++ (bs.map bv ++ (dgrid bytes blocks D).toList.drop (i * bytes + (bs.map bv).length))).toArray = dgrid bytes blocks (updD D i bs) := by
  refine (grid_row _ hi (bs.map bv) (by simpa using hl) (fun j => bv (bs.getD j 0)) (fun j hj => by simp [show j < bs.length by omega])).trans ?_
  unfold dgrid
  apply grid_congr
  intro a b _ _
  unfold updD
  by_cases h : a = i <;> simp [h]

/-- A count, as its 64 digits tell it. -/
def u64 (r : Nat) : Int := ((r % 18446744073709551616 : Nat) : Int)
theorem u64_step (r : Nat) : IntKind.u64.wrap (u64 r + 1) = u64 (r + 1) := by unfold u64; rw [IntKind.wrap_u64]; omega

/-- A device's two blocks: its struct, and its image; D: each block's bytes. -/
def IsDev (w : World) (gd gi blocks bytes : Nat) (D : Nat → List UInt8) (r s : Nat) : Prop :=
  Blk w gd 147 #[.int .i64 bytes, .slice (some ⟨gi, 0, none⟩) (blocks * bytes) (blocks * bytes), .int .u64 (u64 r), .int .u64 (u64 s)] ∧
  Blk w gi 5 (dgrid bytes blocks D) ∧ 5 ≤ blocks ∧ blocks ≤ 65536 ∧ 1 ≤ bytes ∧ bytes ≤ 65536 ∧ (∀ i, i < blocks → (D i).length = bytes)

theorem IsDev.bytes_at {w : World} {gd gi blocks bytes : Nat} {D : Nat → List UInt8} {r s : Nat} (h : IsDev w gd gi blocks bytes D r s) {i : Nat} (hi : i < blocks) : BytesAt w gi (i * bytes) (D i) := by
  intro j hj
  obtain ⟨_, hg, _, _, _, _, hD⟩ := h
  rw [hD i hi] at hj
  exact (hg.cell _).trans (grid_at (fun i j => bv ((D i).getD j 0)) hi hj)


end Go.Proofs.Sg
