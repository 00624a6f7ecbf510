/- slices.Clone, of bytes, numbers, texts, messages and pairs. -/
import Derived.Test.YthkbpcnbnhiefaaGreatDoorProg
import Derived.Test.YthkbpcnbnhiefaaGreatDoorMem
import Derived.Test.YthkbpcnbnhiefaaGreatDoorDev0
import Derived.WalkKit
import Derived.Lib.Walk
import Derived.Lib.SliceRun
import Derived.WalkSpells
namespace Go.Proofs.Sg
open Go.RowKit Go.Lib

theorem info_parts' {P : Program} {e : TypeId} {z : Value} {size bytes : Nat} (h : (P.info? e).map (fun i => (i.zero, i.size, i.bytes)) = some (some z, size, bytes)) : ∃ i0, P.info? e = some i0 ∧ i0.zero = some z ∧ i0.size = size ∧ i0.bytes = bytes := by
  obtain ⟨i0, h1, h2⟩ := Option.map_eq_some_iff.1 h
  simp only [Prod.mk.injEq] at h2
  exact ⟨i0, h1, h2.1, h2.2.1, h2.2.2⟩

/-- What an owned row is, not nil: its block, new, and its first cells. -/
theorem own_at {w0 w : World} {e size n : Nat} {v : Value} {xs : List Value} (h : w.ownsRow w0.heap.size e size v n xs) (hne : v ≠ .slice none 0 0) :
    ∃ g c, v = .slice (some ⟨g, 0, none⟩) n c ∧ w0.heap.size ≤ g ∧ g < w.heap.size ∧ n ≤ c ∧ (∃ cs, Blk w g e cs) ∧ (∀ k, w.frozen? ⟨g, k, none⟩ = false) ∧ ∀ j, j < xs.length → w.cell? ⟨g, j, none⟩ = xs[j]? := by
  have h0 := h
  rcases h.2 with ⟨rfl, _⟩ | ⟨g, cap, cur, rfl, hb, hh, hnc, h5⟩
  · exact absurd rfl hne
  · have hlt : g < w.heap.size := (Array.getElem?_eq_some_iff.1 hh).1
    refine ⟨g, cap, rfl, hb, hlt, ?_, ⟨_, hh⟩, fun k => Blk.frozen hh k, fun j hj => ?_⟩
    · omega
    · have := h0.cells (g := g) rfl j xs[j] (List.getElem?_eq_getElem hj)
      have e : (⟨g, 0, none⟩ : Addr).add j = ⟨g, j, none⟩ := by unfold Addr.add; split <;> simp_all
      rw [e] at this
      rw [this, List.getElem?_eq_getElem hj]

theorem own_at_ne {w : World} {base e size n : Nat} {v : Value} {xs : List Value} (h : w.ownsRow base e size v n xs) (hne : xs ≠ []) :
    ∃ g c, v = .slice (some ⟨g, 0, none⟩) n c ∧ base ≤ g ∧ g < w.heap.size ∧ n ≤ c ∧ (∃ cs, Blk w g e cs) ∧ ∀ j, j < xs.length → w.cell? ⟨g, j, none⟩ = xs[j]? := by
  have h0 := h
  rcases h.2 with ⟨rfl, h1⟩ | ⟨g, cap, cur, rfl, hb, hh, hnc, h5⟩
  · exact absurd (List.eq_nil_of_length_eq_zero (by rw [h.1, h1, Nat.zero_mul])) hne
  · have hlt : g < w.heap.size := (Array.getElem?_eq_some_iff.1 hh).1
    refine ⟨g, cap, rfl, hb, hlt, ?_, ⟨_, hh⟩, fun j hj => ?_⟩
    · omega
    · have := h0.cells (g := g) rfl j xs[j] (List.getElem?_eq_getElem hj)
      have e : (⟨g, 0, none⟩ : Addr).add j = ⟨g, j, none⟩ := by unfold Addr.add; split <;> simp_all
      rw [e] at this
      rw [this, List.getElem?_eq_getElem hj]

theorem Tryz.infoU8 : (Tryz.prog.info? 5).map (fun i => (i.zero, i.size, i.bytes)) = some (some (.int .u8 0), 1, 1) := by kernel_rfl

set_option maxHeartbeats 1000000 in
theorem clone_u8 {w : World} (b off n c : Nat) (news : List Value) (hl : news.length = n) (hbig : n ≤ 140737488355328)
    (hc : ∀ j, j < n → w.cell? ⟨b, off + j, none⟩ = news[j]?) (h1 : ∀ u ∈ news, u.oneCell' = true) :
    Calls Tryz.prog 86 #[.slice (some ⟨b, off, none⟩) n c] w fun e w' => ∃ v', e = .returned v' ∧ w'.ownsRow w.heap.size 5 1 v' n news ∧ v' ≠ .slice none 0 0 ∧ Below w.heap.size w w' := by
  obtain ⟨i0, hi, hz0, hz1, hz2⟩ := info_parts' Tryz.infoU8
  have q22 : ∀ (w : World) (a : Option Addr) (n c n' c' : Nat), (binOp .eql 26 (.slice a n c) (.slice none n' c')).run Tryz.prog w = .ok (.bool a.isNone) w := fun w a n c n' c' => Lib.run_eql_slice_nil w _ _ a n c n' c' Tryz.underlying26
  have A : Hd (∀ j, j < n → w.cell? ⟨b, off + j, none⟩ = news[j]?) := ⟨hc⟩
  clear hc
  go_enter Tryz.func86, Tryz.ntmps86
  go_wp2_with (at_builtin; refine wpList_append_own _ rfl _ _ 26 rfl w.heap.size 5 i0 (.int .u8 0) 1 1 Tryz.underlying26 hi hz0 hz1 hz2 rfl (by decide) _ _ _ rfl (World.ownsRow_made w #[] 0 (Nat.le_refl _) (Nat.zero_le _) (by simp)) ⟨b, off, none⟩ n c news rfl ?qc1 ?qc2 ?qc3 ?qc4 ?qc5 ?qc6 ?_)
  case qc1 => simpa using hl
  case qc2 =>
    intro j u hj
    rw [Addr.add_lit]
    have hjl : j < n := by rw [← hl]; exact (List.getElem?_eq_some_iff.1 hj).1
    exact Lib.cell?_alloc_some _ ((A.out j hjl).trans hj)
  case qc3 => exact h1
  case qc4 => rw [Nat.zero_add]; unfold maxLen; omega
  case qc5 => rw [Nat.zero_add]; omega
  case qc6 => simp
  intro v' w1 hown hgrow hnil
  go_wp2
  go_ret
  refine ⟨v', rfl, by simpa using hown, ?_, ?_⟩
  · exact hnil
  · exact ((Below.refl _ w).alloc (Nat.le_refl _) _).grown hgrow (by simp) (by intro k hk; simp [Value.ownBlock] at hk; omega)


theorem clone_bytes {w : World} {b off : Nat} {xs : List UInt8} (h : BytesAt w b off xs) (c : Nat) (hbig : xs.length ≤ 140737488355328) :
    Calls Tryz.prog 86 #[.slice (some ⟨b, off, none⟩) xs.length c] w fun e w' => ∃ g c', e = .returned (.slice (some ⟨g, 0, none⟩) xs.length c') ∧ w.heap.size ≤ g ∧ g < w'.heap.size ∧ xs.length ≤ c' ∧ (∃ cs, Blk w' g 5 cs) ∧ BytesAt w' g 0 xs ∧ Below w.heap.size w w' := by
  refine (clone_u8 b off xs.length c (xs.map bv) (by simp) hbig (fun j hj => ?_) (fun u hu => ?_)).mono ?_
  · rw [h j hj]; simp [hj]
  · obtain ⟨x, _, rfl⟩ := List.mem_map.1 hu; rfl
  · rintro e w' ⟨v, rfl, hown, hne, hb⟩
    obtain ⟨g, c', rfl, h1, h2, h3, h4, _, h6⟩ := own_at hown hne
    refine ⟨g, c', rfl, h1, h2, h3, h4, fun j hj => ?_, hb⟩
    rw [Nat.zero_add, h6 j (by simpa using hj)]; simp [hj]

end Go.Proofs.Sg
