/- The cache's methods, by what each block's bytes are. -/
import Derived.Test.YthkbpcnbnhiefaaGreatDoorShelf0
namespace Go.Proofs.Sg
open Go.RowKit

section
variable {w w' : World} {G : Ids} {F blocks bytes : Nat} {c : Cs} {P : Nat → Nat} {k : Nat}

theorem keptP_le (k i : Nat) : keptP k i ≤ 1 := by unfold keptP; split <;> omega
theorem upd_back {P : Nat → Nat} {i : Nat} (x : Nat) : upd (upd P i x) i (P i) = P := by
  funext j; unfold upd; split
  · rename_i e; rw [e]
  · rfl
theorem upd_at {P : Nat → Nat} (i x : Nat) : upd P i x i = x := by simp [upd]

theorem cache_pin_any (h : IsCache w G F blocks bytes none c) (hf : Fine (keptP k) c) (hF : 2 ≤ F) (i : Nat) (hi : i < blocks) :
    Calls Tryz.prog 66 #[.pointer (some ⟨G.gc, 0, none⟩), .int .u32 i] w fun e w' => e = .returned (.int .i64 0) ∧ ∃ c', IsCache w' G F blocks bytes none c' ∧ Fine (upd (keptP k) i (keptP k i + 1)) c' ∧
      (∀ j, Cont c' j = Cont c j) ∧ c.r ≤ c'.r ∧ c'.r ≤ c.r + 1 ∧ c.s ≤ c'.s ∧ c'.s ≤ c.s + 1 ∧ (c.at_ i ≠ none → c'.r = c.r ∧ c'.s = c.s) ∧ Keeps (CFoot G) w w' := by
  cases hat : c.at_ i with
  | some f =>
    have hp := hf.pins i f hat
    have hk := keptP_le k i
    refine (cache_pin_in h i f hi hat (by omega)).mono ?_
    rintro e w' ⟨rfl, hc, hk⟩
    obtain ⟨f1, f2⟩ := fine_pinC h.inv hf hat
    exact ⟨rfl, _, hc, f1, f2, Nat.le_refl _, Nat.le_succ _, Nat.le_refl _, Nat.le_succ _, fun _ => ⟨rfl, rfl⟩, hk⟩
  | none =>
    have hz : keptP k i = 0 := by
      rcases Nat.eq_zero_or_pos (keptP k i) with h0 | h0
      · exact h0
      · exact absurd hat (hf.held i (by omega))
    refine (cache_pin_new h i hi hat (room_has h.inv hf hF)).mono ?_
    rintro e w' ⟨rfl, f, c', hr, hc, hk⟩
    obtain ⟨r1, r2, r3, r4, r5, r6, r7⟩ := fine_room h.inv hf hr
    obtain ⟨f1, f2⟩ := fine_readC r1 (r6 i hat) r7
    rw [hz]
    exact ⟨rfl, _, hc, f1, fun j => (f2 j).trans (r2 j), by show c.r ≤ c'.r + 1; omega, by show c'.r + 1 ≤ c.r + 1; omega, r4, r5, fun hn => absurd rfl hn, hk⟩

theorem cache_unpin_any (h : IsCache w G F blocks bytes none c) (hf : Fine P c) (i : Nat) (hi : i < blocks) (h0 : 0 < P i) (h1 : P i ≤ 2) :
    Calls Tryz.prog 68 #[.pointer (some ⟨G.gc, 0, none⟩), .int .u32 i] w fun e w' => e = .returned (.int .i64 0) ∧ ∃ c', IsCache w' G F blocks bytes none c' ∧ Fine (upd P i (P i - 1)) c' ∧
      (∀ j, Cont c' j = Cont c j) ∧ c'.r = c.r ∧ c'.s = c.s ∧ Keeps (CFoot G) w w' := by
  cases hat : c.at_ i with
  | some f =>
    have hp := hf.pins i f hat
    refine (cache_unpin h i f hi hat (by omega) (by omega)).mono ?_
    rintro e w' ⟨rfl, hc, hk⟩
    obtain ⟨f1, f2⟩ := fine_unpinC h.inv hf hat
    exact ⟨rfl, _, hc, f1, f2, rfl, rfl, hk⟩
  | none => exact absurd hat (hf.held i (by omega))

theorem cont_len (h : IsCache w G F blocks bytes none c) {i : Nat} (hi : i < blocks) : (Cont c i).length = bytes := by
  cases hat : c.at_ i with
  | some f => rw [Cont_some hat]; exact (h.inv.blk f ((h.inv.at_ i f).1 hat).2.1).2
  | none => rw [Cont_none hat]; exact h.dev.2.2.2.2.2.2 i hi

theorem cache_read_any (h : IsCache w G F blocks bytes none c) (hf : Fine P c) (i : Nat) (hi : i < blocks) (h0 : 0 < P i) :
    Calls Tryz.prog 67 #[.pointer (some ⟨G.gc, 0, none⟩), .int .u32 i] w fun e w' => ∃ g cc, e = .returned (.tuple #[.slice (some ⟨g, 0, none⟩) bytes cc, .int .i64 0]) ∧
      w.heap.size ≤ g ∧ g < w'.heap.size ∧ (∃ cs, Blk w' g 5 cs) ∧ BytesAt w' g 0 (Cont c i) ∧ Below w.heap.size w w' := by
  have hb : blocks ≤ 65536 := h.dev.2.2.2.1
  cases hat : c.at_ i with
  | some f =>
    have hp := hf.pins i f hat
    have e : Cont c i = (c.fr f).bs := Cont_some hat
    rw [e]
    exact cache_read h i f (by omega) hat (by omega)
  | none => exact absurd hat (hf.held i (by omega))

theorem cache_write_any (h : IsCache w G F blocks bytes none c) (hf : Fine P c) (i : Nat) (hi : i < blocks) (h0 : 0 < P i) (g off cc : Nat) (bs : List UInt8) (hb : BytesAt w g off bs) (hl : bs.length = bytes) :
    Calls Tryz.prog 133 #[.pointer (some ⟨G.gc, 0, none⟩), .int .u32 i, .slice (some ⟨g, off, none⟩) bytes cc] w fun e w' => e = .returned (.int .i64 0) ∧ ∃ c', IsCache w' G F blocks bytes none c' ∧ Fine P c' ∧
      (∀ j, Cont c' j = updD (Cont c) i bs j) ∧ c'.r = c.r ∧ c'.s = c.s ∧ Keeps (CFoot G) w w' := by
  cases hat : c.at_ i with
  | some f =>
    have hp := hf.pins i f hat
    refine (cache_write h i f hi hat (by omega) g off cc bs hb hl).mono ?_
    rintro e w' ⟨rfl, hc, hk⟩
    obtain ⟨f1, f2⟩ := fine_writeC (bs := bs) h.inv hf hat
    exact ⟨rfl, _, hc, f1, f2, rfl, rfl, hk⟩
  | none => exact absurd hat (hf.held i (by omega))

theorem cache_fresh_any (h : IsCache w G F blocks bytes none c) (hf : Fine (keptP k) c) (hF : 2 ≤ F) (i : Nat) (hi : i < blocks) (h0 : keptP k i = 0) :
    Calls Tryz.prog 134 #[.pointer (some ⟨G.gc, 0, none⟩), .int .u32 i] w fun e w' => e = .returned (.int .i64 0) ∧ ∃ c', IsCache w' G F blocks bytes none c' ∧ Fine (upd (keptP k) i 1) c' ∧
      (∀ j, Cont c' j = updD (Cont c) i (List.replicate bytes 0) j) ∧ c'.r = c.r ∧ c.s ≤ c'.s ∧ c'.s ≤ c.s + 1 ∧ Keeps (CFoot G) w w' := by
  cases hat : c.at_ i with
  | some f =>
    have hp := hf.pins i f hat
    refine (cache_fresh_old h i f hi hat (by omega)).mono ?_
    rintro e w' ⟨rfl, hc, hk⟩
    obtain ⟨f1, f2⟩ := fine_freshC (i := i) (f := f) bytes hf (fun j hj => at_inj h.inv hj hat)
    exact ⟨rfl, _, hc, f1, f2, rfl, Nat.le_refl _, Nat.le_succ _, hk⟩
  | none =>
    refine (cache_fresh_new h i hi hat (room_has h.inv hf hF)).mono ?_
    rintro e w' ⟨rfl, f, c', hr, hc, hk⟩
    obtain ⟨r1, r2, r3, r4, r5, r6, r7⟩ := fine_room h.inv hf hr
    obtain ⟨f1, f2⟩ := fine_freshC (i := i) (f := f) bytes r1 (fun j hj => absurd hj (r7 j))
    refine ⟨rfl, _, hc, f1, fun j => ?_, r3, r4, r5, hk⟩
    rw [f2]
    unfold updD
    split
    · rfl
    · exact r2 j

end
end Go.Proofs.Sg
