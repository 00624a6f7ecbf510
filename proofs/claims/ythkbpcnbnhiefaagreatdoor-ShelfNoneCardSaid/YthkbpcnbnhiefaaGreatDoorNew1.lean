/- What New gives: a cache. -/
import Derived.Test.YthkbpcnbnhiefaaGreatDoorNew0
import Derived.Test.YthkbpcnbnhiefaaGreatDoorCache8
namespace Go.Proofs.Sg
open Go.RowKit

theorem own_base {w : World} {base e size n : Nat} {v : Value} {xs : List Value} (h : w.ownsRow base e size v n xs) : w.ownsRow 0 e size v n xs := by
  refine ⟨h.1, ?_⟩
  rcases h.2 with h1 | ⟨g', cap', cur, h1, hb, h3⟩
  · exact .inl h1
  · exact .inr ⟨g', cap', cur, h1, Nat.zero_le _, h3⟩

theorem map32_new (w : World) : IsMap32 (w.alloc (.map #[] 0)) w.heap.size (fun _ => none) := by
  refine ⟨.map [], (World.ownsMap_made w _ _ _).mono (Nat.zero_le _), fun i _ => ⟨?_, fun f hf => by cases hf⟩, fun k hk => ?_⟩
  · rfl
  · simp [Maps.has] at hk

theorem Tryz.infoFrame : (Tryz.prog.info? 190).map (fun i => (i.zero, i.size, i.bytes)) = some (some (.agg #[.int .u32 0, .slice none 0 0, .bool false, .int .i64 0]), 4, 48) := by kernel_rfl

def newC (F : Nat) (D : Nat → List UInt8) (r s : Nat) : Cs := ⟨fun _ => Fr.zero, fun _ => none, List.range F, [], D, r, s⟩

theorem newC_inv (F blocks bytes : Nat) (h1 : 1 ≤ F) (h2 : F ≤ 64) (D : Nat → List UInt8) (r s : Nat) : CInv F blocks bytes none (newC F D r s) := by
  refine ⟨⟨h1, h2⟩, fun i f => ?_, fun f => ?_, List.nodup_range, fun f => ?_, fun f hf => ?_, fun f _ => rfl⟩
  · simp [newC, Fr.zero]
  · simp [newC, Fr.zero]
  · simp [newC, Fr.zero]
  · simp [newC, Fr.zero] at hf

theorem own_set {w : World} {base e size n : Nat} {v : Value} {xs : List Value} (h : w.ownsRow base e size v n xs) {p : Addr} (hp : p.block < base) (u : Value) : (w.setCell p u).ownsRow base e size v n xs := by
  refine ⟨h.1, ?_⟩
  rcases h.2 with h1 | ⟨g', cap', cur, h1, hb, hh, h3⟩
  · exact .inl h1
  · exact .inr ⟨g', cap', cur, h1, hb, (Below.heap_setCell _ _ _ _ (by omega)).trans hh, h3⟩

set_option maxRecDepth 100000 in
set_option maxHeartbeats 1600000 in
theorem cache_new {w : World} {gd gi blocks bytes F r s : Nat} {D : Nat → List UInt8} (hd : IsDev w gd gi blocks bytes D r s) (h1 : 1 ≤ F) (h2 : F ≤ 64) :
    Calls Tryz.prog 103 #[.pointer (some ⟨gd, 0, none⟩), .int .i64 F] w fun e w' => ∃ G : Ids, e = .returned (.tuple #[.pointer (some ⟨G.gc, 0, none⟩), .int .i64 0]) ∧ G.gd = gd ∧ G.gi = gi ∧ IsCache w' G F blocks bytes none (newC F D r s) ∧ Below w.heap.size w w' ∧ (∀ k, CFoot G k → k = gd ∨ k = gi ∨ w.heap.size ≤ k) := by
  have hmk : ∀ W : World, (Instr.makeSlice 183 (.int .i64 (F : Nat)) (.int .i64 (F : Nat))).run Tryz.prog W = .ok (.slice (some ⟨W.heap.size, 0, none⟩) F F) (W.alloc (.cells (grid 4 F (frF bytes (fun _ => Fr.zero) (fun _ => 0) (fun _ => 0))) 190)) := by
    intro W
    have := run_make_grid 183 190 _ 4 48 (fun r => frF bytes (fun _ => Fr.zero) (fun _ => 0) (fun _ => 0) 0 r) Tryz.underlying183 Tryz.infoFrame rfl (by omega) (by intro r hr; rcases r with _ | _ | _ | _ | r <;> first | rfl | omega) .i64 .i64 F (by omega) (by omega) W
    exact this
  have hmm := @run_makeMap Tryz.prog
  have hb0 := hd.2.2.1
  generalize hA : grid 4 F (frF bytes (fun _ => Fr.zero) (fun _ => 0) (fun _ => 0)) = A at hmk
  have hA' := Hd.mk hA
  clear hA
  go_enter Tryz.func103, Tryz.ntmps103
  go_wp2_with fail
  refine (dev_blocks hd).mono ?_
  rintro e w' ⟨rfl, q, rfl⟩
  go_wp2_with fail
  refine (chain_new F h1 (by omega)).mono ?_
  rintro e w1 ⟨gch, gl, rfl, hc1, hbl, hg1, hg2, hg3⟩
  have A1 := Hd.mk hc1
  have A2 := Hd.mk hbl
  have A3 := Hd.mk hg1
  have A4 := Hd.mk hg2
  have A5 := Hd.mk hg3
  clear hc1 hbl hg1 hg2 hg3
  go_wp2_with fail
  generalize hW8 : ((w1.alloc (.cells A 190)).alloc (.map #[] 0)).alloc (.cells #[.pointer (some ⟨gd, 0, none⟩), .slice (some ⟨w1.heap.size, 0, none⟩) F F, .map (some (w1.heap.size + 1)), .slice none 0 0, .pointer (some ⟨gch, 0, none⟩)] 188) = w8
  have k8 : Keeps (fun _ => False) w1 w8 := by rw [← hW8]; exact (((Keeps.refl _ w1).alloc _).alloc _).alloc _
  have b8 : Blk w8 (w1.heap.size + 1 + 1) 188 #[.pointer (some ⟨gd, 0, none⟩), .slice (some ⟨w1.heap.size, 0, none⟩) F F, .map (some (w1.heap.size + 1)), .slice none 0 0, .pointer (some ⟨gch, 0, none⟩)] := by
    have := Blk.new ((w1.alloc (.cells A 190)).alloc (.map #[] 0)) 188 #[.pointer (some ⟨gd, 0, none⟩), .slice (some ⟨w1.heap.size, 0, none⟩) F F, .map (some (w1.heap.size + 1)), .slice none 0 0, .pointer (some ⟨gch, 0, none⟩)]
    rw [hW8] at this
    simpa using this
  have f8 : Blk w8 w1.heap.size 190 A := by rw [← hW8]; exact ((Blk.new w1 _ A).alloc _).alloc _
  have m8 : IsMap32 w8 (w1.heap.size + 1) (fun _ => none) := by
    have := map32_new (w1.alloc (.cells A 190))
    have h1 := (this.keep (w' := w8) (by rw [← hW8]; exact Below.heap_alloc _ _ _ (by simp)))
    simpa using h1
  have z8 : w8.heap.size = w1.heap.size + 3 := by rw [← hW8]; simp
  generalize hgc : w1.heap.size + 1 + 1 = gc at b8
  obtain ⟨i0, hi, hz0, hz1, hz2⟩ := info_parts' Tryz.infoInt
  have B1 := Hd.mk k8
  have B2 := Hd.mk f8
  have B3 := Hd.mk m8
  have B4 := Hd.mk z8
  have B5 := Hd.mk hgc
  clear hW8 k8 f8 m8 z8 hgc
  go_loopw [37] (fun v wr => ∃ k : Nat, v = .int .i64 k ∧ k ≤ F ∧ Keeps (fun x => x = gc) w8 wr ∧ ∃ u, wr.ownsRow w8.heap.size 3 1 u k (natv (List.range k)) ∧ Blk wr gc 188 #[.pointer (some ⟨gd, 0, none⟩), .slice (some ⟨w1.heap.size, 0, none⟩) F F, .map (some (w1.heap.size + 1)), u, .pointer (some ⟨gch, 0, none⟩)]) (fun v _ => F - (intOf v).toNat)
  case atStart => exact ⟨0, by go_num, by omega, Keeps.refl _ _, .slice none 0 0, own_none _ _ _ _, b8⟩
  case round =>
    obtain ⟨k, rfl, hk1, hkk, u, hown, hb⟩ := hrel
    by_cases hlt : k < F
    · have c3 : wr.cell? ⟨gc, 3, none⟩ = some u := hb.cell 3
      have z3 := hb.frozen 3
      have C1 := Hd.mk hkk
      have C2 := Hd.mk hown
      have C3 := Hd.mk b8
      clear hkk hown
      go_wp2_with (at_builtin; refine wpList_append_own _ rfl _ _ 185 rfl w8.heap.size 3 i0 (.int .i64 0) 1 8 Tryz.underlying185 hi hz0 hz1 hz2 rfl (by decide) _ _ _ rfl (C2.out.alloc _) ⟨wr.heap.size, 0, none⟩ 1 1 [.int .i64 k] rfl ?qc1 ?qc2 ?qc3 ?qc4 ?qc5 ?qc6 ?_)
      case qc1 => rfl
      case qc2 => exact cell_one_new _ _ _
      case qc3 => simp [Value.oneCell']
      case qc4 => unfold maxLen; omega
      case qc5 => omega
      case qc6 => have := C1.out.size; simp; omega
      intro v' w2 hown2 hgrow hnil
      obtain ⟨g2, cc2, rfl, _⟩ := own_at_ne hown2 (by simp)
      have hgcl := C3.out.lt
      have hlo : ∀ x, u.ownBlock = some x → w8.heap.size ≤ x := fun x hx => (C2.out.lt x hx).1
      have hb2 : Blk w2 gc 188 #[.pointer (some ⟨gd, 0, none⟩), .slice (some ⟨w1.heap.size, 0, none⟩) F F, .map (some (w1.heap.size + 1)), u, .pointer (some ⟨gch, 0, none⟩)] := (hb.alloc _).grown hgrow (by intro e; have := hlo gc e.symm; omega)
      have hk2 : Keeps (fun x => x = gc) w8 w2 := (C1.out.alloc _).grown hgrow (fun x e hx => by have := hlo x e; omega)
      have c3' : w2.cell? ⟨gc, 3, none⟩ = some u := hb2.cell 3
      have z3' := hb2.frozen 3
      have D1 := Hd.mk hk2
      have D2 := Hd.mk hown2
      have D3 := Hd.mk hlo
      have hg2 := hb2.lt
      clear hk2 hown2 hgrow hnil hlo c3 z3
      go_wp2_with fail
      have hb3 := hb2.set_ 3 (.slice (some ⟨g2, 0, none⟩) (k + 1) cc2)
      refine ⟨⟨k + 1, by go_num, hlt, D1.out.setCell (fun _ => rfl) _, _, ?_, by simpa using hb3⟩, by simp [intOf]; omega⟩
      have e : natv (List.range (k + 1)) = natv (List.range k) ++ [.int .i64 k] := by simp [natv, List.range_succ]
      rw [e]
      refine own_set D2.out ?_ _
      have := C3.out.lt
      exact this
    · have hkF : k = F := by omega
      subst hkF
      have C1 := Hd.mk hkk
      have C2 := Hd.mk hown
      have C3 := Hd.mk b8
      have C4 := Hd.mk hb
      clear hkk hown b8 hb
      go_wp2_with fail
      go_ret2
      have hne : natv (List.range k) ≠ [] := by
        intro e
        have := congrArg List.length e
        simp [natv] at this
        omega
      obtain ⟨g2, cc2, rfl, hl2, hl3, hcap, ⟨cs2, hcs2⟩, _⟩ := own_at_ne C2.out hne
      have hgcl := C3.out.lt
      have z8 := B4.out
      have hgc := B5.out
      have k0 : Keeps (fun _ => False) w w1 := ((Keeps.refl (fun _ => False) w).drewN q).trans (T := fun _ => False) (Keeps.of_below A2.out) (fun _ _ e => e) (fun _ _ e => e)
      have k08 : Keeps (fun _ => False) w w8 := k0.trans B1.out (fun _ _ e => e) (fun _ _ e => e)
      have k1r : Keeps (fun x => x = gc) w1 wr := B1.out.trans C1.out (fun _ _ e => e.elim) (fun _ _ e => e)
      have k0r : Keeps (fun x => x = gc) w wr := k0.trans k1r (fun _ _ e => e.elim) (fun _ _ e => e)
      have hs01 := k0.size
      have hgd := hd.1.lt
      have hgi := hd.2.1.lt
      have hch := A1.out
      have hch0 := hch
      obtain ⟨L, hca, hcb, _⟩ := hch0
      have l1 := hca.lt
      have l2 := hcb.lt
      have a3 : w.heap.size ≤ gch := A3.out
      have a4 : w.heap.size ≤ gl := A4.out
      refine ⟨⟨gd, gi, gc, w1.heap.size, w1.heap.size + 1, g2, gl, gch, cc2⟩, rfl, rfl, rfl, ⟨hd.keep k0r (by omega) (by omega), ?_, ⟨fun _ => 0, fun _ => 0, ?_, ?_, ?_, ?_⟩, ?_, ?_, ?_, hch.keep k1r (by omega) (by omega), newC_inv _ _ _ h1 h2 _ _ _⟩, k0r.below (Nat.le_refl _) (by omega), ?_⟩
      · have := C4.out
        simpa [cells, newC] using this
      · have := B2.out.keep C1.out (by omega)
        rw [← hA'.out] at this
        exact this
      · intro f _ hu; simp [newC, Fr.zero] at hu
      · intro f _ hu; simp [newC, Fr.zero] at hu
      · intro f _ hu; simp [newC, Fr.zero] at hu
      · exact B3.out.keep (C1.out.block _ (by omega) (by omega))
      · have := own_base C2.out
        simpa [newC] using this
      · exact hcap
      · rintro x (rfl | rfl | rfl | rfl | rfl | rfl | rfl | rfl) <;> first | omega | (simp; done) | (simp; omega)

end Go.Proofs.Sg
