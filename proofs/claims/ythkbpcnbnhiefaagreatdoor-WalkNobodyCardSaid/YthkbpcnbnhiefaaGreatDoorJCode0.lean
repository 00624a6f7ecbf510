/- code.front, code.pair. -/
import Derived.Deep.RegionWith
import Derived.Test.YthkbpcnbnhiefaaGreatDoorKBytes
import Derived.Test.YthkbpcnbnhiefaaGreatDoorKConf
namespace Go.Proofs.Sg
set_option linter.unusedSimpArgs false
set_option linter.unusedVariables false
open Go.RowKit Go.Lib

def frontB (kind level count buf : Nat) : List UInt8 := be 1 kind ++ be 1 level ++ be 2 count ++ be 2 buf ++ be 2 0
@[simp] theorem frontB_length (a b c d : Nat) : (frontB a b c d).length = 8 := by simp [frontB]

theorem code_front {w : World} (kind level count buf : Nat) (h1 : kind < 4294967296) (h2 : level < 4294967296) (h3 : count < 4294967296) (h4 : buf < 4294967296) :
    Calls Tryz.prog 183 #[.int .i64 kind, .int .i64 level, .int .i64 count, .int .i64 buf] w fun e w' => ∃ v', e = .returned v' ∧ OwnB w' v' (frontB kind level count buf) ∧ Grew w w' (.slice none 0 0) v' := by
  go_enter Tryz.func183, Tryz.ntmps183
  go_wp2_with fail
  refine (code_num (OwnB.nil _) 1 kind (by omega) (by omega) (by simp)).mono ?_
  rintro e w1 ⟨v1, rfl, o1, g1⟩
  have A1 := Hd.mk o1
  have A2 := Hd.mk g1
  clear o1 g1
  go_wp2_with fail
  refine (code_num A1.out 1 level (by omega) (by omega) (by simp)).mono ?_
  rintro e w2 ⟨v2, rfl, o2, g2⟩
  have B1 := Hd.mk o2
  have B2 := Hd.mk (A2.out.trans g2)
  clear o2 g2 A1 A2
  go_wp2_with fail
  refine (code_num B1.out 2 count (by omega) (by omega) (by simp)).mono ?_
  rintro e w3 ⟨v3, rfl, o3, g3⟩
  have C1 := Hd.mk o3
  have C2 := Hd.mk (B2.out.trans g3)
  clear o3 g3 B1 B2
  go_wp2_with fail
  refine (code_num C1.out 2 buf (by omega) (by omega) (by simp)).mono ?_
  rintro e w4 ⟨v4, rfl, o4, g4⟩
  have D1 := Hd.mk o4
  have D2 := Hd.mk (C2.out.trans g4)
  clear o4 g4 C1 C2
  go_wp2_with fail
  refine (code_num D1.out 2 0 (by omega) (by omega) (by simp)).mono ?_
  rintro e w5 ⟨v5, rfl, o5, g5⟩
  have E1 := Hd.mk o5
  have E2 := Hd.mk (D2.out.trans g5)
  clear o5 g5 D1 D2
  go_wp2_with fail
  go_ret
  exact ⟨_, rfl, E1.out.cast (by simp [frontB]), E2.out⟩

def pairB (c : Cfg) (k v : ByteArray) : List UInt8 := be 1 k.size ++ be 2 v.size ++ slot (str k) c.key.toNat ++ slot (str v) c.val.toNat
theorem pairB_length (c : Cfg) {k v : ByteArray} (h1 : k.size ≤ c.key.toNat) (h2 : v.size ≤ c.val.toNat) : (pairB c k v).length = 3 + c.key.toNat + c.val.toNat := by
  simp [pairB, slot_length (xs := str k) (by simpa using h1), slot_length (xs := str v) (by simpa using h2)]
  omega

set_option maxRecDepth 100000 in
set_option maxHeartbeats 1000000 in
theorem code_pair {w : World} {b : Value} {xs : List UInt8} (h : OwnB w b xs) (c : Cfg) (hs : c.Sized) (k v : ByteArray) (h1 : k.size ≤ c.key.toNat) (h2 : v.size ≤ c.val.toNat) (hm : xs.length ≤ 80000000) :
    Calls Tryz.prog 184 #[c.v, b, .string k, .string v] w fun e w' => ∃ v', e = .returned v' ∧ OwnB w' v' (xs ++ pairB c k v) ∧ Grew w w' b v' := by
  obtain ⟨s1, s2, s3, s4, s5, s6, s7, s8, s9, s10⟩ := hs
  have H := Hd.mk h
  have hb : b.ownBlock ≠ some w.heap.size := fun e => by have := h.lt e; omega
  have ek : c.key = (c.key.toNat : Int) := by omega
  have ev : c.val = (c.val.toNat : Int) := by omega
  generalize hK : c.key.toNat = K at *
  generalize hV : c.val.toNat = V at *
  have PB : Hd (pairB c k v = be 1 k.size ++ be 2 v.size ++ slot (str k) K ++ slot (str v) V) := ⟨by unfold pairB; rw [hK, hV]⟩
  unfold Cfg.v
  rw [ek, ev]
  clear h s1 s2 s7 s8 s9 s10 hK hV
  have hk8 : K ≤ 64 := by omega
  have hv8 : V ≤ 256 := by omega
  clear ek ev s3 s4 s5 s6
  go_enter Tryz.func184, Tryz.ntmps184
  go_wp2_with fail
  generalize hW : w.alloc (.cells #[.int .i64 c.blocks, .int .i64 c.bytes, .int .i64 c.frames, .int .i64 c.fan, .int .i64 c.buffer, .int .i64 c.leaf, .int .i64 K, .int .i64 V] 23) = w0
  have H0 : Hd (OwnB w0 b xs) := ⟨by rw [← hW]; exact H.out.alloc _⟩
  have G0 : Hd (Grew w w0 b b) := ⟨by rw [← hW]; exact Grew.of_keeps ((Keeps.refl _ w).alloc _)⟩
  have B0 : Hd (Blk w0 w.heap.size 23 #[.int .i64 c.blocks, .int .i64 c.bytes, .int .i64 c.frames, .int .i64 c.fan, .int .i64 c.buffer, .int .i64 c.leaf, .int .i64 K, .int .i64 V]) := ⟨by rw [← hW]; exact Blk.new w _ _⟩
  clear hW
  refine (code_num H0.out 1 k.size (by omega) (by omega) (by omega)).mono ?_
  rintro e w1 ⟨v1, rfl, o1, g1⟩
  have A1 := Hd.mk o1
  have A2 := Hd.mk g1
  clear o1 g1
  go_wp2_with fail
  refine (code_num A1.out 2 v.size (by omega) (by omega) (by simp; omega)).mono ?_
  rintro e w2 ⟨v2, rfl, o2, g2⟩
  have B1 := Hd.mk o2
  have B2 := Hd.mk (A2.out.trans g2)
  clear o2 g2 A1 A2
  have hbk := B2.out.blk B0.out hb
  have hnv := B2.out.ne B0.out.lt hb
  have c6 : w2.cell? ⟨w.heap.size, 6, none⟩ = some (.int .i64 K) := hbk.cell 6
  have c7 : w2.cell? ⟨w.heap.size, 7, none⟩ = some (.int .i64 V) := hbk.cell 7
  have BK := Hd.mk hbk
  have NV := Hd.mk hnv
  clear hbk hnv hb
  go_wp2_with fail
  have B1d : Hd (OwnB w2.drew v2 (xs ++ be 1 k.size ++ be 2 v.size)) := ⟨B1.out.keep_ fun _ _ => rfl⟩
  have BKd : Hd (Blk w2.drew w.heap.size 23 #[.int .i64 c.blocks, .int .i64 c.bytes, .int .i64 c.frames, .int .i64 c.fan, .int .i64 c.buffer, .int .i64 c.leaf, .int .i64 K, .int .i64 V]) := ⟨BK.out.drew⟩
  have l1 : (xs ++ be 1 k.size ++ be 2 v.size).length + K ≤ 100000000 := by simp; omega
  have l2 : (xs ++ be 1 k.size ++ be 2 v.size ++ slot (str k) K).length + V ≤ 100000000 := by
    rw [List.length_append, slot_length (by simpa using h1)]; simp; omega
  generalize hX1 : xs ++ be 1 k.size ++ be 2 v.size = X1 at *
  generalize hX2 : X1 ++ slot (str k) K = X2 at *
  generalize hX3 : X2 ++ slot (str v) V = X3
  have HX1 := Hd.mk hX1
  have HX2 := Hd.mk hX2
  have HX3 := Hd.mk hX3
  clear hX1 hX2 hX3
  have t1 : Calls Tryz.prog 186 #[v2, .string k, .int .i64 K] w2.drew fun e w' => ∃ v', e = .returned v' ∧ OwnB w' v' X2 ∧ Grew w2.drew w' v2 v' := by
    rw [← HX2.out]; exact code_text B1d.out k K h1 l1
  have t2 : ∀ w3 v3, OwnB w3 v3 X2 → Calls Tryz.prog 186 #[v3, .string v, .int .i64 V] w3 fun e w' => ∃ v', e = .returned v' ∧ OwnB w' v' X3 ∧ Grew w3 w' v3 v' := by
    rw [← HX3.out]; exact fun w3 v3 h => code_text h v V h2 l2
  go_region_with (first | (go_at_call_of 186 (Value.string k); refine t1.mono ?_; rintro e w3 ⟨v3, rfl, o3, g3⟩; have C1 := Hd.mk o3; have C2 := Hd.mk g3; have hbk3 := C2.out.blk BKd.out NV.out; have c7' : w3.cell? ⟨w.heap.size, 7, none⟩ = some (.int .i64 V) := hbk3.cell 7; clear o3 g3 hbk3) | (go_at_call_of 186 (Value.string v); refine (t2 w3 v3 C1.out).mono ?_; rintro e w4 ⟨v4, rfl, o4, g4⟩; have D1 := Hd.mk o4; have D2 := Hd.mk g4; clear o4 g4))
  all_goals go_wp2_with fail
  all_goals go_ret
  all_goals refine ⟨_, rfl, D1.out.cast ?_, G0.out.trans (B2.out.trans ((Grew.of_keeps (w' := w2.drew) ((Keeps.refl _ w2).drew)).trans (C2.out.trans D2.out)))⟩
  all_goals rw [← HX3.out, ← HX2.out, ← HX1.out, PB.out]; simp

end Go.Proofs.Sg
