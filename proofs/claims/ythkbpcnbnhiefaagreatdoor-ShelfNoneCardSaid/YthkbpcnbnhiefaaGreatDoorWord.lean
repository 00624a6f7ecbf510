/- Numbers and texts behind bytes: word.Put, code.num, code.text. -/
import Derived.Test.YthkbpcnbnhiefaaGreatDoorOwn
import Derived.LoopTactic
namespace Go.Proofs.Sg
set_option linter.unusedSimpArgs false
set_option linter.unusedVariables false
open Go.RowKit Go.Lib

theorem word_right {w : World} (W : Nat) (hW : W = 1 ∨ W = 2 ∨ W = 4 ∨ W = 8) : Calls Tryz.prog 152 #[.int .i64 W] w fun e w' => e = .returned (.bool true) ∧ w = w' := by
  rcases hW with rfl | rfl | rfl | rfl <;>
  · go_enter Tryz.func152, Tryz.ntmps152
    go_wp2
    go_ret
    exact ⟨rfl, rfl⟩

theorem clone_none {w : World} : Calls Tryz.prog 86 #[.slice none 0 0] w fun e w' => e = .returned (.slice none 0 0) ∧ w = w' := by
  have q22 : ∀ (w : World) (a : Option Addr) (n c n' c' : Nat), (binOp .eql 26 (.slice a n c) (.slice none n' c')).run Tryz.prog w = .ok (.bool a.isNone) w := fun w a n c n' c' => Lib.run_eql_slice_nil w _ _ a n c n' c' Tryz.underlying26
  go_enter Tryz.func86, Tryz.ntmps86
  go_wp2
  go_ret
  exact ⟨rfl, rfl⟩

theorem OwnB.cast {w : World} {v : Value} {xs ys : List UInt8} (h : OwnB w v xs) (e : xs = ys) : OwnB w v ys := e ▸ h

theorem byte_one {w : World} {z : Int} {t : TypeId} {b : UInt8} (h : bv b = .int .u8 z) : BytesAt (w.alloc (.cells #[.int .u8 z] t)) w.heap.size 0 [b] := by
  intro j hj
  have h0 : j = 0 := by simpa using hj
  subst h0
  rw [← h]
  exact (Blk.new w t #[bv b]).cell 0

theorem byte_shift (x j : Nat) : bv (UInt8.ofNat (x / 256 ^ j)) = .int .u8 ((x : Int) / 2 ^ (8 * j) % 256) := by
  rw [bv_ofNat]
  congr 1
  rw [show (256 : Nat) ^ j = 2 ^ (8 * j) from (Nat.pow_mul 2 8 j).symm, Int.natCast_emod, Int.natCast_ediv, Int.natCast_pow]
  rfl

set_option maxRecDepth 10000 in
set_option maxHeartbeats 1000000 in
theorem word_put {w : World} (W x : Nat) (hW : W = 1 ∨ W = 2 ∨ W = 4 ∨ W = 8) (_hx : x < 18446744073709551616) :
    Calls Tryz.prog 228 #[.slice none 0 0, .int .i64 W, .int .u64 x] w fun e w' => ∃ v', e = .returned v' ∧ OwnB w' v' (be W x) ∧ Grew w w' (.slice none 0 0) v' := by
  have hW8 : W ≤ 8 := by omega
  have H1 := Hd.mk hW
  clear hW
  go_enter Tryz.func228, Tryz.ntmps228
  go_wp2_with fail
  refine clone_none.mono ?_
  rintro e w' ⟨rfl, rfl⟩
  go_wp2_with fail
  refine (word_right W H1.out).mono ?_
  rintro e w' ⟨rfl, rfl⟩
  go_wp2_with fail
  go_loopw [7, 8] (fun vo vi wr => ∃ k j : Nat, k + j = W ∧ vi = .int .i64 ((j : Int) - 1) ∧ OwnB wr vo (be k (x / 256 ^ j)) ∧ Grew w wr (.slice none 0 0) vo) (fun _ vi _ => (RowKit.intOf vi + 1).toNat)
  case atStart => exact ⟨0, W, by omega, by go_num, OwnB.nil w, Grew.refl _ _⟩
  case round =>
    obtain ⟨k, j, hkj, rfl, hown, hgr⟩ := hrel
    have C1 := Hd.mk hown
    have C2 := Hd.mk hgr
    clear hown hgr
    rcases j with _ | j
    · go_wp2_with fail
      go_ret
      refine ⟨_, rfl, C1.out.cast ?_, C2.out⟩
      rw [← hkj]; simp
    · rw [show (((j + 1 : Nat) : Int) - 1) = j by omega]
      go_wp2_with (at_builtin; refine wpList_append_known rfl _ _ _ _ rfl _ _ rfl rfl (append_bytes (ys := [UInt8.ofNat (x / 256 ^ j)]) (C1.out.alloc _) (byte_one (byte_shift x j)) (by simp; omega) _) ?_)
      intro v' w2 hown hgr
      have D1 := Hd.mk hown
      have D2 := Hd.mk hgr
      clear hown hgr
      go_wp2_with fail
      refine ⟨⟨k + 1, j, by omega, by go_num, D1.out.cast ?_, C2.out.trans ((Grew.of_keeps ((Keeps.refl _ wr).alloc _)).trans D2.out)⟩, by simp [RowKit.intOf]⟩
      have e := be_more (W := k + (j + 1)) (k := k) (x := x) (by omega)
      rw [show k + (j + 1) - (k + 1) = j by omega, show k + (j + 1) - k = j + 1 by omega] at e
      exact e.symm

theorem Grew.fresh {w w' : World} {u : Value} (h : Grew w w' (.slice none 0 0) u) : Keeps (fun _ => False) w w' := h.keeps.mono (fun _ _ e => by simp [Value.ownBlock] at e)

theorem append_bytes' {w : World} {v : Value} {xs ys : List UInt8} {n : Nat} (hn : ys.length = n) (h : OwnB w v xs) {b off c : Nat} (hy : BytesAt w b off ys) (hm : xs.length + n ≤ 100000000) (ty : TypeId) :
    ∃ v' w', (Builtin.append_ #[26, 26] ty #[v, .slice (some ⟨b, off, none⟩) n c]).run Tryz.prog w = .ok v' w' ∧ OwnB w' v' (xs ++ ys) ∧ Grew w w' v v' := by
  subst hn
  exact append_bytes h hy hm ty

theorem word_put' {w : World} (W x : Nat) (hW : W = 1 ∨ W = 2 ∨ W = 4 ∨ W = 8) (hx : x < 18446744073709551616) :
    Calls Tryz.prog 228 #[.slice none 0 0, .int .i64 W, .int .u64 x] w fun e w' => ∃ g c, e = .returned (.slice (some ⟨g, 0, none⟩) W c) ∧ BytesAt w' g 0 (be W x) ∧ Keeps (fun _ => False) w w' :=
  (word_put W x hW hx).mono fun e w' ⟨u, he, hu, hgu⟩ => by
    obtain ⟨g, c, rfl, hby, _⟩ := hu.at (by intro e; have := congrArg List.length e; simp at this; omega)
    rw [be_length] at he
    exact ⟨g, c, he, hby, hgu.fresh⟩

theorem code_num {w : World} {v : Value} {xs : List UInt8} (h : OwnB w v xs) (W x : Nat) (hW : W = 1 ∨ W = 2 ∨ W = 4 ∨ W = 8) (hx : x < 18446744073709551616) (hm : xs.length ≤ 90000000) :
    Calls Tryz.prog 185 #[v, .int .i64 W, .int .u64 x] w fun e w' => ∃ v', e = .returned v' ∧ OwnB w' v' (xs ++ be W x) ∧ Grew w w' v v' := by
  have C1 := Hd.mk h
  have H1 := Hd.mk hW
  have hW8 : W ≤ 8 := by omega
  have hW1 : 1 ≤ W := by omega
  clear h hW
  go_enter Tryz.func185, Tryz.ntmps185
  go_wp2_with fail
  refine (word_put' W x H1.out hx).mono ?_
  clear hx
  rintro e w1 ⟨g, c, rfl, hby, k1⟩
  have B1 := Hd.mk k1
  have B2 := Hd.mk hby
  clear k1 hby
  go_wp2_with (at_builtin; refine wpList_append_known rfl _ _ _ _ rfl _ _ rfl rfl (append_bytes' (be_length W x) (C1.out.keep B1.out (fun _ _ e => e)) B2.out (by omega) _) ?_)
  intro v' w' hown hgr
  have D1 := Hd.mk hown
  have D2 := Hd.mk hgr
  clear hown hgr
  go_wp2_with fail
  go_ret
  exact ⟨_, rfl, D1.out, (Grew.of_keeps B1.out).trans D2.out⟩

/-- A text in its slot. -/
def slot (xs : List UInt8) (most : Nat) : List UInt8 := xs ++ List.replicate (most - xs.length) 0
@[simp] theorem slot_length {xs : List UInt8} {most : Nat} (h : xs.length ≤ most) : (slot xs most).length = most := by unfold slot; simp; omega

theorem code_text {w : World} {v : Value} {xs : List UInt8} (h : OwnB w v xs) (s : ByteArray) (most : Nat) (hs : s.size ≤ most) (hm : xs.length + most ≤ 100000000) :
    Calls Tryz.prog 186 #[v, .string s, .int .i64 most] w fun e w' => ∃ v', e = .returned v' ∧ OwnB w' v' (xs ++ slot (str s) most) ∧ Grew w w' v v' := by
  have C1 := Hd.mk h
  clear h
  go_enter Tryz.func186, Tryz.ntmps186
  go_wp2_with (at_builtin; refine wpList_append_known rfl _ _ _ _ rfl _ _ rfl rfl (append_str C1.out s (by omega) _) ?_)
  intro v1 w1 hown hgr
  have D1 := Hd.mk hown
  have D2 := Hd.mk hgr
  clear hown hgr
  go_wp2_with (at_builtin; refine wpList_append_known rfl _ _ _ _ rfl _ (.int .i64 ((most - s.size : Nat) : Int)) rfl (by show Value.int .i64 _ = Value.int .i64 _; congr 1; omega) (append_zeros D1.out (most - s.size) (by simp; omega) _) ?_)
  intro v2 w2 hown hgr
  have E1 := Hd.mk hown
  have E2 := Hd.mk hgr
  clear hown hgr
  go_wp2_with fail
  go_ret
  exact ⟨_, rfl, E1.out.cast (by simp [slot]), D2.out.trans E2.out⟩

end Go.Proofs.Sg
