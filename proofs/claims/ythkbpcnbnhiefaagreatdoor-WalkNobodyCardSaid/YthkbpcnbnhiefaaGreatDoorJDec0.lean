/- code.Decode of noughts. -/
import Derived.Test.YthkbpcnbnhiefaaGreatDoorJEnc0
import Derived.Test.YthkbpcnbnhiefaaGreatDoorJRd
namespace Go.Proofs.Sg
set_option linter.unusedSimpArgs false
set_option linter.unusedVariables false
open Go.RowKit Go.Lib

abbrev nilV : Value := .slice none 0 0
abbrev Cfg.cells (c : Cfg) : Array Value := #[.int .i64 c.blocks, .int .i64 c.bytes, .int .i64 c.frames, .int .i64 c.fan, .int .i64 c.buffer, .int .i64 c.leaf, .int .i64 c.key, .int .i64 c.val]

theorem Cfg.at {w : World} {g : Nat} {c : Cfg} (h : Blk w g 23 c.cells) :
    w.cell? ⟨g, 0, none⟩ = some (.int .i64 c.blocks) ∧ w.cell? ⟨g, 1, none⟩ = some (.int .i64 c.bytes) ∧ w.cell? ⟨g, 2, none⟩ = some (.int .i64 c.frames) ∧ w.cell? ⟨g, 3, none⟩ = some (.int .i64 c.fan) ∧ w.cell? ⟨g, 4, none⟩ = some (.int .i64 c.buffer) ∧ w.cell? ⟨g, 5, none⟩ = some (.int .i64 c.leaf) ∧ w.cell? ⟨g, 6, none⟩ = some (.int .i64 c.key) ∧ w.cell? ⟨g, 7, none⟩ = some (.int .i64 c.val) :=
  ⟨h.cell 0, h.cell 1, h.cell 2, h.cell 3, h.cell 4, h.cell 5, h.cell 6, h.cell 7⟩

theorem Blk.five {w : World} {g : Nat} {t : TypeId} {a b c d e : Value} (h : Blk w g t #[a, b, c, d, e]) :
    w.cell? ⟨g, 0, none⟩ = some a ∧ w.cell? ⟨g, 1, none⟩ = some b ∧ w.cell? ⟨g, 2, none⟩ = some c ∧ w.cell? ⟨g, 3, none⟩ = some d ∧ w.cell? ⟨g, 4, none⟩ = some e := ⟨h.cell 0, h.cell 1, h.cell 2, h.cell 3, h.cell 4⟩

theorem Keeps.old {w w' : World} (h : Keeps (fun k => w.heap.size ≤ k) w w') : Keeps (fun _ => False) w w' := h.mono (fun i hi e => by omega)

theorem IsRd.cast {w : World} {gr : Nat} {xs ys : List UInt8} (h : IsRd w gr xs) (e : xs = ys) : IsRd w gr ys := e ▸ h

theorem zeros_parts (n : Nat) (h : 8 ≤ n) : List.replicate n (0 : UInt8) = be 1 0 ++ (be 1 0 ++ (be 2 0 ++ (be 2 0 ++ (List.replicate 2 0 ++ List.replicate (n - 8) 0)))) := by
  simp only [be_zero, List.replicate_append_replicate]
  congr 1
  omega

theorem BytesAt.keeps {w w' : World} {S : Nat → Prop} {b off : Nat} {xs : List UInt8} (h : BytesAt w b off xs) (hk : Keeps S w w') (hS : ¬ S b) : BytesAt w' b off xs := fun j hj => by
  have e := h j hj
  exact (World.cell?_of_block (hk.block b (World.block_lt_of_cell? w _ e) hS)).trans e

theorem rd_open' {w : World} {b off c n : Nat} {xs : List UInt8} (hn : xs.length = n) (h : BytesAt w b off xs) (hm : n ≤ 65536) :
    Calls Tryz.prog 88 #[.slice (some ⟨b, off, none⟩) n c] w fun e w' => ∃ gr, e = .returned (.pointer (some ⟨gr, 0, none⟩)) ∧ IsRd w' gr xs ∧ w.heap.size ≤ gr ∧ Keeps (fun _ => False) w w' := by
  subst hn
  exact rd_open h hm

set_option maxRecDepth 100000 in
set_option maxHeartbeats 4000000 in
theorem decode_zeros {w : World} (c : Cfg) (hc : c.In) (hcr : c.Right) {b off cap : Nat} (h : BytesAt w b off (List.replicate c.bytes.toNat 0)) :
    Calls Tryz.prog 35 #[c.v, .slice (some ⟨b, off, none⟩) c.bytes.toNat cap] w fun e w' => e = .returned (.tuple #[nodeV 0 nilV nilV nilV nilV, .int .i64 12]) ∧ Keeps (fun _ => False) w w' := by
  have hch := fun w => conf_check (w := w) c hc
  rw [if_pos hcr] at hch
  have hb64 : 64 ≤ c.bytes.toNat ∧ c.bytes.toNat ≤ 65536 := by
    obtain ⟨_, _, _, _, _, h1, h2, _⟩ := hcr
    omega
  have HE := fun (w : World) (k p b r : Value) h1 h2 h3 h4 => encode_no (w := w) c hc hcr (-1) k p b r h1 h2 h3 h4 (fun w' _ => node_right_neg c (-1) (by omega) _ _ _ k p b r h1 h2 h3 h4)
  generalize hn : c.bytes.toNat = n at *
  have H := Hd.mk h
  clear h hcr hn
  unfold Cfg.v nodeV at *
  go_enter Tryz.func35, Tryz.ntmps35
  go_wp2_with fail
  have bc0 := (Blk.new w 23 c.cells).alloc (.cells #[.int .i64 0, nilV, nilV, nilV, nilV] 42)
  have br0 : Blk ((w.alloc (.cells c.cells 23)).alloc (.cells #[.int .i64 0, nilV, nilV, nilV, nilV] 42)) (w.heap.size + 1) 42 #[.int .i64 0, nilV, nilV, nilV, nilV] := by
    simpa using Blk.new (w.alloc (.cells c.cells 23)) 42 #[.int .i64 0, nilV, nilV, nilV, nilV]
  have k0 : Keeps (fun _ => False) w ((w.alloc (.cells c.cells 23)).alloc (.cells #[.int .i64 0, nilV, nilV, nilV, nilV] 42)) := ((Keeps.refl _ w).alloc _).alloc _
  have z0 : ((w.alloc (.cells c.cells 23)).alloc (.cells #[.int .i64 0, nilV, nilV, nilV, nilV] 42)).heap.size = w.heap.size + 2 := by simp
  generalize hW : ((w.alloc (.cells c.cells 23)).alloc (.cells #[.int .i64 0, nilV, nilV, nilV, nilV] 42)) = w0 at *
  refine (hch _).mono ?_
  rintro e w1 ⟨rfl, hk⟩
  have bc1 := bc0.keep hk (fun e => e)
  have br1 := br0.keep hk (fun e => e)
  have k1 := k0.trans hk (U := fun _ => False) (fun _ _ e => e) (fun _ _ e => e)
  have z1 := hk.size
  clear hW bc0 br0 k0 hk
  have h1 := H.out.keeps k1 (fun e => e)
  have T1 := Hd.mk h1
  have Bc := Hd.mk bc1
  have Br := Hd.mk br1
  have K1 := Hd.mk k1
  clear h1 bc1 br1 k1 hch
  go_wp2_with fail
  refine (rd_open' (List.length_replicate ..) T1.out hb64.2).mono ?_
  rintro e w2 ⟨gr, rfl, hrd, hgr, hk⟩
  have R := Hd.mk (hrd.cast (zeros_parts n (by omega)))
  have bc := Bc.out.keep hk (fun e => e)
  have br := Br.out.keep hk (fun e => e)
  have hgr2 : w.heap.size + 2 ≤ gr := by omega
  have K := Hd.mk (K1.out.trans hk (U := fun k => w.heap.size ≤ k) (fun _ _ e => e.elim) (fun _ _ e => e.elim))
  clear hrd hk Bc Br K1 T1 H hgr z0 z1
  go_wp2_with fail
  refine (rd_num 1 0 (by omega) (by decide) R.out).mono ?_
  clear R
  rintro e w3 ⟨rfl, hrd, hk⟩
  have R := Hd.mk hrd
  replace bc := bc.keep hk (by omega)
  replace br := br.keep hk (by omega)
  have K' := Hd.mk (K.out.trans hk (U := fun k => w.heap.size ≤ k) (fun _ _ e => e) (fun _ _ e => by omega))
  clear K
  have K := K'
  clear K' hrd hk
  go_wp2_with fail
  refine (rd_num 1 0 (by omega) (by decide) R.out).mono ?_
  clear R
  rintro e w4 ⟨rfl, hrd, hk⟩
  have R := Hd.mk hrd
  replace bc := bc.keep hk (by omega)
  replace br := br.keep hk (by omega)
  have K' := Hd.mk (K.out.trans hk (U := fun k => w.heap.size ≤ k) (fun _ _ e => e) (fun _ _ e => by omega))
  clear K
  have K := K'
  clear K' hrd hk
  go_wp2_with fail
  refine (rd_num 2 0 (by omega) (by decide) R.out).mono ?_
  clear R
  rintro e w5 ⟨rfl, hrd, hk⟩
  have R := Hd.mk hrd
  replace bc := bc.keep hk (by omega)
  replace br := br.keep hk (by omega)
  have K' := Hd.mk (K.out.trans hk (U := fun k => w.heap.size ≤ k) (fun _ _ e => e) (fun _ _ e => by omega))
  clear K
  have K := K'
  clear K' hrd hk
  go_wp2_with fail
  refine (rd_num 2 0 (by omega) (by decide) R.out).mono ?_
  clear R
  rintro e w6 ⟨rfl, hrd, hk⟩
  have R := Hd.mk hrd
  replace bc := bc.keep hk (by omega)
  replace br := br.keep hk (by omega)
  have K' := Hd.mk (K.out.trans hk (U := fun k => w.heap.size ≤ k) (fun _ _ e => e) (fun _ _ e => by omega))
  clear K
  have K := K'
  clear K' hrd hk
  go_wp2_with fail
  refine (rd_zeros R.out (by omega)).mono ?_
  clear R
  rintro e w7 ⟨rfl, hrd, hk⟩
  have R := Hd.mk hrd
  replace bc := bc.keep hk (by omega)
  replace br := br.keep hk (by omega)
  have K' := Hd.mk (K.out.trans hk (U := fun k => w.heap.size ≤ k) (fun _ _ e => e) (fun _ _ e => by omega))
  clear K
  have K := K'
  clear K' hrd hk
  go_wp2_with fail
  have bn := Blk.new w7 42 #[.int .i64 (-1), nilV, nilV, nilV, nilV]
  replace bc := bc.alloc (.cells #[.int .i64 (-1), nilV, nilV, nilV, nilV] 42)
  replace br := br.alloc (.cells #[.int .i64 (-1), nilV, nilV, nilV, nilV] 42)
  have K' := Hd.mk (K.out.alloc (.cells #[.int .i64 (-1), nilV, nilV, nilV, nilV] 42))
  have R' := R.out.keep (((Keeps.refl (fun _ => False) w7).alloc (.cells #[.int .i64 (-1), nilV, nilV, nilV, nilV] 42))) (fun _ _ e => e)
  generalize (w7.alloc (.cells #[.int .i64 (-1), nilV, nilV, nilV, nilV] 42)) = w8 at *
  refine (rd_err R').mono ?_
  rintro e w' ⟨rfl, rfl⟩
  obtain ⟨c0, c1, c2, c3, c4, c5, c6, c7⟩ := Cfg.at bc
  obtain ⟨n0, n1, n2, n3, n4⟩ := bn.five
  have Br := Hd.mk br
  clear K R R' br bc bn
  go_wp2_with fail
  refine (HE _ _ _ _ _ rfl rfl rfl rfl).mono ?_
  rintro e w9 ⟨rfl, hk⟩
  have br := Br.out.keep hk (fun e => e)
  obtain ⟨r0, r1, r2, r3, r4⟩ := br.five
  have f : ∀ k, _ := br.frozen
  have K9 := Hd.mk (K'.out.trans hk (U := fun k => w.heap.size ≤ k) (fun _ _ e => e) (fun _ _ e => e.elim))
  have B5 := Hd.mk (((((br.set_ 0 (.int .i64 0)).set_ 1 nilV).set_ 2 nilV).set_ 3 nilV).set_ 4 nilV)
  clear hk br HE
  go_wp2_with fail
  have q0 : World.cell? _ ⟨w.heap.size + 1, 0, none⟩ = some (.int .i64 0) := B5.out.cell 0
  have q1 : World.cell? _ ⟨w.heap.size + 1, 1, none⟩ = some nilV := B5.out.cell 1
  have q2 : World.cell? _ ⟨w.heap.size + 1, 2, none⟩ = some nilV := B5.out.cell 2
  have q3 : World.cell? _ ⟨w.heap.size + 1, 3, none⟩ = some nilV := B5.out.cell 3
  have q4 : World.cell? _ ⟨w.heap.size + 1, 4, none⟩ = some nilV := B5.out.cell 4
  refine bodyPost_ret (v := .tuple #[.agg #[.int .i64 0, nilV, nilV, nilV, nilV], .int .i64 12]) (by simp [results, Tryz.results35, go_sem, q0, q1, q2, q3, q4]) rfl ⟨rfl, ?_⟩
  refine Keeps.old ?_
  exact ((((K9.out.setCell (p := ⟨w.heap.size + 1, 0, none⟩) (fun _ => Nat.le_succ _) _).setCell (p := ⟨w.heap.size + 1, 1, none⟩) (fun _ => Nat.le_succ _) _).setCell (p := ⟨w.heap.size + 1, 2, none⟩) (fun _ => Nat.le_succ _) _).setCell (p := ⟨w.heap.size + 1, 3, none⟩) (fun _ => Nat.le_succ _) _).setCell (p := ⟨w.heap.size + 1, 4, none⟩) (fun _ => Nat.le_succ _) _

end Go.Proofs.Sg
