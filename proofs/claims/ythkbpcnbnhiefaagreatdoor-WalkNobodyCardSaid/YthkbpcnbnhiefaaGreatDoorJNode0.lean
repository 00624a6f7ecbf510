/- A leaf with no pairs, and a node of no Level: are they right? What are their bytes? -/
import Derived.LoopTactic
import Derived.Test.YthkbpcnbnhiefaaGreatDoorJCode0
import Derived.Test.YthkbpcnbnhiefaaGreatDoorJConf5
namespace Go.Proofs.Sg
set_option linter.unusedSimpArgs false
set_option linter.unusedVariables false
open Go.RowKit Go.Lib

def nodeV (l : Int) (k p b r : Value) : Value := .agg #[.int .i64 l, k, p, b, r]
def spanV (lo hi : ByteArray) (top : Bool) : Value := .agg #[.string lo, .string hi, .bool top]
abbrev allV : Value := spanV .empty .empty true

theorem lex_all {w : World} : Calls Tryz.prog 62 #[] w fun e w' => e = .returned allV ∧ Keeps (fun _ => False) w w' := by
  go_enter Tryz.func62, Tryz.ntmps62
  go_wp2_with fail
  refine bodyPost_ret (v := allV) (by simp [results, Tryz.results62, go_sem, spanV]; rfl) rfl ⟨rfl, ?_⟩
  refine Keeps.of_below ?_
  go_grown

theorem leaf_right_none {w : World} (p : Option Addr) (c : Nat) : Calls Tryz.prog 214 #[.slice p 0 c] w fun e w' => e = .returned (.bool true) ∧ w = w' := by
  go_enter Tryz.func214, Tryz.ntmps214
  go_wp2_with fail
  refine wp_loop_rounds 1 ?_
  rw [rounds_succ]
  go_wp2
  go_ret
  exact ⟨rfl, rfl⟩

theorem index_none {w : World} (p : Option Addr) (c : Nat) (f : Value) : Calls Tryz.prog 239 #[.slice p 0 c, f] w fun e w' => e = .returned (.int .i64 (-1)) ∧ w = w' := by
  go_enter Tryz.func239, Tryz.ntmps239
  go_wp2_with fail
  refine wp_loop_rounds 1 ?_
  rw [rounds_succ]
  go_wp2
  go_ret
  exact ⟨rfl, rfl⟩

theorem contains_none {w : World} (p : Option Addr) (c : Nat) (f : Value) : Calls Tryz.prog 215 #[.slice p 0 c, f] w fun e w' => e = .returned (.bool false) ∧ w = w' := by
  go_enter Tryz.func215, Tryz.ntmps215
  go_wp2_with fail
  refine (index_none p c f).mono ?_
  rintro e w' ⟨rfl, rfl⟩
  go_wp2
  go_ret
  exact ⟨rfl, rfl⟩

theorem node_outer_none {w : World} (c : Cfg) (_hc : c.In) (hs : 0 ≤ c.leaf) (sp : Value) (lo hi : ByteArray) (top : Bool) (hsp : sp = spanV lo hi top) (l : Int) (p1 p2 p3 p4 : Option Addr) (c1 c2 c3 c4 : Nat) :
    Calls Tryz.prog 170 #[c.v, sp, nodeV l (.slice p1 0 c1) (.slice p2 0 c2) (.slice p3 0 c3) (.slice p4 0 c4)] w fun e w' => e = .returned (.bool true) ∧ Keeps (fun _ => False) w w' := by
  subst hsp
  have hf : ¬ c.leaf < 0 := by omega
  unfold Cfg.v nodeV spanV
  go_enter Tryz.func170, Tryz.ntmps170
  go_wp2_with fail
  refine (leaf_right_none p4 c4).mono ?_
  rintro e w' ⟨rfl, rfl⟩
  go_wp2_with fail
  refine (contains_none p4 c4 _).mono ?_
  rintro e w' ⟨rfl, rfl⟩
  go_wp2
  go_ret
  refine ⟨rfl, Keeps.of_below ?_⟩
  go_grown

theorem node_right_none {w : World} (c : Cfg) (hc : c.In) (hs : 0 ≤ c.leaf) (lo hi : ByteArray) (top : Bool) (p1 p2 p3 p4 : Option Addr) (c1 c2 c3 c4 : Nat) :
    Calls Tryz.prog 118 #[c.v, spanV lo hi top, nodeV 0 (.slice p1 0 c1) (.slice p2 0 c2) (.slice p3 0 c3) (.slice p4 0 c4)] w fun e w' => e = .returned (.bool true) ∧ Keeps (fun _ => False) w w' := by
  have hn := fun w => node_outer_none (w := w) c hc hs _ lo hi top rfl 0 p1 p2 p3 p4 c1 c2 c3 c4
  unfold Cfg.v nodeV spanV at *
  go_enter Tryz.func118, Tryz.ntmps118
  go_wp2_with fail
  refine (hn _).mono ?_
  rintro e w' ⟨rfl, hk⟩
  have H := Hd.mk hk
  clear hk hn
  go_wp2_with fail
  go_ret
  refine ⟨rfl, ?_⟩
  exact ((((Keeps.refl (fun _ => False) w).alloc _).alloc _).alloc _).trans H.out (fun _ _ e => e) (fun _ _ e => e)

theorem node_right_neg {w : World} (c : Cfg) (l : Int) (hl : l < 0) (lo hi : ByteArray) (top : Bool) (k p b r : Value) (hk : k.oneCell' = true) (hp : p.oneCell' = true) (hb : b.oneCell' = true) (hr : r.oneCell' = true) :
    Calls Tryz.prog 118 #[c.v, spanV lo hi top, nodeV l k p b r] w fun e w' => e = .returned (.bool false) ∧ Keeps (fun _ => False) w w' := by
  unfold Cfg.v nodeV spanV at *
  go_enter Tryz.func118, Tryz.ntmps118
  go_wp2_with fail
  go_ret
  refine ⟨rfl, ?_⟩
  exact (((Keeps.refl (fun _ => False) w).alloc _).alloc _).alloc _

theorem write_outer_none {w : World} (c : Cfg) (l : Int) (p1 p2 p3 p4 : Option Addr) (c1 c2 c3 c4 : Nat) :
    Calls Tryz.prog 131 #[c.v, nodeV l (.slice p1 0 c1) (.slice p2 0 c2) (.slice p3 0 c3) (.slice p4 0 c4)] w fun e w' => ∃ v', e = .returned v' ∧ OwnB w' v' (frontB 1 0 0 0) ∧ Grew w w' (.slice none 0 0) v' := by
  unfold Cfg.v nodeV at *
  go_enter Tryz.func131, Tryz.ntmps131
  go_wp2_with fail
  refine (code_front 1 0 0 0 (by omega) (by omega) (by omega) (by omega)).mono ?_
  rintro e w1 ⟨v', rfl, ho, hg⟩
  have c4 : w1.cell? ⟨w.heap.size + 1, 4, none⟩ = some (.slice p4 0 c4) := by
    have h1 := (Blk.new (w.alloc (.cells #[.int .i64 c.blocks, .int .i64 c.bytes, .int .i64 c.frames, .int .i64 c.fan, .int .i64 c.buffer, .int .i64 c.leaf, .int .i64 c.key, .int .i64 c.val] 23)) 42 #[.int .i64 l, .slice p1 0 c1, .slice p2 0 c2, .slice p3 0 c3, .slice p4 0 c4]).keep hg.fresh (fun e => e)
    simpa using h1.cell 4
  have A1 := Hd.mk ho
  have A2 := Hd.mk hg
  clear ho hg
  go_wp2_with fail
  refine wp_loop_rounds 1 ?_
  rw [rounds_succ]
  go_wp2
  go_ret
  exact ⟨_, rfl, A1.out, (Grew.of_keeps (((Keeps.refl (fun _ => False) w).alloc _).alloc _)).trans A2.out⟩

end Go.Proofs.Sg
