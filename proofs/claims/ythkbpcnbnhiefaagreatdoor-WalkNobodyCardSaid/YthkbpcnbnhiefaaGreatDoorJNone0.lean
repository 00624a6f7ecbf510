/- A shelf that nobody made: nil, or noughts. -/
import Derived.Test.YthkbpcnbnhiefaaGreatDoorKShelf
namespace Go.Proofs.Sg
set_option linter.unusedSimpArgs false
set_option linter.unusedVariables false
open Go.RowKit Go.Lib

def noCells : Array Value := #[.int .i64 0, .int .i64 0, .int .i64 0, .int .i64 0, .int .i64 0, .int .i64 0, .int .i64 0, .int .i64 0, .pointer none, .pointer none, .pointer none, .int .u32 0]
def IsNo (w : World) (p : Option Addr) : Prop := p = none ∨ ∃ g, p = some ⟨g, 0, none⟩ ∧ Blk w g 119 noCells

section
variable {w w' : World}

theorem IsNo.keep {p : Option Addr} {T : Nat → Prop} (h : IsNo w p) (hk : Keeps T w w') (hT : ∀ g, p = some ⟨g, 0, none⟩ → ¬ T g) : IsNo w' p := by
  rcases h with rfl | ⟨g, rfl, hb⟩
  · exact .inl rfl
  · exact .inr ⟨g, rfl, hb.keep hk (hT g rfl)⟩
theorem IsNo.keep0 {p : Option Addr} (h : IsNo w p) (hk : Keeps (fun _ => False) w w') : IsNo w' p := h.keep hk (fun _ _ e => e)

theorem pool_free_nil : Calls Tryz.prog 101 #[.pointer none] w fun e w' => e = .returned (.int .i64 0) ∧ w = w' := by
  have hn : Calls Tryz.prog 123 #[.pointer none] w fun e w' => e = .returned (.bool true) ∧ w = w' := by
    go_enter Tryz.func123, Tryz.ntmps123
    go_wp2
    go_ret
    exact ⟨rfl, rfl⟩
  go_enter Tryz.func101, Tryz.ntmps101
  go_wp2_with fail
  refine hn.mono ?_
  rintro e w' ⟨rfl, rfl⟩
  go_wp2
  go_ret
  exact ⟨rfl, rfl⟩

theorem pool_none_nil : Calls Tryz.prog 123 #[.pointer none] w fun e w' => e = .returned (.bool true) ∧ w = w' := by
  go_enter Tryz.func123, Tryz.ntmps123
  go_wp2
  go_ret
  exact ⟨rfl, rfl⟩

theorem pool_has_nil (i : Nat) : Calls Tryz.prog 64 #[.pointer none, .int .u32 i] w fun e w' => e = .returned (.bool false) ∧ w = w' := by
  go_enter Tryz.func64, Tryz.ntmps64
  go_wp2_with fail
  refine pool_none_nil.mono ?_
  rintro e w' ⟨rfl, rfl⟩
  go_wp2
  go_ret
  exact ⟨rfl, rfl⟩

theorem pool_row_nil : Calls Tryz.prog 99 #[.pointer none] w fun e w' => e = .returned (.slice none 0 0) ∧ w = w' := by
  go_enter Tryz.func99, Tryz.ntmps99
  go_wp2_with fail
  refine pool_none_nil.mono ?_
  rintro e w' ⟨rfl, rfl⟩
  go_wp2
  go_ret
  exact ⟨rfl, rfl⟩

theorem dev_stats_nil : Calls Tryz.prog 43 #[.pointer none] w fun e w' => e = .returned (.agg #[.int .u64 0, .int .u64 0]) ∧ Keeps (fun _ => False) w w' := by
  go_enter Tryz.func43, Tryz.ntmps43
  go_wp2
  refine bodyPost_ret (v := .agg #[.int .u64 0, .int .u64 0]) (by simp [results, Tryz.results43, go_sem]) rfl ⟨rfl, ?_⟩
  refine Keeps.of_below ?_
  go_grown

theorem no_there {p : Option Addr} (h : IsNo w p) (i : Nat) : Calls Tryz.prog 65 #[.pointer p, .int .u32 i] w fun e w' => e = .returned (.int .i64 1) ∧ w = w' := by
  rcases h with rfl | ⟨g, rfl, hb⟩
  · go_enter Tryz.func65, Tryz.ntmps65
    go_wp2
    go_ret
    exact ⟨rfl, rfl⟩
  · obtain ⟨c0, c1, c2, c3, c4, c5, c6, c7, c8, c9, c10, c11⟩ : w.cell? ⟨g, 0, none⟩ = some (.int .i64 0) ∧ w.cell? ⟨g, 1, none⟩ = some (.int .i64 0) ∧ w.cell? ⟨g, 2, none⟩ = some (.int .i64 0) ∧ w.cell? ⟨g, 3, none⟩ = some (.int .i64 0) ∧ w.cell? ⟨g, 4, none⟩ = some (.int .i64 0) ∧ w.cell? ⟨g, 5, none⟩ = some (.int .i64 0) ∧ w.cell? ⟨g, 6, none⟩ = some (.int .i64 0) ∧ w.cell? ⟨g, 7, none⟩ = some (.int .i64 0) ∧ w.cell? ⟨g, 8, none⟩ = some (.pointer none) ∧ w.cell? ⟨g, 9, none⟩ = some (.pointer none) ∧ w.cell? ⟨g, 10, none⟩ = some (.pointer none) ∧ w.cell? ⟨g, 11, none⟩ = some (.int .u32 0) :=
      ⟨hb.cell 0, hb.cell 1, hb.cell 2, hb.cell 3, hb.cell 4, hb.cell 5, hb.cell 6, hb.cell 7, hb.cell 8, hb.cell 9, hb.cell 10, hb.cell 11⟩
    go_enter Tryz.func65, Tryz.ntmps65
    go_wp2
    go_ret
    exact ⟨rfl, rfl⟩

theorem no_made {p : Option Addr} (h : IsNo w p)  : Calls Tryz.prog 83 #[.pointer p] w fun e w' => e = .returned (.int .i64 1) ∧ w = w' := by
  rcases h with rfl | ⟨g, rfl, hb⟩
  · go_enter Tryz.func83, Tryz.ntmps83
    go_wp2
    go_ret
    exact ⟨rfl, rfl⟩
  · obtain ⟨c0, c1, c2, c3, c4, c5, c6, c7, c8, c9, c10, c11⟩ : w.cell? ⟨g, 0, none⟩ = some (.int .i64 0) ∧ w.cell? ⟨g, 1, none⟩ = some (.int .i64 0) ∧ w.cell? ⟨g, 2, none⟩ = some (.int .i64 0) ∧ w.cell? ⟨g, 3, none⟩ = some (.int .i64 0) ∧ w.cell? ⟨g, 4, none⟩ = some (.int .i64 0) ∧ w.cell? ⟨g, 5, none⟩ = some (.int .i64 0) ∧ w.cell? ⟨g, 6, none⟩ = some (.int .i64 0) ∧ w.cell? ⟨g, 7, none⟩ = some (.int .i64 0) ∧ w.cell? ⟨g, 8, none⟩ = some (.pointer none) ∧ w.cell? ⟨g, 9, none⟩ = some (.pointer none) ∧ w.cell? ⟨g, 10, none⟩ = some (.pointer none) ∧ w.cell? ⟨g, 11, none⟩ = some (.int .u32 0) :=
      ⟨hb.cell 0, hb.cell 1, hb.cell 2, hb.cell 3, hb.cell 4, hb.cell 5, hb.cell 6, hb.cell 7, hb.cell 8, hb.cell 9, hb.cell 10, hb.cell 11⟩
    go_enter Tryz.func83, Tryz.ntmps83
    go_wp2
    go_ret
    exact ⟨rfl, rfl⟩

theorem no_left {p : Option Addr} (h : IsNo w p)  : Calls Tryz.prog 45 #[.pointer p] w fun e w' => e = .returned (.int .i64 0) ∧ w = w' := by
  rcases h with rfl | ⟨g, rfl, hb⟩
  · go_enter Tryz.func45, Tryz.ntmps45
    go_wp2
    go_ret
    exact ⟨rfl, rfl⟩
  · obtain ⟨c0, c1, c2, c3, c4, c5, c6, c7, c8, c9, c10, c11⟩ : w.cell? ⟨g, 0, none⟩ = some (.int .i64 0) ∧ w.cell? ⟨g, 1, none⟩ = some (.int .i64 0) ∧ w.cell? ⟨g, 2, none⟩ = some (.int .i64 0) ∧ w.cell? ⟨g, 3, none⟩ = some (.int .i64 0) ∧ w.cell? ⟨g, 4, none⟩ = some (.int .i64 0) ∧ w.cell? ⟨g, 5, none⟩ = some (.int .i64 0) ∧ w.cell? ⟨g, 6, none⟩ = some (.int .i64 0) ∧ w.cell? ⟨g, 7, none⟩ = some (.int .i64 0) ∧ w.cell? ⟨g, 8, none⟩ = some (.pointer none) ∧ w.cell? ⟨g, 9, none⟩ = some (.pointer none) ∧ w.cell? ⟨g, 10, none⟩ = some (.pointer none) ∧ w.cell? ⟨g, 11, none⟩ = some (.int .u32 0) :=
      ⟨hb.cell 0, hb.cell 1, hb.cell 2, hb.cell 3, hb.cell 4, hb.cell 5, hb.cell 6, hb.cell 7, hb.cell 8, hb.cell 9, hb.cell 10, hb.cell 11⟩
    go_enter Tryz.func45, Tryz.ntmps45
    go_wp2_with fail
    refine pool_free_nil.mono ?_
    rintro e w' ⟨rfl, rfl⟩
    go_wp2
    go_ret
    exact ⟨rfl, rfl⟩

theorem no_has {p : Option Addr} (h : IsNo w p) (i : Nat) : Calls Tryz.prog 18 #[.pointer p, .int .u32 i] w fun e w' => e = .returned (.bool false) ∧ w = w' := by
  rcases h with rfl | ⟨g, rfl, hb⟩
  · go_enter Tryz.func18, Tryz.ntmps18
    go_wp2
    go_ret
    exact ⟨rfl, rfl⟩
  · obtain ⟨c0, c1, c2, c3, c4, c5, c6, c7, c8, c9, c10, c11⟩ : w.cell? ⟨g, 0, none⟩ = some (.int .i64 0) ∧ w.cell? ⟨g, 1, none⟩ = some (.int .i64 0) ∧ w.cell? ⟨g, 2, none⟩ = some (.int .i64 0) ∧ w.cell? ⟨g, 3, none⟩ = some (.int .i64 0) ∧ w.cell? ⟨g, 4, none⟩ = some (.int .i64 0) ∧ w.cell? ⟨g, 5, none⟩ = some (.int .i64 0) ∧ w.cell? ⟨g, 6, none⟩ = some (.int .i64 0) ∧ w.cell? ⟨g, 7, none⟩ = some (.int .i64 0) ∧ w.cell? ⟨g, 8, none⟩ = some (.pointer none) ∧ w.cell? ⟨g, 9, none⟩ = some (.pointer none) ∧ w.cell? ⟨g, 10, none⟩ = some (.pointer none) ∧ w.cell? ⟨g, 11, none⟩ = some (.int .u32 0) :=
      ⟨hb.cell 0, hb.cell 1, hb.cell 2, hb.cell 3, hb.cell 4, hb.cell 5, hb.cell 6, hb.cell 7, hb.cell 8, hb.cell 9, hb.cell 10, hb.cell 11⟩
    go_enter Tryz.func18, Tryz.ntmps18
    go_wp2_with fail
    refine (pool_has_nil i).mono ?_
    rintro e w' ⟨rfl, rfl⟩
    go_wp2
    go_ret
    exact ⟨rfl, rfl⟩

theorem no_held {p : Option Addr} (h : IsNo w p)  : Calls Tryz.prog 42 #[.pointer p] w fun e w' => e = .returned (.slice none 0 0) ∧ w = w' := by
  rcases h with rfl | ⟨g, rfl, hb⟩
  · go_enter Tryz.func42, Tryz.ntmps42
    go_wp2
    go_ret
    exact ⟨rfl, rfl⟩
  · obtain ⟨c0, c1, c2, c3, c4, c5, c6, c7, c8, c9, c10, c11⟩ : w.cell? ⟨g, 0, none⟩ = some (.int .i64 0) ∧ w.cell? ⟨g, 1, none⟩ = some (.int .i64 0) ∧ w.cell? ⟨g, 2, none⟩ = some (.int .i64 0) ∧ w.cell? ⟨g, 3, none⟩ = some (.int .i64 0) ∧ w.cell? ⟨g, 4, none⟩ = some (.int .i64 0) ∧ w.cell? ⟨g, 5, none⟩ = some (.int .i64 0) ∧ w.cell? ⟨g, 6, none⟩ = some (.int .i64 0) ∧ w.cell? ⟨g, 7, none⟩ = some (.int .i64 0) ∧ w.cell? ⟨g, 8, none⟩ = some (.pointer none) ∧ w.cell? ⟨g, 9, none⟩ = some (.pointer none) ∧ w.cell? ⟨g, 10, none⟩ = some (.pointer none) ∧ w.cell? ⟨g, 11, none⟩ = some (.int .u32 0) :=
      ⟨hb.cell 0, hb.cell 1, hb.cell 2, hb.cell 3, hb.cell 4, hb.cell 5, hb.cell 6, hb.cell 7, hb.cell 8, hb.cell 9, hb.cell 10, hb.cell 11⟩
    go_enter Tryz.func42, Tryz.ntmps42
    go_wp2_with fail
    refine pool_row_nil.mono ?_
    rintro e w' ⟨rfl, rfl⟩
    go_wp2
    go_ret
    exact ⟨rfl, rfl⟩

theorem no_free {p : Option Addr} (h : IsNo w p) (i : Nat) : Calls Tryz.prog 56 #[.pointer p, .int .u32 i] w fun e w' => e = .returned (.int .i64 1) ∧ w = w' := by
  go_enter Tryz.func56, Tryz.ntmps56
  go_wp2_with fail
  refine (no_there h i).mono ?_
  rintro e w' ⟨rfl, rfl⟩
  go_wp2
  go_ret
  exact ⟨rfl, rfl⟩

theorem no_mark {p : Option Addr} (h : IsNo w p) (i : Nat) : Calls Tryz.prog 57 #[.pointer p, .int .u32 i] w fun e w' => e = .returned (.int .i64 1) ∧ w = w' := by
  go_enter Tryz.func57, Tryz.ntmps57
  go_wp2_with fail
  refine (no_there h i).mono ?_
  rintro e w' ⟨rfl, rfl⟩
  go_wp2
  go_ret
  exact ⟨rfl, rfl⟩

theorem no_flush {p : Option Addr} (h : IsNo w p)  : Calls Tryz.prog 33 #[.pointer p] w fun e w' => e = .returned (.int .i64 1) ∧ w = w' := by
  go_enter Tryz.func33, Tryz.ntmps33
  go_wp2_with fail
  refine (no_made h).mono ?_
  rintro e w' ⟨rfl, rfl⟩
  go_wp2
  go_ret
  exact ⟨rfl, rfl⟩

theorem no_keep {p : Option Addr} (h : IsNo w p) (i : Nat) : Calls Tryz.prog 58 #[.pointer p, .int .u32 i] w fun e w' => e = .returned (.int .i64 1) ∧ w = w' := by
  by_cases hi : i = 0
  · subst hi
    go_enter Tryz.func58, Tryz.ntmps58
    go_wp2_with fail
    refine (no_made h).mono ?_
    rintro e w' ⟨rfl, rfl⟩
    go_wp2
    go_ret
    exact ⟨rfl, rfl⟩
  · have hz : ((i : Int) == 0) = false := by simp; omega
    go_enter Tryz.func58, Tryz.ntmps58
    go_wp2_with fail
    refine (no_there h i).mono ?_
    rintro e w' ⟨rfl, rfl⟩
    go_wp2
    go_ret
    exact ⟨rfl, rfl⟩

theorem no_load {p : Option Addr} (h : IsNo w p) (i : Nat) : Calls Tryz.prog 21 #[.pointer p, .int .u32 i] w fun e w' => e = .returned (.tuple #[nodeV 0 nilV nilV nilV nilV, .int .i64 1]) ∧ Keeps (fun _ => False) w w' := by
  have ht := no_there (h.keep0 ((Keeps.refl (fun _ => False) w).alloc (.cells #[.int .i64 0, nilV, nilV, nilV, nilV] 42))) i
  unfold nodeV
  go_enter Tryz.func21, Tryz.ntmps21
  go_wp2_with fail
  refine ht.mono ?_
  rintro e w' ⟨rfl, rfl⟩
  clear ht
  go_wp2_with fail
  refine bodyPost_ret (v := .tuple #[.agg #[.int .i64 0, nilV, nilV, nilV, nilV], .int .i64 1]) (by simp [results, Tryz.results21, go_sem]) rfl ⟨rfl, ?_⟩
  exact (Keeps.refl (fun _ => False) w).alloc _

theorem no_make {p : Option Addr} (h : IsNo w p) (l : Int) (a1 a2 a3 a4 : Value) (h1 : a1.oneCell' = true) (h2 : a2.oneCell' = true) (h3 : a3.oneCell' = true) (h4 : a4.oneCell' = true) :
    Calls Tryz.prog 55 #[.pointer p, nodeV l a1 a2 a3 a4] w fun e w' => e = .returned (.tuple #[.int .u32 0, .int .i64 1]) ∧ Keeps (fun _ => False) w w' := by
  have ht := no_made (h.keep0 ((Keeps.refl (fun _ => False) w).alloc (.cells #[.int .i64 l, a1, a2, a3, a4] 42)))
  unfold nodeV
  go_enter Tryz.func55, Tryz.ntmps55
  go_wp2_with fail
  refine ht.mono ?_
  rintro e w' ⟨rfl, rfl⟩
  clear ht
  go_wp2_with fail
  go_ret2
  exact ⟨rfl, (Keeps.refl (fun _ => False) w).alloc _⟩

theorem no_save {p : Option Addr} (h : IsNo w p) (i : Nat) (l : Int) (a1 a2 a3 a4 : Value) (h1 : a1.oneCell' = true) (h2 : a2.oneCell' = true) (h3 : a3.oneCell' = true) (h4 : a4.oneCell' = true) :
    Calls Tryz.prog 22 #[.pointer p, .int .u32 i, nodeV l a1 a2 a3 a4] w fun e w' => e = .returned (.int .i64 1) ∧ Keeps (fun _ => False) w w' := by
  have ht := no_there (h.keep0 ((Keeps.refl (fun _ => False) w).alloc (.cells #[.int .i64 l, a1, a2, a3, a4] 42))) i
  unfold nodeV
  go_enter Tryz.func22, Tryz.ntmps22
  go_wp2_with fail
  refine ht.mono ?_
  rintro e w' ⟨rfl, rfl⟩
  clear ht
  go_wp2_with fail
  go_ret
  exact ⟨rfl, (Keeps.refl (fun _ => False) w).alloc _⟩

theorem no_config {p : Option Addr} (h : IsNo w p)  : Calls Tryz.prog 48 #[.pointer p] w fun e w' => e = .returned (.agg #[.int .i64 0, .int .i64 0, .int .i64 0, .int .i64 0, .int .i64 0, .int .i64 0, .int .i64 0, .int .i64 0]) ∧ Keeps (fun _ => False) w w' := by
  rcases h with rfl | ⟨g, rfl, hb⟩
  · go_enter Tryz.func48, Tryz.ntmps48
    go_wp2_with fail
    refine bodyPost_ret (v := (.agg #[.int .i64 0, .int .i64 0, .int .i64 0, .int .i64 0, .int .i64 0, .int .i64 0, .int .i64 0, .int .i64 0])) (by simp [results, Tryz.results48, go_sem]) rfl ⟨rfl, ?_⟩
    repeat refine Keeps.setCell ?_ (fun h => absurd h (Nat.lt_irrefl _)) _
    exact (Keeps.refl (fun _ => False) w).alloc _
  · obtain ⟨c0, c1, c2, c3, c4, c5, c6, c7, c8, c9, c10, c11⟩ : (w.alloc (.cells #[.int .i64 0, .int .i64 0, .int .i64 0, .int .i64 0, .int .i64 0, .int .i64 0, .int .i64 0, .int .i64 0] 23)).cell? ⟨g, 0, none⟩ = some (.int .i64 0) ∧ (w.alloc (.cells #[.int .i64 0, .int .i64 0, .int .i64 0, .int .i64 0, .int .i64 0, .int .i64 0, .int .i64 0, .int .i64 0] 23)).cell? ⟨g, 1, none⟩ = some (.int .i64 0) ∧ (w.alloc (.cells #[.int .i64 0, .int .i64 0, .int .i64 0, .int .i64 0, .int .i64 0, .int .i64 0, .int .i64 0, .int .i64 0] 23)).cell? ⟨g, 2, none⟩ = some (.int .i64 0) ∧ (w.alloc (.cells #[.int .i64 0, .int .i64 0, .int .i64 0, .int .i64 0, .int .i64 0, .int .i64 0, .int .i64 0, .int .i64 0] 23)).cell? ⟨g, 3, none⟩ = some (.int .i64 0) ∧ (w.alloc (.cells #[.int .i64 0, .int .i64 0, .int .i64 0, .int .i64 0, .int .i64 0, .int .i64 0, .int .i64 0, .int .i64 0] 23)).cell? ⟨g, 4, none⟩ = some (.int .i64 0) ∧ (w.alloc (.cells #[.int .i64 0, .int .i64 0, .int .i64 0, .int .i64 0, .int .i64 0, .int .i64 0, .int .i64 0, .int .i64 0] 23)).cell? ⟨g, 5, none⟩ = some (.int .i64 0) ∧ (w.alloc (.cells #[.int .i64 0, .int .i64 0, .int .i64 0, .int .i64 0, .int .i64 0, .int .i64 0, .int .i64 0, .int .i64 0] 23)).cell? ⟨g, 6, none⟩ = some (.int .i64 0) ∧ (w.alloc (.cells #[.int .i64 0, .int .i64 0, .int .i64 0, .int .i64 0, .int .i64 0, .int .i64 0, .int .i64 0, .int .i64 0] 23)).cell? ⟨g, 7, none⟩ = some (.int .i64 0) ∧ (w.alloc (.cells #[.int .i64 0, .int .i64 0, .int .i64 0, .int .i64 0, .int .i64 0, .int .i64 0, .int .i64 0, .int .i64 0] 23)).cell? ⟨g, 8, none⟩ = some (.pointer none) ∧ (w.alloc (.cells #[.int .i64 0, .int .i64 0, .int .i64 0, .int .i64 0, .int .i64 0, .int .i64 0, .int .i64 0, .int .i64 0] 23)).cell? ⟨g, 9, none⟩ = some (.pointer none) ∧ (w.alloc (.cells #[.int .i64 0, .int .i64 0, .int .i64 0, .int .i64 0, .int .i64 0, .int .i64 0, .int .i64 0, .int .i64 0] 23)).cell? ⟨g, 10, none⟩ = some (.pointer none) ∧ (w.alloc (.cells #[.int .i64 0, .int .i64 0, .int .i64 0, .int .i64 0, .int .i64 0, .int .i64 0, .int .i64 0, .int .i64 0] 23)).cell? ⟨g, 11, none⟩ = some (.int .u32 0) :=
      ⟨(hb.alloc _).cell 0, (hb.alloc _).cell 1, (hb.alloc _).cell 2, (hb.alloc _).cell 3, (hb.alloc _).cell 4, (hb.alloc _).cell 5, (hb.alloc _).cell 6, (hb.alloc _).cell 7, (hb.alloc _).cell 8, (hb.alloc _).cell 9, (hb.alloc _).cell 10, (hb.alloc _).cell 11⟩
    go_enter Tryz.func48, Tryz.ntmps48
    go_wp2_with fail
    refine bodyPost_ret (v := (.agg #[.int .i64 0, .int .i64 0, .int .i64 0, .int .i64 0, .int .i64 0, .int .i64 0, .int .i64 0, .int .i64 0])) (by simp [results, Tryz.results48, go_sem]) rfl ⟨rfl, ?_⟩
    repeat refine Keeps.setCell ?_ (fun h => absurd h (Nat.lt_irrefl _)) _
    exact (Keeps.refl (fun _ => False) w).alloc _

theorem no_stats {p : Option Addr} (h : IsNo w p)  : Calls Tryz.prog 49 #[.pointer p] w fun e w' => e = .returned (.agg #[.int .u64 0, .int .u64 0]) ∧ Keeps (fun _ => False) w w' := by
  rcases h with rfl | ⟨g, rfl, hb⟩
  · go_enter Tryz.func49, Tryz.ntmps49
    go_wp2_with fail
    refine bodyPost_ret (v := (.agg #[.int .u64 0, .int .u64 0])) (by simp [results, Tryz.results49, go_sem]) rfl ⟨rfl, ?_⟩
    repeat refine Keeps.setCell ?_ (fun h => absurd h (Nat.lt_irrefl _)) _
    exact (Keeps.refl (fun _ => False) w).alloc _
  · obtain ⟨c0, c1, c2, c3, c4, c5, c6, c7, c8, c9, c10, c11⟩ : (w.alloc (.cells #[.int .u64 0, .int .u64 0] 103)).cell? ⟨g, 0, none⟩ = some (.int .i64 0) ∧ (w.alloc (.cells #[.int .u64 0, .int .u64 0] 103)).cell? ⟨g, 1, none⟩ = some (.int .i64 0) ∧ (w.alloc (.cells #[.int .u64 0, .int .u64 0] 103)).cell? ⟨g, 2, none⟩ = some (.int .i64 0) ∧ (w.alloc (.cells #[.int .u64 0, .int .u64 0] 103)).cell? ⟨g, 3, none⟩ = some (.int .i64 0) ∧ (w.alloc (.cells #[.int .u64 0, .int .u64 0] 103)).cell? ⟨g, 4, none⟩ = some (.int .i64 0) ∧ (w.alloc (.cells #[.int .u64 0, .int .u64 0] 103)).cell? ⟨g, 5, none⟩ = some (.int .i64 0) ∧ (w.alloc (.cells #[.int .u64 0, .int .u64 0] 103)).cell? ⟨g, 6, none⟩ = some (.int .i64 0) ∧ (w.alloc (.cells #[.int .u64 0, .int .u64 0] 103)).cell? ⟨g, 7, none⟩ = some (.int .i64 0) ∧ (w.alloc (.cells #[.int .u64 0, .int .u64 0] 103)).cell? ⟨g, 8, none⟩ = some (.pointer none) ∧ (w.alloc (.cells #[.int .u64 0, .int .u64 0] 103)).cell? ⟨g, 9, none⟩ = some (.pointer none) ∧ (w.alloc (.cells #[.int .u64 0, .int .u64 0] 103)).cell? ⟨g, 10, none⟩ = some (.pointer none) ∧ (w.alloc (.cells #[.int .u64 0, .int .u64 0] 103)).cell? ⟨g, 11, none⟩ = some (.int .u32 0) :=
      ⟨(hb.alloc _).cell 0, (hb.alloc _).cell 1, (hb.alloc _).cell 2, (hb.alloc _).cell 3, (hb.alloc _).cell 4, (hb.alloc _).cell 5, (hb.alloc _).cell 6, (hb.alloc _).cell 7, (hb.alloc _).cell 8, (hb.alloc _).cell 9, (hb.alloc _).cell 10, (hb.alloc _).cell 11⟩
    go_enter Tryz.func49, Tryz.ntmps49
    go_wp2_with fail
    refine dev_stats_nil.mono ?_
    rintro e w1 ⟨rfl, hk⟩
    have br := (Blk.new w 103 #[.int .u64 0, .int .u64 0]).keep hk (fun e => e)
    have y0 : w1.cell? ⟨w.heap.size, 0, none⟩ = some (.int .u64 0) := br.cell 0
    have y1 : w1.cell? ⟨w.heap.size, 1, none⟩ = some (.int .u64 0) := br.cell 1
    have fz : ∀ k, _ := br.frozen
    have B5 := Hd.mk ((br.set_ 0 (.int .u64 0)).set_ 1 (.int .u64 0))
    have K := Hd.mk (((Keeps.refl (fun _ => False) w).alloc _).trans hk (U := fun _ => False) (fun _ _ e => e) (fun _ _ e => e))
    clear hk br
    go_wp2_with fail
    have q0 : World.cell? _ ⟨w.heap.size, 0, none⟩ = some (.int .u64 0) := B5.out.cell 0
    have q1 : World.cell? _ ⟨w.heap.size, 1, none⟩ = some (.int .u64 0) := B5.out.cell 1
    refine bodyPost_ret (v := (.agg #[.int .u64 0, .int .u64 0])) (by simp [results, Tryz.results49, go_sem, q0, q1]) rfl ⟨rfl, ?_⟩
    exact (K.out.setCell (p := ⟨w.heap.size, 0, none⟩) (fun h => absurd h (Nat.lt_irrefl _)) _).setCell (p := ⟨w.heap.size, 1, none⟩) (fun h => absurd h (Nat.lt_irrefl _)) _

end
end Go.Proofs.Sg
