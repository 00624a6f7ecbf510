/- Bytes that are one's own, and what is appended to them. -/
import Derived.Test.YthkbpcnbnhiefaaGreatDoorClone
import Derived.Test.YthkbpcnbnhiefaaGreatDoorPool
import Derived.Test.YthkbpcnbnhiefaaGreatDoorNew1
import Derived.Test.YthkbpcnbnhiefaaGreatDoorBe
import Derived.Lib.AppendStr
import Derived.Lib.AppendZerosOnto
namespace Go.Proofs.Sg
set_option linter.unusedSimpArgs false
set_option linter.unusedVariables false
open Go.RowKit Go.Lib

/-- A slice of bytes that is one's own: these bytes. -/
def OwnB (w : World) (v : Value) (xs : List UInt8) : Prop := w.ownsRow 0 5 1 v xs.length (xs.map bv)

/-- v's row alone has been written, and v' lies in it, or in a new block. -/
structure Grew (w w' : World) (v v' : Value) : Prop where
  keeps : Keeps (fun k => v.ownBlock = some k) w w'
  own : ∀ k, v'.ownBlock = some k → v.ownBlock = some k ∨ w.heap.size ≤ k

section
variable {w w' w1 w2 : World} {v v' v1 v2 : Value} {xs ys : List UInt8}

theorem Grew.refl (w : World) (v : Value) : Grew w w v v := ⟨Keeps.refl _ _, fun _ h => .inl h⟩
theorem Grew.trans (h : Grew w w1 v v1) (k : Grew w1 w2 v1 v2) : Grew w w2 v v2 :=
  ⟨h.keeps.trans k.keeps (fun _ _ e => e) (fun i hi e => by
    rcases h.own i e with e | e
    · exact e
    · omega), fun i e => by
    rcases k.own i e with e | e
    · exact h.own i e
    · exact .inr (Nat.le_trans h.keeps.size e)⟩
theorem Grew.of_below (h : Below w.heap.size w w') : Grew w w' v v := ⟨Keeps.of_below h, fun _ e => .inl e⟩
theorem Grew.of_keeps (h : Keeps (fun _ => False) w w') : Grew w w' v v := ⟨h.mono (fun _ _ e => e.elim), fun _ e => .inl e⟩
theorem Grew.below {B : Nat} (h : Grew w w' v v') (hB : B ≤ w.heap.size) (hv : ∀ k, v.ownBlock = some k → B ≤ k) : Below B w w' :=
  h.keeps.below hB (fun i hi e => by have := hv i e; omega)
theorem Grew.lo {B : Nat} (h : Grew w w' v v') (hB : B ≤ w.heap.size) (hv : ∀ k, v.ownBlock = some k → B ≤ k) : ∀ k, v'.ownBlock = some k → B ≤ k := fun k e => by
  rcases h.own k e with e | e
  · exact hv k e
  · omega
theorem Grew.blk {g : Nat} {t : TypeId} {cs : Array Value} (h : Grew w w' v v') (hb : Blk w g t cs) (hg : v.ownBlock ≠ some g) : Blk w' g t cs := hb.keep h.keeps hg
theorem Grew.ne {g : Nat} (h : Grew w w' v v') (hl : g < w.heap.size) (hg : v.ownBlock ≠ some g) : v'.ownBlock ≠ some g := fun e => by
  rcases h.own g e with e | e
  · exact hg e
  · omega

theorem OwnB.nil (w : World) : OwnB w (.slice none 0 0) [] := own_none _ _ _ _
theorem OwnB.lt (h : OwnB w v xs) {k : Nat} (e : v.ownBlock = some k) : k < w.heap.size := (World.ownsRow.lt h k e).2
theorem OwnB.keep_ (h : OwnB w v xs) (e : ∀ g, v.ownBlock = some g → w'.heap[g]? = w.heap[g]?) : OwnB w' v xs := by
  refine ⟨h.1, ?_⟩
  rcases h.2 with h1 | ⟨g, cap, cur, rfl, hb, hh, h3⟩
  · exact .inl h1
  · exact .inr ⟨g, cap, cur, rfl, hb, (e g rfl).trans hh, h3⟩
theorem OwnB.keep {S : Nat → Prop} (h : OwnB w v xs) (hk : Keeps S w w') (hS : ∀ g, v.ownBlock = some g → ¬ S g) : OwnB w' v xs :=
  h.keep_ fun g e => hk.block g (h.lt e) (hS g e)
theorem OwnB.below (h : OwnB w v xs) (hb : Below w.heap.size w w') : OwnB w' v xs := h.keep_ fun g e => hb.block g (h.lt e)
theorem OwnB.alloc (h : OwnB w v xs) (o : Obj) : OwnB (w.alloc o) v xs := h.keep_ fun g e => Below.heap_alloc w o g (h.lt e)
theorem OwnB.form (h : OwnB w v xs) : (v = .slice none 0 0 ∧ xs = []) ∨ ∃ g c, v = .slice (some ⟨g, 0, none⟩) xs.length c ∧ BytesAt w g 0 xs ∧ g < w.heap.size ∧ xs.length ≤ c ∧ ∃ cs, Blk w g 5 cs := by
  have h0 := h
  rcases h.2 with ⟨rfl, h1⟩ | ⟨g, cap, cur, rfl, hb, hh, hnc, hcm, hcs, htake⟩
  · exact .inl ⟨rfl, List.eq_nil_of_length_eq_zero h1⟩
  · refine .inr ⟨g, cap, rfl, fun j hj => ?_, (Array.getElem?_eq_some_iff.1 hh).1, hnc, cur, hh⟩
    have := World.ownsRow.cells h0 (g := g) rfl j (bv (xs.getD j 0)) (by simp [hj])
    have e : (⟨g, 0, none⟩ : Addr).add j = ⟨g, j, none⟩ := by unfold Addr.add; split <;> simp_all
    rw [e] at this
    rwa [Nat.zero_add]
theorem OwnB.at (h : OwnB w v xs) (hne : xs ≠ []) : ∃ g c, v = .slice (some ⟨g, 0, none⟩) xs.length c ∧ BytesAt w g 0 xs ∧ g < w.heap.size ∧ xs.length ≤ c ∧ ∃ cs, Blk w g 5 cs := by
  rcases h.form with ⟨_, h1⟩ | h1
  · exact absurd h1 hne
  · exact h1

theorem bv_one : ∀ u ∈ xs.map bv, u.oneCell' = true := by
  intro u hu
  obtain ⟨b, _, rfl⟩ := List.mem_map.1 hu
  rfl

theorem own_room {g n cap : Nat} {cur : Array Value} (hn : n = xs.length) (hg : w.heap[g]? = some (.cells cur 5 (0, 0))) (hc : n + ys.length ≤ cap) (hcm : cap ≤ maxLen) (hcs : cur.size = cap) (ht : cur.toList.take n = xs.map bv) :
    OwnB (w.setRow g (cur.toList.take n ++ ys.map bv ++ cur.toList.drop (n + ys.length)).toArray) (.slice (some ⟨g, 0, none⟩) (n + ys.length) cap) (xs ++ ys) ∧
    Grew w (w.setRow g (cur.toList.take n ++ ys.map bv ++ cur.toList.drop (n + ys.length)).toArray) (.slice (some ⟨g, 0, none⟩) n cap) (.slice (some ⟨g, 0, none⟩) (n + ys.length) cap) := by
  subst hn
  refine ⟨⟨by simp, .inr ⟨g, cap, _, by simp, Nat.zero_le _, setRow_heap w g cur _ _ _ hg, by simpa using hc, hcm, ?_, ?_⟩⟩, ⟨⟨rfl, rfl, rfl, by simp [World.setRow], fun k _ hk => setRow_other w g k _ (fun e => hk (by rw [e]; rfl))⟩, fun _ e => .inl e⟩⟩
  · simp only [List.size_toArray, List.length_append, List.length_take, List.length_drop, Array.length_toList, List.length_map]
    omega
  · rw [ht, List.map_append, show (xs ++ ys).length * 1 = (xs.map bv ++ ys.map bv).length by simp]
    exact List.take_left

theorem own_grow (news : List Value) (hys : news = ys.map bv) (old : Nat) (hm : xs.length + ys.length ≤ maxLen) (v : Value) :
    OwnB (w.drew.alloc (.cells ((xs.map bv).toArray ++ news.toArray ++ Builtin.zeroCells (Value.int .u8 0).cells (grownCap w (xs.length + ys.length) old 5 - (xs.length + ys.length))) 5)) (.slice (some ⟨w.heap.size, 0, none⟩) (xs.length + ys.length) (grownCap w (xs.length + ys.length) old 5)) (xs ++ ys) ∧
    Grew w (w.drew.alloc (.cells ((xs.map bv).toArray ++ news.toArray ++ Builtin.zeroCells (Value.int .u8 0).cells (grownCap w (xs.length + ys.length) old 5 - (xs.length + ys.length))) 5)) v (.slice (some ⟨w.heap.size, 0, none⟩) (xs.length + ys.length) (grownCap w (xs.length + ys.length) old 5)) := by
  subst hys
  have hge := grownCap_ge w (xs.length + ys.length) old 5
  have hcm := grownCap_le_maxLen w (xs.length + ys.length) old 5 hm
  refine ⟨⟨by simp, .inr ⟨w.heap.size, _, _, by simp, Nat.zero_le _, heap_alloc_new w.drew _, by simpa using hge, hcm, ?_, ?_⟩⟩, ⟨((Keeps.refl _ w).drew).alloc _, fun k e => .inr (by simp [Value.ownBlock] at e; omega)⟩⟩
  · have hz1 : (Value.int IntKind.u8 0).cells.size = 1 := rfl
    simp only [Array.size_append, List.size_toArray, size_zeroCells, hz1, List.length_map]
    omega
  · rw [List.map_append, show (xs ++ ys).length * 1 = (xs.map bv ++ ys.map bv).length by simp]
    simp only [Array.toList_append, List.append_assoc]
    rw [← List.append_assoc]
    exact List.take_left

/-- append(v, ys...): a slice of bytes. -/
theorem append_bytes (h : OwnB w v xs) {b off c : Nat} (hy : BytesAt w b off ys) (hm : xs.length + ys.length ≤ 100000000) (ty : TypeId) :
    ∃ v' w', (Builtin.append_ #[26, 26] ty #[v, .slice (some ⟨b, off, none⟩) ys.length c]).run Tryz.prog w = .ok v' w' ∧ OwnB w' v' (xs ++ ys) ∧ Grew w w' v v' := by
  obtain ⟨i0, hi, hz0, hz1, hz2⟩ := info_parts' Tryz.infoU8
  have hnews : ∀ j u, (ys.map bv)[j]? = some u → w.cell? ((⟨b, off, none⟩ : Addr).add j) = some u := by
    intro j u hj
    have hjl : j < ys.length := by simpa using (List.getElem?_eq_some_iff.1 hj).1
    have e := hy j hjl
    rw [Addr.add_lit, e, ← hj]
    simp [hjl]
  have hl : (ys.map bv).length = ys.length * i0.size := by rw [hz1]; simp
  rcases h.2 with ⟨rfl, h1⟩ | ⟨g, cap, cur, rfl, hb, hh, hnc, hcm, hcs, htake⟩
  · have hx : xs = [] := List.eq_nil_of_length_eq_zero h1
    subst hx
    by_cases hm0 : ys.length = 0
    · have hy0 : ys = [] := List.eq_nil_of_length_eq_zero hm0
      subst hy0
      refine ⟨.slice none 0 0, w, ?_, OwnB.nil w, Grew.refl _ _⟩
      simp [Builtin.append_, run_underlying Tryz.underlying26, sizeOf, typeInfo, hi, Builtin.lenOf, Builtin.firstCells, loadCells, loadCellsFrom]
    · have hr := run_append_nil (P := Tryz.prog) w 26 ty 5 i0 (.int .u8 0) Tryz.underlying26 hi hz0 ⟨b, off, none⟩ ys.length c (ys.map bv) hl hnews (by omega) (by omega) (by rw [hz2]; simp at hm; omega)
      have hg := own_grow (w := w) (xs := []) (ys := ys) (ys.map bv) rfl 0 (by simp [maxLen] at hm ⊢; omega) (.slice none 0 0)
      simp only [List.length_nil, Nat.zero_add, List.map_nil, List.nil_append, Array.empty_append] at hg
      exact ⟨_, _, hr, hg⟩
  · have hcs' : cur.size = cap := by simpa using hcs
    have ht' : cur.toList.take xs.length = xs.map bv := by simpa using htake
    by_cases hroom : xs.length + ys.length ≤ cap
    · have hr := run_append_room (P := Tryz.prog) w 26 ty 5 i0 Tryz.underlying26 hi g xs.length cap cur hh ⟨b, off, none⟩ ys.length c (ys.map bv) hl hnews bv_one hroom (by rw [hz1]; simp; omega)
      rw [hz1] at hr
      simp only [Nat.mul_one, List.length_map] at hr
      have ho := own_room (w := w) (ys := ys) rfl hh hroom hcm hcs' ht'
      exact ⟨_, _, hr, ho⟩
    · have holds : ∀ j u, (xs.map bv)[j]? = some u → w.cell? ((⟨g, 0, none⟩ : Addr).add j) = some u := World.ownsRow.cells h (g := g) rfl
      have hr := run_append_grow (P := Tryz.prog) w 26 ty 5 i0 (.int .u8 0) Tryz.underlying26 hi hz0 ⟨g, 0, none⟩ xs.length cap (xs.map bv) (by rw [hz1]; simp) holds ⟨b, off, none⟩ ys.length c (ys.map bv) hl hnews (by omega) (by omega) (by rw [hz2]; exact growslice_fits (by omega) (by omega))
      have ho := own_grow (w := w) (xs := xs) (ys := ys) (ys.map bv) rfl cap (by simp [maxLen]; omega) (.slice (some ⟨g, 0, none⟩) xs.length cap)
      exact ⟨_, _, hr, ho⟩

def str (s : ByteArray) : List UInt8 := s.data.toList
@[simp] theorem str_length (s : ByteArray) : (str s).length = s.size := by
  unfold str; rw [Array.length_toList]; rfl
theorem strCells_str (s : ByteArray) : strCells s = (str s).map bv := rfl

/-- append(v, s...): a text. -/
theorem append_str (h : OwnB w v xs) (s : ByteArray) (hm : xs.length + s.size ≤ 100000000) (ty : TypeId) :
    ∃ v' w', (Builtin.append_ #[26, 9] ty #[v, .string s]).run Tryz.prog w = .ok v' w' ∧ OwnB w' v' (xs ++ str s) ∧ Grew w w' v v' := by
  obtain ⟨i0, hi, hz0, hz1, hz2⟩ := info_parts' Tryz.infoU8
  have hl := str_length s
  rcases h.2 with ⟨rfl, h1⟩ | ⟨g, cap, cur, rfl, hb, hh, hnc, hcm, hcs, htake⟩
  · have hx : xs = [] := List.eq_nil_of_length_eq_zero h1
    subst hx
    by_cases hm0 : s.size = 0
    · have hy0 : str s = [] := List.eq_nil_of_length_eq_zero (by rw [hl]; exact hm0)
      refine ⟨.slice none 0 0, w, ?_, by rw [hy0]; exact OwnB.nil w, Grew.refl _ _⟩
      have hf := run_firstCells_string (P := Tryz.prog) w 1 s
      rw [hm0] at hf
      simp [Builtin.append_, run_underlying Tryz.underlying26, run_underlying Tryz.underlying9, sizeOf, typeInfo, hi, hz1, Builtin.lenOf, hm0, hf]
    · have hr := run_append_nil_string (P := Tryz.prog) w 26 9 ty 5 i0 (.int .u8 0) Tryz.underlying26 Tryz.underlying9 hi hz0 s (by omega) (by omega) (by rw [hz2]; omega)
      have hg := own_grow (w := w) (xs := []) (ys := str s) ((str s).map bv) rfl 0 (by simp [maxLen] at hm ⊢; omega) (.slice none 0 0)
      simp only [List.length_nil, Nat.zero_add, List.map_nil, List.nil_append, Array.empty_append, hl] at hg
      have e1 : (s.data.map fun b => Value.int .u8 b.toNat) = ((str s).map bv).toArray := by
        apply Array.ext'
        simp [str]
      rw [e1] at hr
      exact ⟨_, _, hr, hg⟩
  · have hcs' : cur.size = cap := by simpa using hcs
    have ht' : cur.toList.take xs.length = xs.map bv := by simpa using htake
    by_cases hroom : xs.length + s.size ≤ cap
    · have hr := run_append_room_string (P := Tryz.prog) w 26 9 ty 5 i0 Tryz.underlying26 Tryz.underlying9 hi hz1 g xs.length cap cur hh s hroom (by omega)
      have ho := own_room (w := w) (ys := str s) rfl hh (by rw [hl]; exact hroom) hcm hcs' ht'
      rw [hl] at ho
      exact ⟨_, _, hr, ho⟩
    · have holds : ∀ j u, (xs.map bv)[j]? = some u → w.cell? ((⟨g, 0, none⟩ : Addr).add j) = some u := World.ownsRow.cells h (g := g) rfl
      have hr := run_append_grow_string (P := Tryz.prog) w 26 9 ty 5 i0 (.int .u8 0) Tryz.underlying26 Tryz.underlying9 hi hz0 ⟨g, 0, none⟩ xs.length cap (xs.map bv) (by rw [hz1]; simp) holds s (by omega) (by omega) (by rw [hz2]; exact growslice_fits (by omega) (by omega))
      have ho := own_grow (w := w) (xs := xs) (ys := str s) (strCells s) (strCells_str s) cap (by simp [maxLen]; omega) (.slice (some ⟨g, 0, none⟩) xs.length cap)
      rw [hl] at ho
      exact ⟨_, _, hr, ho⟩

theorem zeroCells_bv (k : Nat) : Builtin.zeroCells (Value.int .u8 0).cells k = ((List.replicate k (0 : UInt8)).map bv).toArray := by
  apply Array.ext_getElem?
  intro j
  by_cases hj : j < k
  · simp [Builtin.zeroCells, hj, Nat.mod_one, bv, Value.cells]
  · simp [Builtin.zeroCells, hj, Value.cells]

/-- append(v, make([]byte, k)...). -/
theorem append_zeros (h : OwnB w v xs) (k : Nat) (hm : xs.length + k ≤ 100000000) (ty : TypeId) :
    ∃ v' w', (Builtin.append_ #[26, 3] ty #[v, .int .i64 k]).run Tryz.prog w = .ok v' w' ∧ OwnB w' v' (xs ++ List.replicate k 0) ∧ Grew w w' v v' := by
  obtain ⟨i0, hi, hz0, hz1, hz2⟩ := info_parts' Tryz.infoU8
  have hw : IntKind.i64.wrap (k : Int) = k := by rw [IntKind.wrap_i64]; omega
  have hneg : ¬ ((k : Int) < 0) := by omega
  have h48i : ¬ (281474976710656 < (k : Int)) := by omega
  have hl : (List.replicate k (0 : UInt8)).length = k := by simp
  by_cases hk : k = 0
  · subst hk
    refine ⟨v, w, ?_, by simpa using h, Grew.refl _ _⟩
    have hw0 : IntKind.i64.wrap 0 = 0 := hw
    rcases h.form with ⟨rfl, _⟩ | ⟨g, c, rfl, _, _, hc, _⟩
    · simp [Builtin.append_, run_underlying Tryz.underlying26, run_underlying Tryz.underlying3, sizeOf, typeInfo, hi, hz1, hz2, asInt, asIntOf, hw0]
    · simp [Builtin.append_, run_underlying Tryz.underlying26, run_underlying Tryz.underlying3, sizeOf, typeInfo, hi, hz1, hz2, asInt, asIntOf, hw0, hc, storeCells]
  · rcases h.2 with ⟨rfl, h1⟩ | ⟨g, cap, cur, rfl, hb, hh, hnc, hcm, hcs, htake⟩
    · have hx : xs = [] := List.eq_nil_of_length_eq_zero h1
      subst hx
      have hr := run_append_nil_zeros (P := Tryz.prog) w 26 3 ty 5 i0 (.int .u8 0) .i64 .i64 Tryz.underlying26 Tryz.underlying3 hi hz0 k (by omega) (by rw [hz1]; omega) (by omega) (by rw [hz2]; simp at hm; omega)
      have hg := own_grow (w := w) (xs := []) (ys := List.replicate k 0) _ rfl 0 (by simp [maxLen] at hm ⊢; omega) (.slice none 0 0)
      simp only [List.length_nil, Nat.zero_add, List.map_nil, List.nil_append, Array.empty_append, hl] at hg
      rw [zeroCells_bv k] at hr
      exact ⟨_, _, hr, hg⟩
    · have hcs' : cur.size = cap := by simpa using hcs
      have ht' : cur.toList.take xs.length = xs.map bv := by simpa using htake
      by_cases hroom : xs.length + k ≤ cap
      · have hst := run_storeCells_at Tryz.prog g xs.length 5 ((List.replicate k (0 : UInt8)).map bv) 0 cur w hh (by simp; omega) bv_one
        simp only [Nat.add_zero, List.length_map, hl] at hst
        have ho := own_room (w := w) (ys := List.replicate k 0) rfl hh (by rw [hl]; exact hroom) hcm hcs' ht'
        rw [hl] at ho
        refine ⟨_, _, ?_, ho⟩
        have hz := zeroCells_bv k
        simp [Builtin.append_, run_underlying Tryz.underlying26, run_underlying Tryz.underlying3, sizeOf, typeInfo, zeroValue, hi, hz0, hz1, hz2, asInt, asIntOf, hw, hneg, h48i, hroom, hk, hz, Addr.add_lit]
        simp at hst
        simp [hst]
      · have holds : ∀ j u, (xs.map bv)[j]? = some u → w.cell? ((⟨g, 0, none⟩ : Addr).add j) = some u := World.ownsRow.cells h (g := g) rfl
        have hold : (Builtin.firstCells i0.size xs.length (.slice (some ⟨g, 0, none⟩) xs.length cap)).run Tryz.prog w.drew = .ok (xs.map bv).toArray w.drew :=
          run_firstCells_some (P := Tryz.prog) w.drew i0.size xs.length ⟨g, 0, none⟩ xs.length cap (xs.map bv) (by rw [hz1]; simp) (by simpa using holds)
        have hr := run_append_grow_zeros (P := Tryz.prog) w 26 3 ty 5 i0 (.int .u8 0) .i64 .i64 Tryz.underlying26 Tryz.underlying3 hi hz0 (some ⟨g, 0, none⟩) xs.length cap (xs.map bv) hold k (by omega) (by rw [hz1]; omega) (by omega) (by omega) (by rw [hz2]; omega) (by rw [hz2]; exact growslice_fits (by omega) (by omega))
        have ho := own_grow (w := w) (xs := xs) (ys := List.replicate k 0) _ rfl cap (by simp [maxLen]; omega) (.slice (some ⟨g, 0, none⟩) xs.length cap)
        rw [hl] at ho
        rw [zeroCells_bv k] at hr
        exact ⟨_, _, hr, ho⟩

/-- At the operation, for the walk: an append whose run is known. -/
theorem wpList_append_known {ops : Array Oper} {rest : List Oper} {o : Oper} {a : Act} {Q : Exit → Act → World → Prop} {zs : List UInt8} (hgd : o.guard = none) (s x : Operand) (t tn : TypeId)
    (ho : o.op = .call { callee := .builtin .append, args := #[s, x], argTypes := #[t, tn] }) (vs vx : Value) (hs : a.eval s = vs) (hx : a.eval x = vx)
    (hr : ∃ v' w', (Builtin.append_ #[t, tn] o.type #[vs, vx]).run Tryz.prog w = .ok v' w' ∧ OwnB w' v' zs ∧ Grew w w' vs v')
    (h : ∀ v' w', OwnB w' v' zs → Grew w w' vs v' → wpList Tryz.prog ops Q rest (a.put o.dst v') w') : wpList Tryz.prog ops Q (o :: rest) a w := by
  obtain ⟨v', w', h1, h2, h3⟩ := hr
  exact wpList_append_run w hgd s x t tn ho vs vx hs hx v' w' h1 (h v' w' h2 h3)

end
end Go.Proofs.Sg
