/- Be · Own · Word, in one. -/
import Derived.Lib.AppendStr
import Derived.Lib.AppendZerosOnto
import Derived.LoopTactic
import Derived.Test.YthkbpcnbnhiefaaGreatDoorKBase
import Derived.Test.YthkbpcnbnhiefaaGreatDoorKPool
import Derived.Test.YthkbpcnbnhiefaaGreatDoorKNew
/-! Numbers as bytes of a width; no program. -/
namespace Go.Proofs.Sg

def be : Nat → Nat → List UInt8
  | 0, _ => []
  | k + 1, x => be k (x / 256) ++ [UInt8.ofNat x]

@[simp] theorem be_length (k x : Nat) : (be k x).length = k := by
  induction k generalizing x with
  | zero => rfl
  | succ k ih => simp [be, ih]

theorem be_get {k x j : Nat} (h : j < k) : (be k x)[j]? = some (UInt8.ofNat (x / 256 ^ (k - 1 - j))) := by
  induction k generalizing x with
  | zero => omega
  | succ k ih =>
    unfold be
    by_cases hj : j < k
    · rw [List.getElem?_append_left (by simpa using hj), ih hj, Nat.div_div_eq_div_mul]
      congr 3
      rw [show k + 1 - 1 - j = (k - 1 - j) + 1 by omega, Nat.pow_succ, Nat.mul_comm]
    · have : j = k := by omega
      subst this
      rw [List.getElem?_append_right (by simp)]
      simp

/-- One byte more, from the left. -/
theorem be_more {W k x : Nat} (h : k < W) : be (k + 1) (x / 256 ^ (W - (k + 1))) = be k (x / 256 ^ (W - k)) ++ [UInt8.ofNat (x / 256 ^ (W - (k + 1)))] := by
  rw [be]
  congr 2
  rw [Nat.div_div_eq_div_mul]
  congr 1
  rw [show W - k = (W - (k + 1)) + 1 by omega, Nat.pow_succ]

theorem bv_ofNat (x : Nat) : bv (UInt8.ofNat x) = .int .u8 ((x % 256 : Nat) : Int) := by
  unfold bv
  rw [UInt8.toNat_ofNat']

theorem be_zero (k : Nat) : be k 0 = List.replicate k 0 := by
  induction k with
  | zero => rfl
  | succ k ih =>
    rw [be, Nat.zero_div, ih, List.replicate_succ']
    rfl

end Go.Proofs.Sg
/-! Bytes that are one's own, and what is appended to them. -/
namespace Go.Proofs.Sg
set_option linter.unusedSimpArgs false
set_option linter.unusedVariables false
open Go.RowKit Go.Lib

/-- A slice of bytes that is one's own: these bytes. -/
def OwnB (w : World) (v : Value) (xs : List UInt8) : Prop := w.ownsRow 0 5 1 v xs.length (xs.map bv)

/-- v's row alone has been written, and v' lies in it, or in a new block. -/
structure Grew (w w' : World) (v v' : Value) : Prop where
  keeps : Keeps (fun k => v.ownBlock = some k) w w'
  own : ∀ k, v'.ownBlock = some k → v.ownBlock = some k ∨ w.heap.size ≤ k

section
variable {w w' w1 w2 : World} {v v' v1 v2 : Value} {xs ys : List UInt8}

theorem Grew.refl (w : World) (v : Value) : Grew w w v v := ⟨Keeps.refl _ _, fun _ h => .inl h⟩
theorem Grew.trans (h : Grew w w1 v v1) (k : Grew w1 w2 v1 v2) : Grew w w2 v v2 :=
  ⟨h.keeps.trans k.keeps (fun _ _ e => e) (fun i hi e => by
    rcases h.own i e with e | e
    · exact e
    · omega), fun i e => by
    rcases k.own i e with e | e
    · exact h.own i e
    · exact .inr (Nat.le_trans h.keeps.size e)⟩
theorem Grew.of_below (h : Below w.heap.size w w') : Grew w w' v v := ⟨Keeps.of_below h, fun _ e => .inl e⟩
theorem Grew.of_keeps (h : Keeps (fun _ => False) w w') : Grew w w' v v := ⟨h.mono (fun _ _ e => e.elim), fun _ e => .inl e⟩
theorem Grew.below {B : Nat} (h : Grew w w' v v') (hB : B ≤ w.heap.size) (hv : ∀ k, v.ownBlock = some k → B ≤ k) : Below B w w' :=
  h.keeps.below hB (fun i hi e => by have := hv i e; omega)
theorem Grew.lo {B : Nat} (h : Grew w w' v v') (hB : B ≤ w.heap.size) (hv : ∀ k, v.ownBlock = some k → B ≤ k) : ∀ k, v'.ownBlock = some k → B ≤ k := fun k e => by
  rcases h.own k e with e | e
  · exact hv k e
  · omega
theorem Grew.blk {g : Nat} {t : TypeId} {cs : Array Value} (h : Grew w w' v v') (hb : Blk w g t cs) (hg : v.ownBlock ≠ some g) : Blk w' g t cs := hb.keep h.keeps hg
theorem Grew.ne {g : Nat} (h : Grew w w' v v') (hl : g < w.heap.size) (hg : v.ownBlock ≠ some g) : v'.ownBlock ≠ some g := fun e => by
  rcases h.own g e with e | e
  · exact hg e
  · omega

theorem OwnB.nil (w : World) : OwnB w (.slice none 0 0) [] := own_none _ _ _ _
theorem OwnB.lt (h : OwnB w v xs) {k : Nat} (e : v.ownBlock = some k) : k < w.heap.size := (World.ownsRow.lt h k e).2
theorem OwnB.keep_ (h : OwnB w v xs) (e : ∀ g, v.ownBlock = some g → w'.heap[g]? = w.heap[g]?) : OwnB w' v xs := by
  refine ⟨h.1, ?_⟩
  rcases h.2 with h1 | ⟨g, cap, cur, rfl, hb, hh, h3⟩
  · exact .inl h1
  · exact .inr ⟨g, cap, cur, rfl, hb, (e g rfl).trans hh, h3⟩
theorem OwnB.keep {S : Nat → Prop} (h : OwnB w v xs) (hk : Keeps S w w') (hS : ∀ g, v.ownBlock = some g → ¬ S g) : OwnB w' v xs :=
  h.keep_ fun g e => hk.block g (h.lt e) (hS g e)
theorem OwnB.below (h : OwnB w v xs) (hb : Below w.heap.size w w') : OwnB w' v xs := h.keep_ fun g e => hb.block g (h.lt e)
theorem OwnB.alloc (h : OwnB w v xs) (o : Obj) : OwnB (w.alloc o) v xs := h.keep_ fun g e => Below.heap_alloc w o g (h.lt e)
theorem OwnB.form (h : OwnB w v xs) : (v = .slice none 0 0 ∧ xs = []) ∨ ∃ g c, v = .slice (some ⟨g, 0, none⟩) xs.length c ∧ BytesAt w g 0 xs ∧ g < w.heap.size ∧ xs.length ≤ c ∧ ∃ cs, Blk w g 5 cs := by
  have h0 := h
  rcases h.2 with ⟨rfl, h1⟩ | ⟨g, cap, cur, rfl, hb, hh, hnc, hcm, hcs, htake⟩
  · exact .inl ⟨rfl, List.eq_nil_of_length_eq_zero h1⟩
  · refine .inr ⟨g, cap, rfl, fun j hj => ?_, (Array.getElem?_eq_some_iff.1 hh).1, hnc, cur, hh⟩
    have := World.ownsRow.cells h0 (g := g) rfl j (bv (xs.getD j 0)) (by simp [hj])
    have e : (⟨g, 0, none⟩ : Addr).add j = ⟨g, j, none⟩ := by unfold Addr.add; split <;> simp_all
    rw [e] at this
    rwa [Nat.zero_add]
theorem OwnB.at (h : OwnB w v xs) (hne : xs ≠ []) : ∃ g c, v = .slice (some ⟨g, 0, none⟩) xs.length c ∧ BytesAt w g 0 xs ∧ g < w.heap.size ∧ xs.length ≤ c ∧ ∃ cs, Blk w g 5 cs := by
  rcases h.form with ⟨_, h1⟩ | h1
  · exact absurd h1 hne
  · exact h1

theorem bv_one : ∀ u ∈ xs.map bv, u.oneCell' = true := by
  intro u hu
  obtain ⟨b, _, rfl⟩ := List.mem_map.1 hu
  rfl

theorem own_room {g n cap : Nat} {cur : Array Value} (hn : n = xs.length) (hg : w.heap[g]? = some (.cells cur 5 (0, 0))) (hc : n + ys.length ≤ cap) (hcm : cap ≤ maxLen) (hcs : cur.size = cap) (ht : cur.toList.take n = xs.map bv) :
    OwnB (w.setRow g (cur.toList.take n ++ ys.map bv ++ cur.toList.drop (n + ys.length)).toArray) (.slice (some ⟨g, 0, none⟩) (n + ys.length) cap) (xs ++ ys) ∧
    Grew w (w.setRow g (cur.toList.take n ++ ys.map bv ++ cur.toList.drop (n + ys.length)).toArray) (.slice (some ⟨g, 0, none⟩) n cap) (.slice (some ⟨g, 0, none⟩) (n + ys.length) cap) := by
  subst hn
  refine ⟨⟨by simp, .inr ⟨g, cap, _, by simp, Nat.zero_le _, setRow_heap w g cur _ _ _ hg, by simpa using hc, hcm, ?_, ?_⟩⟩, ⟨⟨rfl, rfl, rfl, by simp [World.setRow], fun k _ hk => setRow_other w g k _ (fun e => hk (by rw [e]; rfl))⟩, fun _ e => .inl e⟩⟩
  · simp only [List.size_toArray, List.length_append, List.length_take, List.length_drop, Array.length_toList, List.length_map]
    omega
  · rw [ht, List.map_append, show (xs ++ ys).length * 1 = (xs.map bv ++ ys.map bv).length by simp]
    exact List.take_left

theorem own_grow (news : List Value) (hys : news = ys.map bv) (old : Nat) (hm : xs.length + ys.length ≤ maxLen) (v : Value) :
    OwnB (w.drew.alloc (.cells ((xs.map bv).toArray ++ news.toArray ++ Builtin.zeroCells (Value.int .u8 0).cells (grownCap w (xs.length + ys.length) old 5 - (xs.length + ys.length))) 5)) (.slice (some ⟨w.heap.size, 0, none⟩) (xs.length + ys.length) (grownCap w (xs.length + ys.length) old 5)) (xs ++ ys) ∧
    Grew w (w.drew.alloc (.cells ((xs.map bv).toArray ++ news.toArray ++ Builtin.zeroCells (Value.int .u8 0).cells (grownCap w (xs.length + ys.length) old 5 - (xs.length + ys.length))) 5)) v (.slice (some ⟨w.heap.size, 0, none⟩) (xs.length + ys.length) (grownCap w (xs.length + ys.length) old 5)) := by
  subst hys
  have hge := grownCap_ge w (xs.length + ys.length) old 5
  have hcm := grownCap_le_maxLen w (xs.length + ys.length) old 5 hm
  refine ⟨⟨by simp, .inr ⟨w.heap.size, _, _, by simp, Nat.zero_le _, heap_alloc_new w.drew _, by simpa using hge, hcm, ?_, ?_⟩⟩, ⟨((Keeps.refl _ w).drew).alloc _, fun k e => .inr (by simp [Value.ownBlock] at e; omega)⟩⟩
  · have hz1 : (Value.int IntKind.u8 0).cells.size = 1 := rfl
    simp only [Array.size_append, List.size_toArray, size_zeroCells, hz1, List.length_map]
    omega
  · rw [List.map_append, show (xs ++ ys).length * 1 = (xs.map bv ++ ys.map bv).length by simp]
    simp only [Array.toList_append, List.append_assoc]
    rw [← List.append_assoc]
    exact List.take_left

/-- append(v, ys...): a slice of bytes. -/
theorem append_bytes (h : OwnB w v xs) {b off c : Nat} (hy : BytesAt w b off ys) (hm : xs.length + ys.length ≤ 100000000) (ty : TypeId) :
    ∃ v' w', (Builtin.append_ #[26, 26] ty #[v, .slice (some ⟨b, off, none⟩) ys.length c]).run Tryz.prog w = .ok v' w' ∧ OwnB w' v' (xs ++ ys) ∧ Grew w w' v v' := by
  obtain ⟨i0, hi, hz0, hz1, hz2⟩ := info_parts' Tryz.infoU8
  have hnews : ∀ j u, (ys.map bv)[j]? = some u → w.cell? ((⟨b, off, none⟩ : Addr).add j) = some u := by
    intro j u hj
    have hjl : j < ys.length := by simpa using (List.getElem?_eq_some_iff.1 hj).1
    have e := hy j hjl
    rw [Addr.add_lit, e, ← hj]
    simp [hjl]
  have hl : (ys.map bv).length = ys.length * i0.size := by rw [hz1]; simp
  rcases h.2 with ⟨rfl, h1⟩ | ⟨g, cap, cur, rfl, hb, hh, hnc, hcm, hcs, htake⟩
  · have hx : xs = [] := List.eq_nil_of_length_eq_zero h1
    subst hx
    by_cases hm0 : ys.length = 0
    · have hy0 : ys = [] := List.eq_nil_of_length_eq_zero hm0
      subst hy0
      refine ⟨.slice none 0 0, w, ?_, OwnB.nil w, Grew.refl _ _⟩
      simp [Builtin.append_, run_underlying Tryz.underlying26, sizeOf, typeInfo, hi, Builtin.lenOf, Builtin.firstCells, loadCells, loadCellsFrom]
    · have hr := run_append_nil (P := Tryz.prog) w 26 ty 5 i0 (.int .u8 0) Tryz.underlying26 hi hz0 ⟨b, off, none⟩ ys.length c (ys.map bv) hl hnews (by omega) (by omega) (by rw [hz2]; simp at hm; omega)
      have hg := own_grow (w := w) (xs := []) (ys := ys) (ys.map bv) rfl 0 (by simp [maxLen] at hm ⊢; omega) (.slice none 0 0)
      simp only [List.length_nil, Nat.zero_add, List.map_nil, List.nil_append, Array.empty_append] at hg
      exact ⟨_, _, hr, hg⟩
  · have hcs' : cur.size = cap := by simpa using hcs
    have ht' : cur.toList.take xs.length = xs.map bv := by simpa using htake
    by_cases hroom : xs.length + ys.length ≤ cap
    · have hr := run_append_room (P := Tryz.prog) w 26 ty 5 i0 Tryz.underlying26 hi g xs.length cap cur hh ⟨b, off, none⟩ ys.length c (ys.map bv) hl hnews bv_one hroom (by rw [hz1]; simp; omega)
      rw [hz1] at hr
      simp only [Nat.mul_one, List.length_map] at hr
      have ho := own_room (w := w) (ys := ys) rfl hh hroom hcm hcs' ht'
      exact ⟨_, _, hr, ho⟩
    · have holds : ∀ j u, (xs.map bv)[j]? = some u → w.cell? ((⟨g, 0, none⟩ : Addr).add j) = some u := World.ownsRow.cells h (g := g) rfl
      have hr := run_append_grow (P := Tryz.prog) w 26 ty 5 i0 (.int .u8 0) Tryz.underlying26 hi hz0 ⟨g, 0, none⟩ xs.length cap (xs.map bv) (by rw [hz1]; simp) holds ⟨b, off, none⟩ ys.length c (ys.map bv) hl hnews (by omega) (by omega) (by rw [hz2]; exact growslice_fits (by omega) (by omega))
      have ho := own_grow (w := w) (xs := xs) (ys := ys) (ys.map bv) rfl cap (by simp [maxLen]; omega) (.slice (some ⟨g, 0, none⟩) xs.length cap)
      exact ⟨_, _, hr, ho⟩

def str (s : ByteArray) : List UInt8 := s.data.toList
@[simp] theorem str_length (s : ByteArray) : (str s).length = s.size := by
  unfold str; rw [Array.length_toList]; rfl
theorem strCells_str (s : ByteArray) : strCells s = (str s).map bv := rfl

/-- append(v, s...): a text. -/
theorem append_str (h : OwnB w v xs) (s : ByteArray) (hm : xs.length + s.size ≤ 100000000) (ty : TypeId) :
    ∃ v' w', (Builtin.append_ #[26, 9] ty #[v, .string s]).run Tryz.prog w = .ok v' w' ∧ OwnB w' v' (xs ++ str s) ∧ Grew w w' v v' := by
  obtain ⟨i0, hi, hz0, hz1, hz2⟩ := info_parts' Tryz.infoU8
  have hl := str_length s
  rcases h.2 with ⟨rfl, h1⟩ | ⟨g, cap, cur, rfl, hb, hh, hnc, hcm, hcs, htake⟩
  · have hx : xs = [] := List.eq_nil_of_length_eq_zero h1
    subst hx
    by_cases hm0 : s.size = 0
    · have hy0 : str s = [] := List.eq_nil_of_length_eq_zero (by rw [hl]; exact hm0)
      refine ⟨.slice none 0 0, w, ?_, by rw [hy0]; exact OwnB.nil w, Grew.refl _ _⟩
      have hf := run_firstCells_string (P := Tryz.prog) w 1 s
      rw [hm0] at hf
      simp [Builtin.append_, run_underlying Tryz.underlying26, run_underlying Tryz.underlying9, sizeOf, typeInfo, hi, hz1, Builtin.lenOf, hm0, hf]
    · have hr := run_append_nil_string (P := Tryz.prog) w 26 9 ty 5 i0 (.int .u8 0) Tryz.underlying26 Tryz.underlying9 hi hz0 s (by omega) (by omega) (by rw [hz2]; omega)
      have hg := own_grow (w := w) (xs := []) (ys := str s) ((str s).map bv) rfl 0 (by simp [maxLen] at hm ⊢; omega) (.slice none 0 0)
      simp only [List.length_nil, Nat.zero_add, List.map_nil, List.nil_append, Array.empty_append, hl] at hg
      have e1 : (s.data.map fun b => Value.int .u8 b.toNat) = ((str s).map bv).toArray := by
        apply Array.ext'
        simp [str]
      rw [e1] at hr
      exact ⟨_, _, hr, hg⟩
  · have hcs' : cur.size = cap := by simpa using hcs
    have ht' : cur.toList.take xs.length = xs.map bv := by simpa using htake
    by_cases hroom : xs.length + s.size ≤ cap
    · have hr := run_append_room_string (P := Tryz.prog) w 26 9 ty 5 i0 Tryz.underlying26 Tryz.underlying9 hi hz1 g xs.length cap cur hh s hroom (by omega)
      have ho := own_room (w := w) (ys := str s) rfl hh (by rw [hl]; exact hroom) hcm hcs' ht'
      rw [hl] at ho
      exact ⟨_, _, hr, ho⟩
    · have holds : ∀ j u, (xs.map bv)[j]? = some u → w.cell? ((⟨g, 0, none⟩ : Addr).add j) = some u := World.ownsRow.cells h (g := g) rfl
      have hr := run_append_grow_string (P := Tryz.prog) w 26 9 ty 5 i0 (.int .u8 0) Tryz.underlying26 Tryz.underlying9 hi hz0 ⟨g, 0, none⟩ xs.length cap (xs.map bv) (by rw [hz1]; simp) holds s (by omega) (by omega) (by rw [hz2]; exact growslice_fits (by omega) (by omega))
      have ho := own_grow (w := w) (xs := xs) (ys := str s) (strCells s) (strCells_str s) cap (by simp [maxLen]; omega) (.slice (some ⟨g, 0, none⟩) xs.length cap)
      rw [hl] at ho
      exact ⟨_, _, hr, ho⟩

theorem zeroCells_bv (k : Nat) : Builtin.zeroCells (Value.int .u8 0).cells k = ((List.replicate k (0 : UInt8)).map bv).toArray := by
  apply Array.ext_getElem?
  intro j
  by_cases hj : j < k
  · simp [Builtin.zeroCells, hj, Nat.mod_one, bv, Value.cells]
  · simp [Builtin.zeroCells, hj, Value.cells]

/-- append(v, make([]byte, k)...). -/
theorem append_zeros (h : OwnB w v xs) (k : Nat) (hm : xs.length + k ≤ 100000000) (ty : TypeId) :
    ∃ v' w', (Builtin.append_ #[26, 3] ty #[v, .int .i64 k]).run Tryz.prog w = .ok v' w' ∧ OwnB w' v' (xs ++ List.replicate k 0) ∧ Grew w w' v v' := by
  obtain ⟨i0, hi, hz0, hz1, hz2⟩ := info_parts' Tryz.infoU8
  have hw : IntKind.i64.wrap (k : Int) = k := by rw [IntKind.wrap_i64]; omega
  have hneg : ¬ ((k : Int) < 0) := by omega
  have h48i : ¬ (281474976710656 < (k : Int)) := by omega
  have hl : (List.replicate k (0 : UInt8)).length = k := by simp
  by_cases hk : k = 0
  · subst hk
    refine ⟨v, w, ?_, by simpa using h, Grew.refl _ _⟩
    have hw0 : IntKind.i64.wrap 0 = 0 := hw
    rcases h.form with ⟨rfl, _⟩ | ⟨g, c, rfl, _, _, hc, _⟩
    · simp [Builtin.append_, run_underlying Tryz.underlying26, run_underlying Tryz.underlying3, sizeOf, typeInfo, hi, hz1, hz2, asInt, asIntOf, hw0]
    · simp [Builtin.append_, run_underlying Tryz.underlying26, run_underlying Tryz.underlying3, sizeOf, typeInfo, hi, hz1, hz2, asInt, asIntOf, hw0, hc, storeCells]
  · rcases h.2 with ⟨rfl, h1⟩ | ⟨g, cap, cur, rfl, hb, hh, hnc, hcm, hcs, htake⟩
    · have hx : xs = [] := List.eq_nil_of_length_eq_zero h1
      subst hx
      have hr := run_append_nil_zeros (P := Tryz.prog) w 26 3 ty 5 i0 (.int .u8 0) .i64 .i64 Tryz.underlying26 Tryz.underlying3 hi hz0 k (by omega) (by rw [hz1]; omega) (by omega) (by rw [hz2]; simp at hm; omega)
      have hg := own_grow (w := w) (xs := []) (ys := List.replicate k 0) _ rfl 0 (by simp [maxLen] at hm ⊢; omega) (.slice none 0 0)
      simp only [List.length_nil, Nat.zero_add, List.map_nil, List.nil_append, Array.empty_append, hl] at hg
      rw [zeroCells_bv k] at hr
      exact ⟨_, _, hr, hg⟩
    · have hcs' : cur.size = cap := by simpa using hcs
      have ht' : cur.toList.take xs.length = xs.map bv := by simpa using htake
      by_cases hroom : xs.length + k ≤ cap
      · have hst := run_storeCells_at Tryz.prog g xs.length 5 ((List.replicate k (0 : UInt8)).map bv) 0 cur w hh (by simp; omega) bv_one
        simp only [Nat.add_zero, List.length_map, hl] at hst
        have ho := own_room (w := w) (ys := List.replicate k 0) rfl hh (by rw [hl]; exact hroom) hcm hcs' ht'
        rw [hl] at ho
        refine ⟨_, _, ?_, ho⟩
        have hz := zeroCells_bv k
        simp [Builtin.append_, run_underlying Tryz.underlying26, run_underlying Tryz.underlying3, sizeOf, typeInfo, zeroValue, hi, hz0, hz1, hz2, asInt, asIntOf, hw, hneg, h48i, hroom, hk, hz, Addr.add_lit]
        simp at hst
        simp [hst]
      · have holds : ∀ j u, (xs.map bv)[j]? = some u → w.cell? ((⟨g, 0, none⟩ : Addr).add j) = some u := World.ownsRow.cells h (g := g) rfl
        have hold : (Builtin.firstCells i0.size xs.length (.slice (some ⟨g, 0, none⟩) xs.length cap)).run Tryz.prog w.drew = .ok (xs.map bv).toArray w.drew :=
          run_firstCells_some (P := Tryz.prog) w.drew i0.size xs.length ⟨g, 0, none⟩ xs.length cap (xs.map bv) (by rw [hz1]; simp) (by simpa using holds)
        have hr := run_append_grow_zeros (P := Tryz.prog) w 26 3 ty 5 i0 (.int .u8 0) .i64 .i64 Tryz.underlying26 Tryz.underlying3 hi hz0 (some ⟨g, 0, none⟩) xs.length cap (xs.map bv) hold k (by omega) (by rw [hz1]; omega) (by omega) (by omega) (by rw [hz2]; omega) (by rw [hz2]; exact growslice_fits (by omega) (by omega))
        have ho := own_grow (w := w) (xs := xs) (ys := List.replicate k 0) _ rfl cap (by simp [maxLen]; omega) (.slice (some ⟨g, 0, none⟩) xs.length cap)
        rw [hl] at ho
        rw [zeroCells_bv k] at hr
        exact ⟨_, _, hr, ho⟩

/-- At the operation, for the walk: an append whose run is known. -/
theorem wpList_append_known {ops : Array Oper} {rest : List Oper} {o : Oper} {a : Act} {Q : Exit → Act → World → Prop} {zs : List UInt8} (hgd : o.guard = none) (s x : Operand) (t tn : TypeId)
    (ho : o.op = .call { callee := .builtin .append, args := #[s, x], argTypes := #[t, tn] }) (vs vx : Value) (hs : a.eval s = vs) (hx : a.eval x = vx)
    (hr : ∃ v' w', (Builtin.append_ #[t, tn] o.type #[vs, vx]).run Tryz.prog w = .ok v' w' ∧ OwnB w' v' zs ∧ Grew w w' vs v')
    (h : ∀ v' w', OwnB w' v' zs → Grew w w' vs v' → wpList Tryz.prog ops Q rest (a.put o.dst v') w') : wpList Tryz.prog ops Q (o :: rest) a w := by
  obtain ⟨v', w', h1, h2, h3⟩ := hr
  exact wpList_append_run w hgd s x t tn ho vs vx hs hx v' w' h1 (h v' w' h2 h3)

end
end Go.Proofs.Sg
/-! Numbers and texts behind bytes: word.Put, code.num, code.text. -/
namespace Go.Proofs.Sg
set_option linter.unusedSimpArgs false
set_option linter.unusedVariables false
open Go.RowKit Go.Lib

theorem word_right {w : World} (W : Nat) (hW : W = 1 ∨ W = 2 ∨ W = 4 ∨ W = 8) : Calls Tryz.prog 152 #[.int .i64 W] w fun e w' => e = .returned (.bool true) ∧ w = w' := by
  rcases hW with rfl | rfl | rfl | rfl <;>
  · go_enter Tryz.func152, Tryz.ntmps152
    go_wp2
    go_ret
    exact ⟨rfl, rfl⟩

theorem clone_none {w : World} : Calls Tryz.prog 86 #[.slice none 0 0] w fun e w' => e = .returned (.slice none 0 0) ∧ w = w' := by
  have q22 : ∀ (w : World) (a : Option Addr) (n c n' c' : Nat), (binOp .eql 26 (.slice a n c) (.slice none n' c')).run Tryz.prog w = .ok (.bool a.isNone) w := fun w a n c n' c' => Lib.run_eql_slice_nil w _ _ a n c n' c' Tryz.underlying26
  go_enter Tryz.func86, Tryz.ntmps86
  go_wp2
  go_ret
  exact ⟨rfl, rfl⟩

theorem OwnB.cast {w : World} {v : Value} {xs ys : List UInt8} (h : OwnB w v xs) (e : xs = ys) : OwnB w v ys := e ▸ h

theorem byte_one {w : World} {z : Int} {t : TypeId} {b : UInt8} (h : bv b = .int .u8 z) : BytesAt (w.alloc (.cells #[.int .u8 z] t)) w.heap.size 0 [b] := by
  intro j hj
  have h0 : j = 0 := by simpa using hj
  subst h0
  rw [← h]
  exact (Blk.new w t #[bv b]).cell 0

theorem byte_shift (x j : Nat) : bv (UInt8.ofNat (x / 256 ^ j)) = .int .u8 ((x : Int) / 2 ^ (8 * j) % 256) := by
  rw [bv_ofNat]
  congr 1
  rw [show (256 : Nat) ^ j = 2 ^ (8 * j) from (Nat.pow_mul 2 8 j).symm, Int.natCast_emod, Int.natCast_ediv, Int.natCast_pow]
  rfl

set_option maxRecDepth 10000 in
set_option maxHeartbeats 1000000 in
theorem word_put {w : World} (W x : Nat) (hW : W = 1 ∨ W = 2 ∨ W = 4 ∨ W = 8) (_hx : x < 18446744073709551616) :
    Calls Tryz.prog 228 #[.slice none 0 0, .int .i64 W, .int .u64 x] w fun e w' => ∃ v', e = .returned v' ∧ OwnB w' v' (be W x) ∧ Grew w w' (.slice none 0 0) v' := by
  have hW8 : W ≤ 8 := by omega
  have H1 := Hd.mk hW
  clear hW
  go_enter Tryz.func228, Tryz.ntmps228
  go_wp2_with fail
  refine clone_none.mono ?_
  rintro e w' ⟨rfl, rfl⟩
  go_wp2_with fail
  refine (word_right W H1.out).mono ?_
  rintro e w' ⟨rfl, rfl⟩
  go_wp2_with fail
  go_loopw [7, 8] (fun vo vi wr => ∃ k j : Nat, k + j = W ∧ vi = .int .i64 ((j : Int) - 1) ∧ OwnB wr vo (be k (x / 256 ^ j)) ∧ Grew w wr (.slice none 0 0) vo) (fun _ vi _ => (RowKit.intOf vi + 1).toNat)
  case atStart => exact ⟨0, W, by omega, by go_num, OwnB.nil w, Grew.refl _ _⟩
  case round =>
    obtain ⟨k, j, hkj, rfl, hown, hgr⟩ := hrel
    have C1 := Hd.mk hown
    have C2 := Hd.mk hgr
    clear hown hgr
    rcases j with _ | j
    · go_wp2_with fail
      go_ret
      refine ⟨_, rfl, C1.out.cast ?_, C2.out⟩
      rw [← hkj]; simp
    · rw [show (((j + 1 : Nat) : Int) - 1) = j by omega]
      go_wp2_with (at_builtin; refine wpList_append_known rfl _ _ _ _ rfl _ _ rfl rfl (append_bytes (ys := [UInt8.ofNat (x / 256 ^ j)]) (C1.out.alloc _) (byte_one (byte_shift x j)) (by simp; omega) _) ?_)
      intro v' w2 hown hgr
      have D1 := Hd.mk hown
      have D2 := Hd.mk hgr
      clear hown hgr
      go_wp2_with fail
      refine ⟨⟨k + 1, j, by omega, by go_num, D1.out.cast ?_, C2.out.trans ((Grew.of_keeps ((Keeps.refl _ wr).alloc _)).trans D2.out)⟩, by simp [RowKit.intOf]⟩
      have e := be_more (W := k + (j + 1)) (k := k) (x := x) (by omega)
      rw [show k + (j + 1) - (k + 1) = j by omega, show k + (j + 1) - k = j + 1 by omega] at e
      exact e.symm

theorem Grew.fresh {w w' : World} {u : Value} (h : Grew w w' (.slice none 0 0) u) : Keeps (fun _ => False) w w' := h.keeps.mono (fun _ _ e => by simp [Value.ownBlock] at e)

theorem append_bytes' {w : World} {v : Value} {xs ys : List UInt8} {n : Nat} (hn : ys.length = n) (h : OwnB w v xs) {b off c : Nat} (hy : BytesAt w b off ys) (hm : xs.length + n ≤ 100000000) (ty : TypeId) :
    ∃ v' w', (Builtin.append_ #[26, 26] ty #[v, .slice (some ⟨b, off, none⟩) n c]).run Tryz.prog w = .ok v' w' ∧ OwnB w' v' (xs ++ ys) ∧ Grew w w' v v' := by
  subst hn
  exact append_bytes h hy hm ty

theorem word_put' {w : World} (W x : Nat) (hW : W = 1 ∨ W = 2 ∨ W = 4 ∨ W = 8) (hx : x < 18446744073709551616) :
    Calls Tryz.prog 228 #[.slice none 0 0, .int .i64 W, .int .u64 x] w fun e w' => ∃ g c, e = .returned (.slice (some ⟨g, 0, none⟩) W c) ∧ BytesAt w' g 0 (be W x) ∧ Keeps (fun _ => False) w w' :=
  (word_put W x hW hx).mono fun e w' ⟨u, he, hu, hgu⟩ => by
    obtain ⟨g, c, rfl, hby, _⟩ := hu.at (by intro e; have := congrArg List.length e; simp at this; omega)
    rw [be_length] at he
    exact ⟨g, c, he, hby, hgu.fresh⟩

theorem code_num {w : World} {v : Value} {xs : List UInt8} (h : OwnB w v xs) (W x : Nat) (hW : W = 1 ∨ W = 2 ∨ W = 4 ∨ W = 8) (hx : x < 18446744073709551616) (hm : xs.length ≤ 90000000) :
    Calls Tryz.prog 185 #[v, .int .i64 W, .int .u64 x] w fun e w' => ∃ v', e = .returned v' ∧ OwnB w' v' (xs ++ be W x) ∧ Grew w w' v v' := by
  have C1 := Hd.mk h
  have H1 := Hd.mk hW
  have hW8 : W ≤ 8 := by omega
  have hW1 : 1 ≤ W := by omega
  clear h hW
  go_enter Tryz.func185, Tryz.ntmps185
  go_wp2_with fail
  refine (word_put' W x H1.out hx).mono ?_
  clear hx
  rintro e w1 ⟨g, c, rfl, hby, k1⟩
  have B1 := Hd.mk k1
  have B2 := Hd.mk hby
  clear k1 hby
  go_wp2_with (at_builtin; refine wpList_append_known rfl _ _ _ _ rfl _ _ rfl rfl (append_bytes' (be_length W x) (C1.out.keep B1.out (fun _ _ e => e)) B2.out (by omega) _) ?_)
  intro v' w' hown hgr
  have D1 := Hd.mk hown
  have D2 := Hd.mk hgr
  clear hown hgr
  go_wp2_with fail
  go_ret
  exact ⟨_, rfl, D1.out, (Grew.of_keeps B1.out).trans D2.out⟩

/-- A text in its slot. -/
def slot (xs : List UInt8) (most : Nat) : List UInt8 := xs ++ List.replicate (most - xs.length) 0
@[simp] theorem slot_length {xs : List UInt8} {most : Nat} (h : xs.length ≤ most) : (slot xs most).length = most := by unfold slot; simp; omega

theorem code_text {w : World} {v : Value} {xs : List UInt8} (h : OwnB w v xs) (s : ByteArray) (most : Nat) (hs : s.size ≤ most) (hm : xs.length + most ≤ 100000000) :
    Calls Tryz.prog 186 #[v, .string s, .int .i64 most] w fun e w' => ∃ v', e = .returned v' ∧ OwnB w' v' (xs ++ slot (str s) most) ∧ Grew w w' v v' := by
  have C1 := Hd.mk h
  clear h
  go_enter Tryz.func186, Tryz.ntmps186
  go_wp2_with (at_builtin; refine wpList_append_known rfl _ _ _ _ rfl _ _ rfl rfl (append_str C1.out s (by omega) _) ?_)
  intro v1 w1 hown hgr
  have D1 := Hd.mk hown
  have D2 := Hd.mk hgr
  clear hown hgr
  go_wp2_with (at_builtin; refine wpList_append_known rfl _ _ _ _ rfl _ (.int .i64 ((most - s.size : Nat) : Int)) rfl (by show Value.int .i64 _ = Value.int .i64 _; congr 1; omega) (append_zeros D1.out (most - s.size) (by simp; omega) _) ?_)
  intro v2 w2 hown hgr
  have E1 := Hd.mk hown
  have E2 := Hd.mk hgr
  clear hown hgr
  go_wp2_with fail
  go_ret
  exact ⟨_, rfl, E1.out.cast (by simp [slot]), D2.out.trans E2.out⟩

end Go.Proofs.Sg
