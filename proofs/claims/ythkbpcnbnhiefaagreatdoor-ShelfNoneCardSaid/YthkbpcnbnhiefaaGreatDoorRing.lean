/- A ring of links: what taking a place out, and putting one to the front, makes of its order; plain lists, no program. -/
namespace Go.Proofs.Sg

structure Lk where
  ahead : Nat
  behind : Nat
  inn : Bool

def upd {α : Type} (L : Nat → α) (i : Nat) (x : α) : Nat → α := fun j => if j = i then x else L j
theorem upd_same {α : Type} (L : Nat → α) (i : Nat) (x : α) : upd L i x i = x := by simp [upd]
theorem upd_other {α : Type} (L : Nat → α) {i j : Nat} (x : α) (h : j ≠ i) : upd L i x j = L j := by simp [upd, h]

def outA (L : Nat → Lk) (i : Nat) : Nat → Lk := upd L (L i).ahead { L (L i).ahead with behind := (L i).behind }
def outB (L : Nat → Lk) (i : Nat) : Nat → Lk := upd (outA L i) (L i).behind { outA L i (L i).behind with ahead := (L i).ahead }
def outL (L : Nat → Lk) (i : Nat) : Nat → Lk := upd (outB L i) i ⟨0, 0, false⟩
def putA (L : Nat → Lk) (i at_ : Nat) : Nat → Lk := upd L i ⟨at_, (L at_).behind, true⟩
def putB (L : Nat → Lk) (i at_ : Nat) : Nat → Lk := upd (putA L i at_) at_ { putA L i at_ at_ with behind := i }
def putL (L : Nat → Lk) (i at_ : Nat) : Nat → Lk := upd (putB L i at_) (L at_).behind { putB L i at_ (L at_).behind with ahead := i }

/-- Each one's next is the one behind it, and back. -/
def Adj (L : Nat → Lk) : List Nat → Prop
  | a :: b :: r => (L a).behind = b ∧ (L b).ahead = a ∧ Adj L (b :: r)
  | _ => True

theorem Adj.append {L : Nat → Lk} {u : Nat} : ∀ {x y : List Nat}, Adj L (x ++ u :: y) ↔ Adj L (x ++ [u]) ∧ Adj L (u :: y)
  | [], y => by simp [Adj]
  | [a], y => by simp [Adj, and_assoc]
  | a :: b :: r, y => by
    have ih := Adj.append (L := L) (u := u) (x := b :: r) (y := y)
    simp only [List.cons_append, Adj] at ih ⊢
    rw [ih]
    simp [and_assoc]

/-- Behind of all but the last and ahead of all but the first are all that counts. -/
theorem Adj.congr {L L' : Nat → Lk} : ∀ {l : List Nat}, (∀ u ∈ l.dropLast, (L' u).behind = (L u).behind) → (∀ u ∈ l.tail, (L' u).ahead = (L u).ahead) → Adj L l → Adj L' l
  | [], _, _, _ => trivial
  | [_], _, _, _ => trivial
  | a :: b :: r, hb, ha, h => by
    obtain ⟨h1, h2, h3⟩ := h
    refine ⟨?_, ?_, ?_⟩
    · rw [hb a (by simp [List.dropLast])]; exact h1
    · rw [ha b (by simp)]; exact h2
    · refine Adj.congr (fun u hu => hb u ?_) (fun u hu => ha u ?_) h3
      · simp only [List.dropLast]; exact List.mem_cons_of_mem _ hu
      · exact List.mem_cons_of_mem _ hu

structure Ring (L : Nat → Lk) (n : Nat) (o : List Nat) : Prop where
  nodup : o.Nodup
  lt : ∀ i ∈ o, i < n
  inn : ∀ i, i < n → (L i).inn = decide (i ∈ o)
  adj : Adj L (n :: (o ++ [n]))

theorem Ring.last {L : Nat → Lk} {n : Nat} {o : List Nat} (h : Ring L n o) : (L n).ahead = (n :: o).getLast (by simp) := by
  have := h.adj
  rcases List.eq_nil_or_concat o with rfl | ⟨p, z, rfl⟩
  · simp [Adj] at this ⊢; exact this.2
  · have e : n :: ((p ++ [z]) ++ [n]) = (n :: p) ++ z :: [n] := by simp
    rw [List.concat_eq_append] at *
    rw [e, Adj.append] at this
    obtain ⟨_, h2⟩ := this
    simp only [Adj, and_true] at h2
    rw [h2.2]
    simp [List.getLast_cons]

/-- The neighbours of one that is in. -/
theorem Ring.near {L : Nat → Lk} {n i : Nat} {p s : List Nat} (h : Ring L n (p ++ i :: s)) :
    ∃ q a b t, n :: p = q ++ [a] ∧ s ++ [n] = b :: t ∧ (L i).ahead = a ∧ (L i).behind = b ∧ Adj L (q ++ [a]) ∧ Adj L (b :: t) ∧ (L a).behind = i ∧ (L b).ahead = i := by
  have hadj := h.adj
  have e : n :: ((p ++ i :: s) ++ [n]) = (n :: p) ++ i :: (s ++ [n]) := by simp
  rw [e, Adj.append] at hadj
  obtain ⟨h1, h2⟩ := hadj
  rcases List.eq_nil_or_concat (n :: p) with h0 | ⟨q, a, hq⟩
  · cases h0
  · rw [List.concat_eq_append] at hq
    rcases hs : s ++ [n] with _ | ⟨b, t⟩
    · simp at hs
    · rw [hq] at h1
      have e2 : q ++ [a] ++ [i] = q ++ a :: [i] := by simp
      rw [e2, Adj.append] at h1
      rw [hs] at h2
      simp only [Adj, and_true] at h1 h2
      exact ⟨q, a, b, t, hq, rfl, h1.2.2, h2.1, h1.1, h2.2.2, h1.2.1, h2.2.1⟩

theorem Ring.out {L : Nat → Lk} {n i : Nat} {p s : List Nat} (h : Ring L n (p ++ i :: s)) : Ring (outL L i) n (p ++ s) := by
  obtain ⟨q, a, b, t, hq, ht, hia, hib, hA, hB, _, _⟩ := h.near
  have hnd := h.nodup
  have hlt := h.lt
  have hin : i < n := hlt i (by simp)
  have hip : i ∉ p := fun hm => by
    have := (List.nodup_append.1 hnd).2.2 i hm i (by simp); exact this rfl
  have his : i ∉ s := fun hm => by
    have := (List.nodup_cons.1 (List.nodup_append.1 hnd).2.1).1; exact this hm
  have hai : a ≠ i := by
    intro e; subst e
    have : a ∈ n :: p := by rw [hq]; simp
    rcases List.mem_cons.1 this with h1 | h1
    · omega
    · exact hip h1
  have hbi : b ≠ i := by
    intro e; subst e
    have : b ∈ s ++ [n] := by rw [ht]; simp
    rcases List.mem_append.1 this with h1 | h1
    · exact his h1
    · simp at h1; omega
  have hb' : ∀ u, u ≠ i → (outL L i u).behind = if u = a then b else (L u).behind := by
    intro u hu
    simp only [outL, outB, outA, hia, hib]
    rw [upd_other _ _ hu]
    by_cases h1 : u = b
    · subst h1
      rw [upd_same]
      by_cases h2 : u = a
      · subst h2; simp [upd_same]
      · simp [upd_other _ _ h2, h2]
    · rw [upd_other _ _ h1]
      by_cases h2 : u = a
      · subst h2; simp [upd_same]
      · simp [upd_other _ _ h2, h2]
  have ha' : ∀ u, u ≠ i → (outL L i u).ahead = if u = b then a else (L u).ahead := by
    intro u hu
    simp only [outL, outB, outA, hia, hib]
    rw [upd_other _ _ hu]
    by_cases h1 : u = b
    · subst h1; simp [upd_same]
    · rw [upd_other _ _ h1]
      by_cases h2 : u = a
      · subst h2; simp [upd_same, h1]
      · simp [upd_other _ _ h2, h1]
  have hnp : (n :: p).Nodup := by
    refine List.nodup_cons.2 ⟨fun hm => ?_, (List.nodup_append.1 hnd).1⟩
    have := hlt n (by simp [hm]); omega
  have hsn : (s ++ [n]).Nodup := by
    refine List.nodup_append.2 ⟨(List.nodup_cons.1 (List.nodup_append.1 hnd).2.1).2, by simp, ?_⟩
    intro x hx y hy; simp at hy; subst hy
    have := hlt x (by simp [hx]); omega
  refine ⟨?_, fun j hj => hlt j ?_, fun j hj => ?_, ?_⟩
  · exact (List.nodup_append.1 hnd).1 |> fun h1 => List.nodup_append.2 ⟨h1, (List.nodup_cons.1 (List.nodup_append.1 hnd).2.1).2, fun x hx y hy => (List.nodup_append.1 hnd).2.2 x hx y (by simp [hy])⟩
  · rcases List.mem_append.1 hj with h1 | h1 <;> simp [h1]
  · by_cases hji : j = i
    · subst hji
      simp [outL, upd_same, hip, his]
    · have e1 : (outL L i j).inn = (L j).inn := by
        simp only [outL, outB, outA, hia, hib]
        rw [upd_other _ _ hji]
        by_cases h1 : j = b
        · subst h1
          rw [upd_same]
          by_cases h2 : j = a
          · subst h2; simp [upd_same]
          · simp [upd_other _ _ h2]
        · rw [upd_other _ _ h1]
          by_cases h2 : j = a
          · subst h2; simp [upd_same]
          · simp [upd_other _ _ h2]
      rw [e1, h.inn j hj]
      simp [hji]
  · have e : n :: (p ++ s ++ [n]) = q ++ a :: (b :: t) := by
      have : n :: (p ++ s ++ [n]) = (n :: p) ++ (s ++ [n]) := by simp
      rw [this, hq, ht]; simp
    rw [e, Adj.append]
    refine ⟨?_, ?_⟩
    · refine Adj.congr (fun u hu => ?_) (fun u hu => ?_) hA
      · have hu' : u ∈ q := by simpa using hu
        have hun : u ∈ n :: p := by rw [hq]; simp [hu']
        have hui : u ≠ i := by
          rintro rfl
          rcases List.mem_cons.1 hun with h1 | h1
          · omega
          · exact hip h1
        have hua : u ≠ a := by
          rintro rfl
          rw [hq] at hnp
          exact (List.nodup_append.1 hnp).2.2 u hu' u (by simp) rfl
        rw [hb' u hui, if_neg hua]
      · have hun : u ∈ p := by
          have e3 : (q ++ [a]).tail = p := by rw [← hq]; rfl
          rw [e3] at hu; exact hu
        have hui : u ≠ i := by rintro rfl; exact hip hun
        have hub : u ≠ b := by
          rintro rfl
          have : u ∈ s ++ [n] := by rw [ht]; simp
          rcases List.mem_append.1 this with h1 | h1
          · exact (List.nodup_append.1 hnd).2.2 u hun u (by simp [h1]) rfl
          · simp at h1; have := hlt u (by simp [hun]); omega
        rw [ha' u hui, if_neg hub]
    · refine ⟨?_, ?_, ?_⟩
      · rw [hb' a hai, if_pos rfl]
      · rw [ha' b hbi, if_pos rfl]
      · refine Adj.congr (fun u hu => ?_) (fun u hu => ?_) hB
        · have hus : u ∈ s := by
            have e3 : (b :: t).dropLast = s := by rw [← ht]; simp
            rw [e3] at hu; exact hu
          have hui : u ≠ i := by rintro rfl; exact his hus
          have hua : u ≠ a := by
            rintro rfl
            have : u ∈ n :: p := by rw [hq]; simp
            rcases List.mem_cons.1 this with h1 | h1
            · have := hlt u (by simp [hus]); omega
            · exact (List.nodup_append.1 hnd).2.2 u h1 u (by simp [hus]) rfl
          rw [hb' u hui, if_neg hua]
        · have hut : u ∈ t := by simpa using hu
          have hun : u ∈ s ++ [n] := by rw [ht]; simp [hut]
          have hui : u ≠ i := by
            rintro rfl
            rcases List.mem_append.1 hun with h1 | h1
            · exact his h1
            · simp at h1; omega
          have hub : u ≠ b := by
            rintro rfl
            rw [ht] at hsn
            exact (List.nodup_cons.1 hsn).1 hut
          rw [ha' u hui, if_neg hub]

theorem Ring.put {L : Nat → Lk} {n i : Nat} {o : List Nat} (h : Ring L n o) (hi : i < n) (ho : i ∉ o) : Ring (putL L i n) n (i :: o) := by
  have hadj := h.adj
  rcases hs : o ++ [n] with _ | ⟨b, t⟩
  · simp at hs
  rw [hs] at hadj
  obtain ⟨hb, hab, hB⟩ := hadj
  have hin : i ≠ n := by omega
  have hbn : b ∈ o ++ [n] := by rw [hs]; simp
  have hbi : b ≠ i := by
    rintro rfl
    rcases List.mem_append.1 hbn with h1 | h1
    · exact ho h1
    · simp at h1; omega
  have hsn : (o ++ [n]).Nodup := by
    refine List.nodup_append.2 ⟨h.nodup, by simp, ?_⟩
    intro x hx y hy; simp at hy; subst hy
    have := h.lt x hx; omega
  have hb' : ∀ u, (putL L i n u).behind = if u = n then i else if u = i then b else (L u).behind := by
    intro u
    simp only [putL, putB, putA, hb]
    by_cases h1 : u = b
    · subst h1
      rw [upd_same]
      by_cases h2 : u = n
      · subst h2; simp [upd_same]
      · simp [upd_other _ _ h2, h2, upd_other _ _ hbi, hbi]
    · rw [upd_other _ _ h1]
      by_cases h2 : u = n
      · subst h2; simp [upd_same]
      · rw [upd_other _ _ h2]
        by_cases h3 : u = i
        · subst h3; simp [upd_same, h2]
        · simp [upd_other _ _ h3, h2, h3]
  have ha' : ∀ u, (putL L i n u).ahead = if u = b then i else if u = i then n else (L u).ahead := by
    intro u
    simp only [putL, putB, putA, hb]
    by_cases h1 : u = b
    · subst h1; simp [upd_same]
    · rw [upd_other _ _ h1, if_neg h1]
      by_cases h2 : u = n
      · subst h2; simp [upd_same, upd_other _ _ hin.symm, hin.symm]
      · rw [upd_other _ _ h2]
        by_cases h3 : u = i
        · subst h3; simp [upd_same]
        · simp [upd_other _ _ h3, h3]
  refine ⟨List.nodup_cons.2 ⟨ho, h.nodup⟩, ?_, fun j hj => ?_, ?_⟩
  · intro j hj
    rcases List.mem_cons.1 hj with rfl | h1
    · exact hi
    · exact h.lt j h1
  · have e1 : (putL L i n j).inn = if j = i then true else (L j).inn := by
      have hjn : j ≠ n := by omega
      simp only [putL, putB, putA, hb]
      by_cases h1 : j = b
      · subst h1
        rw [upd_same]
        simp [upd_other _ _ hjn, upd_other _ _ hbi, hbi]
      · rw [upd_other _ _ h1, upd_other _ _ hjn]
        by_cases h3 : j = i
        · subst h3; simp [upd_same]
        · simp [upd_other _ _ h3, h3]
    rw [e1]
    by_cases h3 : j = i
    · subst h3; simp
    · simp [h3, h.inn j hj]
  · show Adj (putL L i n) (n :: i :: (o ++ [n]))
    rw [hs]
    refine ⟨?_, ?_, ?_, ?_, ?_⟩
    · rw [hb' n, if_pos rfl]
    · rw [ha' i, if_neg hbi.symm, if_pos rfl]
    · rw [hb' i, if_neg hin, if_pos rfl]
    · rw [ha' b, if_pos rfl]
    · refine Adj.congr (fun u hu => ?_) (fun u hu => ?_) hB
      · have huo : u ∈ o := by
          have e3 : (b :: t).dropLast = o := by rw [← hs]; simp
          rw [e3] at hu; exact hu
        have h1 : u ≠ n := by have := h.lt u huo; omega
        have h2 : u ≠ i := by rintro rfl; exact ho huo
        rw [hb' u, if_neg h1, if_neg h2]
      · have hut : u ∈ t := by simpa using hu
        have h1 : u ≠ b := by
          rintro rfl
          rw [hs] at hsn
          exact (List.nodup_cons.1 hsn).1 hut
        have h2 : u ≠ i := by
          rintro rfl
          have : u ∈ o ++ [n] := by rw [hs]; simp [hut]
          rcases List.mem_append.1 this with h3 | h3
          · exact ho h3
          · simp at h3; omega
        rw [ha' u, if_neg h1, if_neg h2]

end Go.Proofs.Sg
