/- Plain: a heap of items, the lightest first. -/
import Derived.Test.YtnhinhcgdchdkaaL2
set_option linter.unusedSimpArgs false
set_option linter.unusedVariables false
namespace Go.Proofs.Ytnhinhcgdchdkaa
open Go

/-- An item of the queue: weight, number, uses. -/
structure It where
  wt : Int
  no : Int
  uA : Option Addr
  un : Nat
  uc : Nat
abbrev It.us (x : It) : Value := .slice x.uA x.un x.uc
def It.cells (x : It) : List Value := [.int .i64 x.wt, .int .i64 x.no, x.us]
def ics (l : List It) : List Value := l.flatMap It.cells
theorem ics_len (l : List It) : (ics l).length = l.length * 3 := by
  induction l with
  | nil => rfl
  | cons x l ih => simp only [ics, List.flatMap_cons, List.length_append, List.length_cons] at ih ⊢; rw [ih]; simp [It.cells]; omega
theorem ics_app (l m : List It) : ics (l ++ m) = ics l ++ ics m := by simp [ics]
theorem ics_get {l : List It} {i : Nat} {x : It} (h : l[i]? = some x) (j : Nat) (hj : j < 3) : (ics l)[i * 3 + j]? = x.cells[j]? := by
  induction l generalizing i with
  | nil => simp at h
  | cons z l ih =>
    simp only [ics, List.flatMap_cons]
    cases i with
    | zero =>
      simp at h; subst h
      rw [List.getElem?_append_left (by simp [It.cells]; omega)]; simp
    | succ i =>
      simp at h
      rw [List.getElem?_append_right (by simp [It.cells]; omega), show (i + 1) * 3 + j - z.cells.length = i * 3 + j from by simp [It.cells]; omega]
      exact ih h
theorem ics_set {l : List It} {i : Nat} {x : It} (h : i < l.length) : (((ics l).set (i * 3) (.int .i64 x.wt)).set (i * 3 + 1) (.int .i64 x.no)).set (i * 3 + 2) x.us = ics (l.set i x) := by
  induction l generalizing i with
  | nil => simp at h
  | cons z l ih =>
    cases i with
    | zero => simp [ics, It.cells]
    | succ i =>
      simp only [ics, List.flatMap_cons, List.set_cons_succ] at ih ⊢
      simp only [List.length_cons, Nat.add_lt_add_iff_right] at h
      rw [show It.cells z = [.int .i64 z.wt, .int .i64 z.no, z.us] from rfl] at *
      rw [show (i + 1) * 3 = i * 3 + 3 from by omega, show i * 3 + 3 + 1 = (i * 3 + 1) + 3 from by omega, show i * 3 + 3 + 2 = (i * 3 + 2) + 3 from by omega]
      simp only [List.cons_append, List.nil_append, List.set_cons_succ]
      rw [ih h]

/-- Is x ahead of y? -/
def It.lt (x y : It) : Prop := x.wt < y.wt ∨ (x.wt = y.wt ∧ x.no < y.no)
instance (x y : It) : Decidable (It.lt x y) := inferInstanceAs (Decidable (_ ∨ _))
def It.le (x y : It) : Prop := ¬ It.lt y x
instance (x y : It) : Decidable (It.le x y) := inferInstanceAs (Decidable (¬ _))
theorem It.le_def (x y : It) : It.le x y ↔ x.wt < y.wt ∨ (x.wt = y.wt ∧ x.no ≤ y.no) := by unfold It.le It.lt; omega
theorem It.lt_le {x y : It} (h : It.lt x y) : It.le x y := by rw [It.le_def]; unfold It.lt at h; omega
theorem It.le_trans {x y z : It} (h : It.le x y) (k : It.le y z) : It.le x z := by rw [It.le_def] at *; omega
theorem It.le_refl (x : It) : It.le x x := by rw [It.le_def]; omega
theorem It.le_total (x y : It) : It.le x y ∨ It.le y x := by rw [It.le_def, It.le_def]; omega

def kid (p j : Nat) : Prop := j = 2 * p + 1 ∨ j = 2 * p + 2

/-- From place k on, whoever stands above is not behind those below it, of the first n. -/
def HeapFrom (k n : Nat) (l : List It) : Prop := ∀ p j x y, k ≤ p → j < n → kid p j → l[p]? = some x → l[j]? = some y → It.le x y

/-- The same but for the place i, which may be too heavy. -/
structure Sift (k n i : Nat) (l : List It) : Prop where
  one : ∀ p j x y, k ≤ p → p ≠ i → j < n → kid p j → l[p]? = some x → l[j]? = some y → It.le x y
  two : ∀ p j x y, k ≤ p → kid p i → j < n → kid i j → l[p]? = some x → l[j]? = some y → It.le x y

theorem Sift.start {k n : Nat} {l : List It} (h : HeapFrom (k + 1) n l) : Sift k n k l :=
  ⟨fun p j x y h1 h2 h3 h4 => h p j x y (by omega) h3 h4, fun p j x y h1 h2 => by unfold kid at h2; omega⟩

def swp (l : List It) (i j : Nat) (x y : It) : List It := (l.set i y).set j x

theorem swp_len (l : List It) (i j : Nat) (x y : It) : (swp l i j x y).length = l.length := by simp [swp]
theorem swp_get {l : List It} {i j : Nat} {x y : It} (hi : l[i]? = some x) (hj : l[j]? = some y) (k : Nat) :
    (swp l i j x y)[k]? = if k = j then some x else if k = i then some y else l[k]? := by
  have h1 := (List.getElem?_eq_some_iff.1 hi).1
  have h2 := (List.getElem?_eq_some_iff.1 hj).1
  unfold swp
  rw [List.getElem?_set, List.getElem?_set]
  by_cases e1 : j = k
  · subst e1; simp [h2]
  · have e1' : ¬ k = j := fun e => e1 e.symm
    rw [if_neg e1, if_neg e1']
    by_cases e2 : i = k
    · subst e2; simp [h1, hj]
    · have e2' : ¬ k = i := fun e => e2 e.symm
      rw [if_neg e2, if_neg e2']
theorem swp_perm {l : List It} {i j : Nat} {x y : It} (hi : l[i]? = some x) (hj : l[j]? = some y) : (swp l i j x y).Perm l := by
  obtain ⟨h1, rfl⟩ := List.getElem?_eq_some_iff.1 hi
  obtain ⟨h2, rfl⟩ := List.getElem?_eq_some_iff.1 hj
  exact List.set_set_perm h1 h2

theorem Sift.step {k n i j : Nat} {l : List It} {x y : It} (h : Sift k n i l) (hki : k ≤ i) (hn : n ≤ l.length) (hi : l[i]? = some x) (hj : l[j]? = some y) (hij : kid i j) (hjn : j < n) (hlt : It.lt y x)
    (hmin : ∀ q z, kid i q → q < n → l[q]? = some z → It.le y z) : Sift k n j (swp l i j x y) := by
  unfold kid at *
  refine ⟨fun p q u v h1 h2 h3 h4 h5 h6 => ?_, fun p q u v h1 h2 h3 h4 h5 h6 => ?_⟩
  · rw [swp_get hi hj] at h5 h6
    rw [if_neg h2] at h5
    by_cases e : p = i
    · rw [if_pos e] at h5
      simp only [Option.some.injEq] at h5; subst h5
      by_cases e2 : q = j
      · rw [if_pos e2] at h6; simp only [Option.some.injEq] at h6; subst h6; exact It.lt_le hlt
      · rw [if_neg e2, if_neg (by unfold kid at h4; omega)] at h6
        exact hmin q v (by subst e; exact h4) h3 h6
    · rw [if_neg e] at h5
      by_cases e2 : q = j
      · unfold kid at h4; omega
      · rw [if_neg e2] at h6
        by_cases e3 : q = i
        · rw [if_pos e3] at h6; simp only [Option.some.injEq] at h6; subst h6
          exact h.two p j u y h1 (by subst e3; exact h4) hjn hij h5 hj
        · rw [if_neg e3] at h6
          exact h.one p q u v h1 e h3 h4 h5 h6
  · have e : p = i := by unfold kid at h2; omega
    subst e
    rw [swp_get hi hj] at h5 h6
    unfold kid at h4
    rw [if_neg (by omega), if_pos rfl] at h5
    simp only [Option.some.injEq] at h5; subst h5
    rw [if_neg (by omega), if_neg (by omega)] at h6
    exact h.one j q y v (by omega) (by omega) h3 h4 hj h6

theorem Sift.stop {k n i : Nat} {l : List It} {x : It} (h : Sift k n i l) (hi : l[i]? = some x) (hmin : ∀ q z, kid i q → q < n → l[q]? = some z → It.le x z) : HeapFrom k n l := by
  intro p j u v h1 h2 h3 h4 h5
  by_cases e : p = i
  · subst e; rw [hi] at h4; simp only [Option.some.injEq] at h4; subst h4; exact hmin j v h3 h2 h5
  · exact h.one p j u v h1 e h2 h3 h4 h5

theorem HeapFrom.far {k n : Nat} (l : List It) (h : n ≤ 2 * k + 1) : HeapFrom k n l := fun p j x y h1 h2 h3 => by unfold kid at h3; omega

theorem HeapFrom.least {n : Nat} {l : List It} (h : HeapFrom 0 n l) (hn : n ≤ l.length) {x : It} (h0 : l[0]? = some x) : ∀ j y, j < n → l[j]? = some y → It.le x y := by
  intro j
  induction j using Nat.strongRecOn with
  | _ j ih =>
    intro y hj hy
    by_cases e : j = 0
    · subst e; rw [h0] at hy; simp only [Option.some.injEq] at hy; subst hy; exact It.le_refl x
    · have hp : (j - 1) / 2 < j := by omega
      have hpl : (j - 1) / 2 < l.length := by omega
      have h1 := ih ((j - 1) / 2) hp l[(j - 1) / 2] (by omega) (List.getElem?_eq_getElem hpl)
      have h2 := h ((j - 1) / 2) j _ y (by omega) hj (by unfold kid; omega) (List.getElem?_eq_getElem hpl) hy
      exact It.le_trans h1 h2

/-- The row, in order: the lightest first, no two of one number. -/
structure Srt (M : List It) : Prop where
  le : M.Pairwise It.le
  no : (M.map It.no).Nodup

theorem Srt.tail {x : It} {M : List It} (h : Srt (x :: M)) : Srt M := ⟨(List.pairwise_cons.1 h.le).2, (List.nodup_cons.1 h.no).2⟩

theorem first_is {l M : List It} {x y : It} (hs : Srt (x :: M)) (hp : l.Perm (x :: M)) (h0 : l[0]? = some y) (hh : HeapFrom 0 l.length l) : y = x := by
  have hyl : y ∈ l := List.mem_of_getElem? h0
  have hxl : x ∈ l := hp.symm.subset (by simp)
  obtain ⟨j, hj⟩ := List.getElem?_of_mem hxl
  have h1 : It.le y x := hh.least (Nat.le_refl _) h0 j x (List.getElem?_eq_some_iff.1 hj).1 hj
  have hym : y ∈ x :: M := hp.subset hyl
  rcases List.mem_cons.1 hym with e | hm
  · exact e
  · have h2 : It.le x y := (List.pairwise_cons.1 hs.le).1 y hm
    have h3 : x.no = y.no := by rw [It.le_def] at h1 h2; omega
    exact absurd (List.mem_map.2 ⟨y, hm, h3.symm⟩) (List.nodup_cons.1 hs.no).1

theorem rest_is {M m : List It} {x : It} {l : List It} (hp : l.Perm (x :: M)) (hl : l = m ++ [x]) : m.Perm M := by
  subst hl
  have h : (x :: m).Perm (x :: M) := (List.perm_append_singleton x m).symm.trans hp
  exact h.cons_inv

/-- The row of items, in order. -/
def sortIt (l : List It) : List It := l.mergeSort (fun a b => decide (It.le a b))
theorem sortIt_perm (l : List It) : (sortIt l).Perm l := List.mergeSort_perm l _
theorem sortIt_srt {l : List It} (h : (l.map It.no).Nodup) : Srt (sortIt l) := by
  refine ⟨?_, ((sortIt_perm l).map It.no).nodup_iff.2 h⟩
  have := List.pairwise_mergeSort (le := fun a b => decide (It.le a b)) (fun a b c h1 h2 => by simp at *; exact It.le_trans h1 h2) (fun a b => by simp; exact It.le_total a b) l
  simpa [sortIt] using this
end Go.Proofs.Ytnhinhcgdchdkaa
