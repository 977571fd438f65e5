/- Plain: which items are taken of a level. -/
import Derived.Test.YtnhinhcgdchdkaaHI
set_option linter.unusedSimpArgs false
set_option linter.unusedVariables false
namespace Go.Proofs.Ytnhinhcgdchdkaa
open Go

abbrev kLe (f : Nat → Int) (p q : Tr × Nat) : Bool := keyLe (p.1.wt f, p.2) (q.1.wt f, q.2)
def sortZ (f : Nat → Int) (Z : List (Tr × Nat)) : List (Tr × Nat) := Z.mergeSort (kLe f)
theorem sortZ_perm (f : Nat → Int) (Z : List (Tr × Nat)) : (sortZ f Z).Perm Z := List.mergeSort_perm _ _
theorem sortZ_pw (f : Nat → Int) (Z : List (Tr × Nat)) : (sortZ f Z).Pairwise (fun p q => kLe f p q = true) :=
  List.pairwise_mergeSort (le := kLe f) (fun a b c => keyLe_trans _ _ _) (fun a b => keyLe_total _ _) Z
theorem sortT_eq (f : Nat → Int) (T : List Tr) : sortT f T = (sortZ f T.zipIdx).map Prod.fst := rfl

/-- The leaves in order. -/
def ordL (f : Nat → Int) (m : Nat) : List Tr := sortT f (leaves m)
theorem zip_shift (T : List Tr) (b : Nat) : T.zipIdx b = T.zipIdx.map fun p => (p.1, p.2 + b) := by
  apply List.ext_getElem?
  intro i
  simp only [List.getElem?_map, List.getElem?_zipIdx]
  cases T[i]? <;> simp [Nat.add_comm]
theorem ordZ_fst (f : Nat → Int) (T : List Tr) (b : Nat) : (sortZ f (T.zipIdx b)).map Prod.fst = sortT f T := by
  have h : (sortZ f T.zipIdx).map (fun p => (p.1, p.2 + b)) = sortZ f (T.zipIdx b) := by
    rw [zip_shift T b]
    exact List.map_mergeSort (r := kLe f) (s := kLe f) fun p _ q _ => by unfold kLe keyLe; refine decide_eq_decide.2 ?_; simp only; omega
  rw [← h, List.map_map, sortT_eq]; rfl

theorem filter_take_eq {α : Type} (q : α → Bool) (Z : List α) (t : Nat) : (Z.take t).filter q = (Z.filter q).take ((Z.take t).filter q).length := by
  have h : ((Z.take t).filter q) <+: (Z.filter q) := (List.take_prefix t Z).filter q
  exact List.prefix_iff_eq_take.1 h

theorem kLe_anti {f : Nat → Int} {p q : Tr × Nat} (h : kLe f p q = true) (k : kLe f q p = true) : p.2 = q.2 := by simp [kLe, keyLe] at h k; omega

/-- The packages and the leaves of a level, each in their own order. -/
theorem split_level (f : Nat → Int) (P L : List Tr) (hP : P.Pairwise (fun a b => a.wt f ≤ b.wt f)) :
    (sortZ f (P ++ L).zipIdx).filter (fun p => decide (p.2 < P.length)) = P.zipIdx ∧
    (sortZ f (P ++ L).zipIdx).filter (fun p => !decide (p.2 < P.length)) = sortZ f (L.zipIdx P.length) := by
  have hz : (P ++ L).zipIdx = P.zipIdx ++ L.zipIdx P.length := by rw [List.zipIdx_append]; simp
  have h1 : ∀ p ∈ P.zipIdx, p.2 < P.length := fun p hp => by
    have := List.mem_zipIdx hp; omega
  have h2 : ∀ p ∈ L.zipIdx P.length, ¬ p.2 < P.length := fun p hp => by
    have := List.mem_zipIdx hp; omega
  have f1 : ((P ++ L).zipIdx).filter (fun p => decide (p.2 < P.length)) = P.zipIdx := by
    rw [hz, List.filter_append, List.filter_eq_self.2 (fun p hp => by simpa using h1 p hp), List.filter_eq_nil_iff.2 (fun p hp => by simpa using h2 p hp), List.append_nil]
  have f2 : ((P ++ L).zipIdx).filter (fun p => !decide (p.2 < P.length)) = L.zipIdx P.length := by
    rw [hz, List.filter_append, List.filter_eq_nil_iff.2 (fun p hp => by simpa using h1 p hp), List.filter_eq_self.2 (fun p hp => by simpa using h2 p hp), List.nil_append]
  constructor
  · refine List.Perm.eq_of_pairwise (le := fun p q => kLe f p q = true) ?_ ((sortZ_pw f _).filter _) ?_ ?_
    · intro a b ha hb hab hba
      have e := kLe_anti hab hba
      have hb' := List.mem_zipIdx hb
      have ha' := (sortZ_perm f _).subset (List.mem_filter.1 ha).1
      rw [hz, List.mem_append] at ha'
      have ha2 : a ∈ P.zipIdx := by
        rcases ha' with h | h
        · exact h
        · exact absurd (by omega) (h2 a h)
      have ha3 := List.mem_zipIdx ha2
      obtain ⟨a1, a2⟩ := a
      obtain ⟨b1, b2⟩ := b
      simp only at e; subst e
      exact Prod.ext (ha3.2.2.trans hb'.2.2.symm) rfl
    · rw [List.pairwise_iff_getElem]
      intro i j hi hj hij
      simp only [List.length_zipIdx] at hi hj
      have := List.pairwise_iff_getElem.1 hP i j hi hj hij
      simp [kLe, keyLe]
      omega
    · rw [← f1]; exact (sortZ_perm f _).filter _
  · refine List.Perm.eq_of_pairwise (le := fun p q => kLe f p q = true) ?_ ((sortZ_pw f _).filter _) (sortZ_pw f _) ?_
    · intro a b ha hb hab hba
      have e := kLe_anti hab hba
      have hb' := List.mem_zipIdx ((sortZ_perm f _).subset hb)
      have ha' := (sortZ_perm f _).subset (List.mem_filter.1 ha).1
      rw [hz, List.mem_append] at ha'
      have ha2 : a ∈ L.zipIdx P.length := by
        rcases ha' with h | h
        · exact absurd (h1 a h) (by omega)
        · exact h
      have ha3 := List.mem_zipIdx ha2
      obtain ⟨a1, a2⟩ := a
      obtain ⟨b1, b2⟩ := b
      simp only at e; subst e
      exact Prod.ext (ha3.2.2.trans hb'.2.2.symm) rfl
    · refine ((sortZ_perm f _).filter _).trans ?_
      rw [f2]
      exact (sortZ_perm f _).symm

/-- Sums of neighbours rise with the row. -/
theorem consec_pw (f : Nat → Int) {S : List Tr} (h : S.Pairwise (fun a b => a.wt f ≤ b.wt f)) : ((consec S).map fun p => Tr.node p.1 p.2).Pairwise (fun a b => a.wt f ≤ b.wt f) := by
  rw [List.pairwise_map, List.pairwise_iff_getElem]
  intro i j hi hj hij
  have hli := hi; have hlj := hj
  rw [consec_len] at hli hlj
  have ei := consec_get S i _ _ (List.getElem?_eq_getElem (by omega)) (List.getElem?_eq_getElem (by omega))
  have ej := consec_get S j _ _ (List.getElem?_eq_getElem (by omega)) (List.getElem?_eq_getElem (by omega))
  rw [List.getElem?_eq_getElem hi] at ei
  rw [List.getElem?_eq_getElem hj] at ej
  simp only [Option.some.injEq] at ei ej
  rw [ei, ej]
  have k1 := List.pairwise_iff_getElem.1 h (2 * i) (2 * j) (by omega) (by omega) (by omega)
  have k2 := List.pairwise_iff_getElem.1 h (2 * i + 1) (2 * j + 1) (by omega) (by omega) (by omega)
  simp only [Tr.wt]
  omega
theorem pairsT_pw (f : Nat → Int) (T : List Tr) : (pairsT f T).Pairwise (fun a b => a.wt f ≤ b.wt f) := consec_pw f (sortT_sorted f T)

theorem sum_consec_take {g : Tr → Int} (hg : ∀ a b, g (.node a b) = g a + g b) : ∀ (S : List Tr) (p : Nat), 2 * p ≤ S.length → sumT g (((consec S).map fun x => Tr.node x.1 x.2).take p) = sumT g (S.take (2 * p))
  | S, 0, _ => by simp [sumT]
  | [], p + 1, h => by simp at h
  | [a], p + 1, h => by simp at h; omega
  | a :: b :: r, p + 1, h => by
    have ih := sum_consec_take hg r p (by simp at h; omega)
    rw [show 2 * (p + 1) = 2 * p + 1 + 1 from by omega]
    simp only [consec, List.map_cons, List.take_succ_cons, sumT_cons, hg]
    rw [ih]; omega

/-- How many leaves are among the t lightest of the next level. -/
def cntA (f : Nat → Int) (m r t : Nat) : Nat := (((sortZ f (lev f m (r + 1)).zipIdx).take t).filter (fun p => !decide (p.2 < (pairsT f (lev f m r)).length))).length
def cntP (f : Nat → Int) (m r t : Nat) : Nat := (((sortZ f (lev f m (r + 1)).zipIdx).take t).filter (fun p => decide (p.2 < (pairsT f (lev f m r)).length))).length

theorem sum_filter (g : Tr → Int) (q : Tr × Nat → Bool) (Z : List (Tr × Nat)) : sumT g (Z.map Prod.fst) = sumT g ((Z.filter q).map Prod.fst) + sumT g ((Z.filter (fun p => !q p)).map Prod.fst) := by
  induction Z with
  | nil => simp [sumT]
  | cons z Z ih =>
    simp only [List.map_cons, sumT_cons]
    rw [ih]
    by_cases h : q z
    · rw [List.filter_cons_of_pos h, List.filter_cons_of_neg (by simp [h])]
      simp only [List.map_cons, sumT_cons]; omega
    · rw [List.filter_cons_of_neg h, List.filter_cons_of_pos (by simp [h])]
      simp only [List.map_cons, sumT_cons]; omega

theorem len_filter {α : Type} (q : α → Bool) (Z : List α) : Z.length = (Z.filter q).length + (Z.filter (fun p => !q p)).length := by
  induction Z with
  | nil => rfl
  | cons z Z ih =>
    by_cases h : q z
    · rw [List.filter_cons_of_pos h, List.filter_cons_of_neg (by simp [h])]; simp only [List.length_cons]; omega
    · rw [List.filter_cons_of_neg h, List.filter_cons_of_pos (by simp [h])]; simp only [List.length_cons]; omega

theorem level_parts (f : Nat → Int) (m r t : Nat) :
    (((sortZ f (lev f m (r + 1)).zipIdx).take t).filter (fun p => decide (p.2 < (pairsT f (lev f m r)).length))).map Prod.fst = (pairsT f (lev f m r)).take (cntP f m r t) ∧
    (((sortZ f (lev f m (r + 1)).zipIdx).take t).filter (fun p => !decide (p.2 < (pairsT f (lev f m r)).length))).map Prod.fst = (ordL f m).take (cntA f m r t) := by
  obtain ⟨h1, h2⟩ := split_level f (pairsT f (lev f m r)) (leaves m) (pairsT_pw f _)
  constructor
  · rw [filter_take_eq]
    show List.map Prod.fst (List.take (cntP f m r t) (List.filter _ (sortZ f (pairsT f (lev f m r) ++ leaves m).zipIdx))) = _
    rw [h1, List.map_take, List.zipIdx_map_fst]
  · rw [filter_take_eq]
    show List.map Prod.fst (List.take (cntA f m r t) (List.filter _ (sortZ f (pairsT f (lev f m r) ++ leaves m).zipIdx))) = _
    rw [h2, List.map_take, ordZ_fst]; rfl

theorem sum_level (f : Nat → Int) (m r t : Nat) (g : Tr → Int) : sumT g ((sortT f (lev f m (r + 1))).take t) = sumT g ((pairsT f (lev f m r)).take (cntP f m r t)) + sumT g ((ordL f m).take (cntA f m r t)) := by
  obtain ⟨h1, h2⟩ := level_parts f m r t
  rw [sortT_eq, ← List.map_take, sum_filter g (fun p => decide (p.2 < (pairsT f (lev f m r)).length)), h1, h2]
theorem cnt_sum (f : Nat → Int) (m r t : Nat) (h : t ≤ (lev f m (r + 1)).length) : cntP f m r t + cntA f m r t = t := by
  have h1 := len_filter (fun p => decide (p.2 < (pairsT f (lev f m r)).length)) ((sortZ f (lev f m (r + 1)).zipIdx).take t)
  have h2 : ((sortZ f (lev f m (r + 1)).zipIdx).take t).length = t := by
    rw [List.length_take, (sortZ_perm f _).length_eq, List.length_zipIdx]; omega
  unfold cntP cntA
  omega
theorem cntP_le (f : Nat → Int) (m r t : Nat) : cntP f m r t ≤ (pairsT f (lev f m r)).length := by
  obtain ⟨h1, _⟩ := split_level f (pairsT f (lev f m r)) (leaves m) (pairsT_pw f _)
  have h2 : cntP f m r t ≤ ((sortZ f (lev f m (r + 1)).zipIdx).filter (fun p => decide (p.2 < (pairsT f (lev f m r)).length))).length := by
    unfold cntP; exact ((List.take_sublist t _).filter _).length_le
  have h3 : ((sortZ f (lev f m (r + 1)).zipIdx).filter (fun p => decide (p.2 < (pairsT f (lev f m r)).length))) = (pairsT f (lev f m r)).zipIdx := h1
  rw [h3, List.length_zipIdx] at h2
  exact h2
/-- What is taken of a level: leaves, and what is taken of the level below. -/
theorem sum_down (f : Nat → Int) (m r t : Nat) {g : Tr → Int} (hg : ∀ a b, g (.node a b) = g a + g b) :
    sumT g ((sortT f (lev f m (r + 1))).take t) = sumT g ((sortT f (lev f m r)).take (2 * cntP f m r t)) + sumT g ((ordL f m).take (cntA f m r t)) := by
  rw [sum_level]
  congr 1
  have h := cntP_le f m r t
  rw [pairsT_len] at h
  exact sum_consec_take hg (sortT f (lev f m r)) _ (by rw [sortT_len]; omega)
end Go.Proofs.Ytnhinhcgdchdkaa
