/- Plain: order, least cost; the lengths of frequencies. -/
import Derived.Test.YtnhinhcgdchdkaaHO
set_option linter.unusedSimpArgs false
set_option linter.unusedVariables false
namespace Go.Proofs.Ytnhinhcgdchdkaa
open Go

theorem eA_order {f : Nat → Int} {m a i k : Nat} (hk : k < m) (hlt : f k < f i) (h : 0 < eA f m a i) : 0 < eA f m a k := by
  rw [eA_mem] at h ⊢
  obtain ⟨p, hp⟩ := List.getElem?_of_mem h
  have hpa : p < a := by have := (List.getElem?_eq_some_iff.1 hp).1; rw [List.length_take] at this; omega
  rw [List.getElem?_take_of_lt hpa] at hp
  have hm : Tr.leaf k ∈ ordL f m := (ord_perm f m).symm.subset (List.mem_map.2 ⟨k, by simpa using hk, rfl⟩)
  obtain ⟨q, hq⟩ := List.getElem?_of_mem hm
  obtain ⟨hp1, hp2⟩ := List.getElem?_eq_some_iff.1 hp
  obtain ⟨hq1, hq2⟩ := List.getElem?_eq_some_iff.1 hq
  by_cases hqa : q < a
  · refine List.mem_of_getElem? (i := q) ?_
    rw [List.getElem?_take_of_lt hqa]; exact hq
  · exfalso
    have := List.pairwise_iff_getElem.1 (sortT_sorted f (leaves m)) p q hp1 hq1 (by omega)
    have e1 : (sortT f (leaves m))[p]'hp1 = .leaf i := hp2
    have e2 : (sortT f (leaves m))[q]'hq1 = .leaf k := hq2
    rw [e1, e2] at this
    simp only [Tr.wt] at this
    omega
theorem uS_order {f : Nat → Int} {m i k : Nat} (hk : k < m) (hlt : f k < f i) : ∀ r t, uS f m r t i ≤ uS f m r t k := by
  intro r
  induction r with
  | zero => intro t; rw [uS_zero, uS_zero]; exact Int.le_refl _
  | succ r ih =>
    intro t
    rw [uS_succ, uS_succ]
    have h1 := ih (2 * cntP f m r t)
    have h2 := eA_order (a := cntA f m r t) hk hlt
    have h3 := eA_bd f m (cntA f m r t) i
    have h4 := eA_bd f m (cntA f m r t) k
    omega

/-- The first t of a row in order weigh no more than any t of it. -/
theorem min_sum {f : Nat → Int} (hn : NN f) : ∀ (S X Y : List Tr) (t : Nat), S.Pairwise (fun a b => a.wt f ≤ b.wt f) → S.Perm (X ++ Y) → t ≤ X.length → sumT (Tr.wt f) (S.take t) ≤ sumT (Tr.wt f) X := by
  intro S
  induction S with
  | nil =>
    intro X Y t _ _ _
    simp only [List.take_nil]
    rw [sumT_nil]
    exact sumT_nn (fun t _ => wt_nn hn t)
  | cons s S ih =>
    intro X Y t hp hperm ht
    obtain ⟨hs, hp2⟩ := List.pairwise_cons.1 hp
    cases t with
    | zero => simp only [List.take_zero]; rw [sumT_nil]; exact sumT_nn (fun t _ => wt_nn hn t)
    | succ t =>
      rw [List.take_succ_cons, sumT_cons]
      have hmem : s ∈ X ++ Y := hperm.subset (by simp)
      rcases List.mem_append.1 hmem with hX | hY
      · obtain ⟨A, B, rfl⟩ := List.append_of_mem hX
        have h1 : S.Perm ((A ++ B) ++ Y) := by
          have h2 : (s :: S).Perm (s :: ((A ++ B) ++ Y)) := hperm.trans (by
            rw [List.append_assoc, List.append_assoc]
            exact List.perm_middle)
          exact h2.cons_inv
        have h3 := ih (A ++ B) Y t hp2 h1 (by simp at ht ⊢; omega)
        rw [sumT_append, sumT_cons]
        rw [sumT_append] at h3
        omega
      · obtain ⟨A, B, rfl⟩ := List.append_of_mem hY
        cases X with
        | nil => simp at ht
        | cons x X =>
          have hx : x ∈ s :: S := hperm.symm.subset (by simp)
          have h0 : s.wt f ≤ x.wt f := by
            rcases List.mem_cons.1 hx with e | e
            · rw [e]; exact Int.le_refl _
            · exact hs x e
          have h1 : S.Perm (X ++ (x :: (A ++ B))) := by
            have h2 : (s :: S).Perm (s :: (X ++ (x :: (A ++ B)))) := by
              refine hperm.trans ?_
              have e1 : (x :: X ++ (A ++ s :: B)).Perm (s :: (x :: X ++ (A ++ B))) := by
                rw [← List.append_assoc, ← List.append_assoc]
                exact List.perm_middle
              refine e1.trans (List.Perm.cons s ?_)
              show (x :: (X ++ (A ++ B))).Perm (X ++ (x :: (A ++ B)))
              exact List.perm_middle.symm
            exact h2.cons_inv
          have h3 := ih X (x :: (A ++ B)) t hp2 h1 (by simp at ht; omega)
          rw [sumT_cons]
          omega

theorem sublist_rest {α : Type} {X T : List α} (h : X.Sublist T) : ∃ Y, T.Perm (X ++ Y) := by
  induction h with
  | slnil => exact ⟨[], List.Perm.refl _⟩
  | cons a _ ih =>
    obtain ⟨Y, hY⟩ := ih
    exact ⟨a :: Y, (List.Perm.cons a hY).trans List.perm_middle.symm⟩
  | cons_cons a _ ih =>
    obtain ⟨Y, hY⟩ := ih
    exact ⟨Y, List.Perm.cons a hY⟩

theorem sum_leaves (g : Tr → Int) (q : Nat → Bool) (m : Nat) : sumT g (((List.range m).filter q).map Tr.leaf) = sumK m (fun k => if q k then g (.leaf k) else 0) := by
  induction m with
  | zero => rfl
  | succ m ih =>
    rw [List.range_succ, List.filter_append, List.map_append, sumT_append, ih, sumK_succ]
    by_cases h : q m
    · rw [List.filter_cons_of_pos h, if_pos h]; simp [sumT]
    · rw [List.filter_cons_of_neg h, if_neg h]; simp [sumT]
theorem count_leaves (q : Nat → Bool) (m : Nat) : ((((List.range m).filter q).map Tr.leaf).length : Int) = sumK m (fun k => if q k then 1 else 0) := by
  induction m with
  | zero => rfl
  | succ m ih =>
    rw [List.range_succ, List.filter_append, List.map_append, List.length_append, sumK_succ, Int.natCast_add, ih]
    by_cases h : q m
    · rw [List.filter_cons_of_pos h, if_pos h]; simp
    · rw [List.filter_cons_of_neg h, if_neg h]; simp

/-- No lengths that take as much weigh less. -/
theorem least {f : Nat → Int} (hn : NN f) (m : Nat) : ∀ (r : Nat) (d : Nat → Nat) (t : Nat), (∀ k, k < m → d k ≤ r) → (t : Int) * 2 ^ r ≤ sumK m (fun k => 2 ^ r - 2 ^ (r - d k)) * 2 →
    t ≤ (lev f m r).length ∧ sumT (Tr.wt f) ((sortT f (lev f m r)).take t) ≤ sumK m (fun k => f k * d k) := by
  intro r
  induction r with
  | zero =>
    intro d t hd h
    have h0 : sumK m (fun k => (2 : Int) ^ 0 - 2 ^ (0 - d k)) = sumK m (fun _ => 0) := sumK_congr (fun k _ => by simp)
    rw [h0, sumK_const] at h
    have ht : t = 0 := by simp at h; omega
    subst ht
    refine ⟨by omega, ?_⟩
    have h1 : sumK m (fun k => f k * (d k : Int)) = sumK m (fun _ => 0) := sumK_congr (fun k hk => by have := hd k hk; rw [show d k = 0 from by omega]; simp)
    rw [h1, sumK_const]; simp [sumT]
  | succ r ih =>
    intro d t hd h
    let q : Nat → Bool := fun k => decide (1 ≤ d k)
    have h1 : sumK m (fun k => (2 : Int) ^ (r + 1) - 2 ^ (r + 1 - d k)) = sumK m (fun k => 2 ^ r * (if q k then 1 else 0) + (2 ^ r - 2 ^ (r - (d k - 1)))) := by
      refine sumK_congr (fun k hk => ?_)
      have hk2 := hd k hk
      by_cases e : 1 ≤ d k
      · have hq : q k = true := by simpa [q] using e
        rw [if_pos hq, show r + 1 - d k = r - (d k - 1) from by omega, Int.pow_succ]; omega
      · have hq : ¬ q k = true := by simpa [q] using e
        rw [if_neg hq, show d k = 0 from by omega]; simp
    rw [h1, sumK_add, sumK_mul, ← count_leaves q m] at h
    have hcl := count_leaves q m
    generalize hs : (((List.range m).filter q).map Tr.leaf).length = s at *
    obtain ⟨D, hD⟩ : ∃ D, D = sumK m (fun k => (2 : Int) ^ r - 2 ^ (r - (d k - 1))) := ⟨_, rfl⟩
    rw [← hD] at h
    have hD0 : 0 ≤ D := by
      rw [hD]
      have : sumK m (fun _ => 0) ≤ sumK m (fun k => (2 : Int) ^ r - 2 ^ (r - (d k - 1))) := sumK_le (fun k _ => by
        have := Nat.pow_le_pow_right (n := 2) (by omega) (show r - (d k - 1) ≤ r by omega)
        have e1 : ((2 : Int) ^ r) = ((2 ^ r : Nat) : Int) := by simp
        have e2 : ((2 : Int) ^ (r - (d k - 1))) = ((2 ^ (r - (d k - 1)) : Nat) : Int) := by simp
        omega)
      rw [sumK_const] at this; omega
    have h2 : ((2 * (t - s) : Nat) : Int) * 2 ^ r ≤ D * 2 := by
      by_cases hts : s ≤ t
      · have e : ((2 * (t - s) : Nat) : Int) = 2 * (t - s : Int) := by omega
        rw [e]
        rw [Int.pow_succ] at h
        generalize (2 : Int) ^ r = w at *
        have h3 : (t : Int) * (w * 2) = (t * w) * 2 := by rw [Int.mul_assoc]
        have h4 : 2 * ((t : Int) - s) * w = (t * w - s * w) * 2 := by rw [Int.mul_assoc, Int.sub_mul]; omega
        rw [h3, Int.mul_comm w] at h
        rw [h4]
        omega
      · rw [show t - s = 0 from by omega]; simp; omega
    rw [hD] at h2
    obtain ⟨h5, h6⟩ := ih (fun k => d k - 1) (2 * (t - s)) (fun k hk => by have := hd k hk; show d k - 1 ≤ r; omega) h2
    have hpl : t - s ≤ (pairsT f (lev f m r)).length := by rw [pairsT_len]; omega
    have hX : ((pairsT f (lev f m r)).take (t - s) ++ ((List.range m).filter q).map Tr.leaf).Sublist (lev f m (r + 1)) :=
      (List.take_sublist _ _).append ((List.filter_sublist).map _)
    obtain ⟨Y, hY⟩ := sublist_rest hX
    have hXl : ((pairsT f (lev f m r)).take (t - s) ++ ((List.range m).filter q).map Tr.leaf).length = (t - s) + s := by
      rw [List.length_append, List.length_take, hs]; omega
    refine ⟨by have := hX.length_le; omega, ?_⟩
    have h7 := min_sum hn (sortT f (lev f m (r + 1))) _ Y t (sortT_sorted f _) ((sortT_perm f _).trans hY) (by omega)
    refine Int.le_trans h7 ?_
    rw [sumT_append, sum_leaves]
    have h8 : sumT (Tr.wt f) ((pairsT f (lev f m r)).take (t - s)) = sumT (Tr.wt f) ((sortT f (lev f m r)).take (2 * (t - s))) := sum_consec_take (wt_node f) _ _ (by rw [sortT_len]; exact h5)
    rw [h8]
    have h9 : sumK m (fun k => f k * (d k : Int)) = sumK m (fun k => f k * ((d k - 1 : Nat) : Int)) + sumK m (fun k => if q k then (Tr.leaf k).wt f else 0) := by
      rw [← sumK_add]
      refine sumK_congr (fun k hk => ?_)
      by_cases e : 1 ≤ d k
      · have hq : q k = true := by simpa [q] using e
        rw [if_pos hq]
        have e1 : ((d k : Nat) : Int) = ((d k - 1 : Nat) : Int) + 1 := by omega
        rw [e1, Int.mul_add]; simp [Tr.wt]
      · have hq : ¬ q k = true := by simpa [q] using e
        rw [if_neg hq, show d k = 0 from by omega]; simp
    rw [h9]
    omega
end Go.Proofs.Ytnhinhcgdchdkaa
