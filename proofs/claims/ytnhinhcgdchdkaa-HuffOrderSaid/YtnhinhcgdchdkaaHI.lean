/- Plain: the levels of items, how many there are and what they weigh; the symbols that are used. -/
import Derived.Test.YtnhinhcgdchdkaaHE
set_option linter.unusedSimpArgs false
set_option linter.unusedVariables false
namespace Go.Proofs.Ytnhinhcgdchdkaa
open Go

def leaves (m : Nat) : List Tr := (List.range m).map Tr.leaf
def lev (f : Nat → Int) (m : Nat) : Nat → List Tr
  | 0 => []
  | r + 1 => pairsT f (lev f m r) ++ leaves m

def sumT (g : Tr → Int) (T : List Tr) : Int := (T.map g).sum
theorem sumT_nil (g : Tr → Int) : sumT g [] = 0 := rfl
theorem sumT_cons (g : Tr → Int) (t : Tr) (T : List Tr) : sumT g (t :: T) = g t + sumT g T := by simp [sumT]
theorem sumT_append (g : Tr → Int) (T T' : List Tr) : sumT g (T ++ T') = sumT g T + sumT g T' := by simp [sumT, List.sum_append]
theorem sumT_perm {g : Tr → Int} {T T' : List Tr} (h : T.Perm T') : sumT g T = sumT g T' := by
  induction h with
  | nil => rfl
  | cons x _ ih => rw [sumT_cons, sumT_cons, ih]
  | swap x y l => simp only [sumT_cons]; omega
  | trans _ _ h1 h2 => rw [h1, h2]
theorem sumT_nn {g : Tr → Int} {T : List Tr} (h : ∀ t ∈ T, 0 ≤ g t) : 0 ≤ sumT g T := by
  induction T with
  | nil => simp [sumT]
  | cons x T ih =>
    rw [sumT_cons]
    have h1 := h x (by simp)
    have h2 := ih (fun t ht => h t (by simp [ht]))
    omega
theorem sumT_mem {g : Tr → Int} {T : List Tr} (h : ∀ t ∈ T, 0 ≤ g t) {t : Tr} (ht : t ∈ T) : g t ≤ sumT g T := by
  induction T with
  | nil => simp at ht
  | cons x T ih =>
    rw [sumT_cons]
    have h1 := h x (by simp)
    have h2 := sumT_nn (fun t ht => h t (List.mem_cons_of_mem _ ht))
    rcases List.mem_cons.1 ht with rfl | ht
    · omega
    · have := ih (fun t ht => h t (by simp [ht])) ht
      omega
theorem sumT_take {g : Tr → Int} {T : List Tr} (h : ∀ t ∈ T, 0 ≤ g t) (n : Nat) : sumT g (T.take n) ≤ sumT g T := by
  have h1 : sumT g T = sumT g (T.take n) + sumT g (T.drop n) := by rw [← sumT_append, List.take_append_drop]
  have h2 := sumT_nn (fun t ht => h t (List.mem_of_mem_drop (i := n) ht))
  omega
theorem sum_consec {g : Tr → Int} (hg : ∀ a b, g (.node a b) = g a + g b) : ∀ T : List Tr, (∀ t ∈ T, 0 ≤ g t) → sumT g ((consec T).map fun p => .node p.1 p.2) ≤ sumT g T
  | [], _ => by simp [consec, sumT]
  | [a], h => by have := h a (by simp); simp [consec, sumT]; omega
  | a :: b :: r, h => by
    have := sum_consec hg r (fun t ht => h t (by simp [ht]))
    simp only [consec, List.map_cons, sumT_cons, hg]
    omega
theorem sum_pairs {f : Nat → Int} {g : Tr → Int} (hg : ∀ a b, g (.node a b) = g a + g b) {T : List Tr} (h : ∀ t ∈ T, 0 ≤ g t) : sumT g (pairsT f T) ≤ sumT g T := by
  have h1 := sum_consec hg (sortT f T) (fun t ht => h t ((sortT_perm f T).subset ht))
  rw [sumT_perm (sortT_perm f T)] at h1
  exact h1

theorem use_node (k : Nat) (a b : Tr) : (Tr.node a b).use k = a.use k + b.use k := rfl
theorem wt_node (f : Nat → Int) (a b : Tr) : (Tr.node a b).wt f = a.wt f + b.wt f := rfl

theorem leaves_use (m k : Nat) : sumT (Tr.use k) (leaves m) = if k < m then 1 else 0 := by
  induction m with
  | zero => simp [leaves, sumT]
  | succ m ih =>
    have : leaves (m + 1) = leaves m ++ [.leaf m] := by simp [leaves, List.range_succ]
    rw [this, sumT_append, ih]
    simp only [sumT, List.map_cons, List.map_nil, List.sum_cons, List.sum_nil, Tr.use]
    by_cases h : k < m
    · rw [if_pos h, if_neg (by omega), if_pos (by omega)]; rfl
    · rw [if_neg h]
      by_cases e : m = k
      · rw [if_pos e, if_pos (by omega)]; rfl
      · rw [if_neg e, if_neg (by omega)]; rfl

theorem lev_use (f : Nat → Int) (m k r : Nat) : sumT (Tr.use k) (lev f m r) ≤ r := by
  induction r with
  | zero => simp [lev, sumT]
  | succ r ih =>
    simp only [lev]
    rw [sumT_append, leaves_use]
    have h1 := sum_pairs (f := f) (use_node k) (T := lev f m r) (fun t _ => t.use_nn k)
    split <;> omega

/-- No symbol weighs less than nothing. -/
def NN (f : Nat → Int) : Prop := ∀ k, 0 ≤ f k
theorem wt_nn {f : Nat → Int} (h : NN f) (t : Tr) : 0 ≤ t.wt f := by
  induction t with
  | leaf k => exact h k
  | node a b ha hb => simp only [Tr.wt]; omega
theorem lev_wt {f : Nat → Int} (h : NN f) (m r : Nat) : sumT (Tr.wt f) (lev f m r) ≤ r * sumT (Tr.wt f) (leaves m) := by
  induction r with
  | zero => simp [lev, sumT]
  | succ r ih =>
    simp only [lev]
    rw [sumT_append]
    have h1 := sum_pairs (f := f) (wt_node f) (T := lev f m r) (fun t _ => wt_nn h t)
    rw [Int.natCast_add, Int.add_mul]
    omega
theorem leaves_wt {f : Nat → Int} {B : Int} (h : ∀ k, f k ≤ B) (m : Nat) : sumT (Tr.wt f) (leaves m) ≤ m * B := by
  induction m with
  | zero => simp [leaves, sumT]
  | succ m ih =>
    have e : leaves (m + 1) = leaves m ++ [.leaf m] := by simp [leaves, List.range_succ]
    rw [e, sumT_append, Int.natCast_add, Int.add_mul]
    have := h m
    simp only [sumT, List.map_cons, List.map_nil, List.sum_cons, List.sum_nil, Tr.wt] at ih ⊢
    omega

theorem lev_len (f : Nat → Int) (m r : Nat) : (lev f m (r + 1)).length = (lev f m r).length / 2 + m := by simp [lev, pairsT_len, leaves]
theorem lev_len_le (f : Nat → Int) (m r : Nat) : (lev f m r).length ≤ 2 * m := by
  induction r with
  | zero => simp [lev]
  | succ r ih => rw [lev_len]; omega
theorem lev_len_ge (f : Nat → Int) (m : Nat) : ∀ r j, m ≤ 2 ^ (r + j) → 2 * m ≤ (lev f m (r + 1)).length + 2 ^ j := by
  intro r
  induction r with
  | zero => intro j h; rw [lev_len]; simp [lev] at *; omega
  | succ r ih =>
    intro j h
    have h1 := ih (j + 1) (by rwa [show r + (j + 1) = r + 1 + j from by omega])
    rw [lev_len]
    rw [Nat.pow_succ] at h1
    omega

/-- The bounds that the walk wants of a level. -/
theorem lev_bounds {f : Nat → Int} (h : NN f) (hB : ∀ k, f k ≤ 1099511627776) {m r : Nat} (hm : m ≤ 320) (hr : r ≤ 15) :
    (∀ t ∈ lev f m r, 0 ≤ t.wt f ∧ t.wt f ≤ 1152921504606846976) ∧ (∀ t ∈ lev f m r, ∀ k, k < m → t.use k ≤ 1099511627776) := by
  refine ⟨fun t ht => ⟨wt_nn h t, ?_⟩, fun t ht k hk => ?_⟩
  · have h1 := sumT_mem (g := Tr.wt f) (fun t _ => wt_nn h t) ht
    have h2 := lev_wt h m r
    have h3 := leaves_wt hB m
    have h4 : (r : Int) * sumT (Tr.wt f) (leaves m) ≤ r * (m * 1099511627776) := Int.mul_le_mul_of_nonneg_left h3 (by omega)
    have h5 : (r : Int) * (m * 1099511627776) ≤ 15 * (m * 1099511627776) := Int.mul_le_mul_of_nonneg_right (by omega) (by omega)
    omega
  · have h1 := sumT_mem (g := Tr.use k) (fun t _ => t.use_nn k) ht
    have h2 := lev_use f m k r
    omega

/-- The symbols whose frequency is above 0. -/
def usedTo (l : List Int) (k : Nat) : List Nat := (List.range k).filter fun i => decide (0 < l.getD i 0)
def usedL (l : List Int) : List Nat := usedTo l l.length
/-- The weight of the k-th one of them. -/
def wtOf (l : List Int) (k : Nat) : Int := l.getD ((usedL l).getD k 0) 0

theorem usedTo_zero (l : List Int) : usedTo l 0 = [] := rfl
theorem usedTo_yes {l : List Int} {k : Nat} (h : 0 < l.getD k 0) : usedTo l (k + 1) = usedTo l k ++ [k] := by
  unfold usedTo; rw [List.range_succ, List.filter_append, List.filter_cons_of_pos (by simpa using h)]; rfl
theorem usedTo_no {l : List Int} {k : Nat} (h : ¬ 0 < l.getD k 0) : usedTo l (k + 1) = usedTo l k := by
  unfold usedTo; rw [List.range_succ, List.filter_append, List.filter_cons_of_neg (by simpa using h)]; simp
theorem usedTo_len (l : List Int) (k : Nat) : (usedTo l k).length ≤ k := by
  unfold usedTo; have := List.length_filter_le (fun i => decide (0 < l.getD i 0)) (List.range k); simpa using this
theorem usedL_mem {l : List Int} {s : Nat} : s ∈ usedL l ↔ s < l.length ∧ 0 < l.getD s 0 := by simp [usedL, usedTo]
theorem usedL_nodup (l : List Int) : (usedL l).Nodup := List.Pairwise.filter _ List.nodup_range
theorem usedL_get {l : List Int} {k : Nat} (h : k < (usedL l).length) : (usedL l)[k]? = some ((usedL l)[k]) ∧ (usedL l)[k] < l.length ∧ 0 < l.getD ((usedL l)[k]) 0 := by
  have h1 := usedL_mem.1 (List.getElem_mem h)
  exact ⟨List.getElem?_eq_getElem h, h1.1, h1.2⟩
theorem wtOf_eq {l : List Int} {k : Nat} (h : k < (usedL l).length) : wtOf l k = l.getD ((usedL l)[k]) 0 := by
  unfold wtOf; rw [List.getD_eq_getElem?_getD (l := usedL l), List.getElem?_eq_getElem h]; rfl
theorem wtOf_bd {l : List Int} (h : ∀ x ∈ l, 0 ≤ x ∧ x ≤ 1099511627776) : NN (wtOf l) ∧ ∀ k, wtOf l k ≤ 1099511627776 := by
  have hg : ∀ s, 0 ≤ l.getD s 0 ∧ l.getD s 0 ≤ 1099511627776 := fun s => by
    rw [List.getD_eq_getElem?_getD]
    cases e : l[s]? with
    | none => simp
    | some x => exact h x (List.mem_of_getElem? e)
  exact ⟨fun k => (hg _).1, fun k => (hg _).2⟩

/-- What a count of each used symbol makes of the whole row. -/
def outOf (l : List Int) (c : Nat → Int) : List Int := (List.range l.length).map fun s => if 0 < l.getD s 0 then c ((usedL l).idxOf s) else 0
theorem outOf_len (l : List Int) (c : Nat → Int) : (outOf l c).length = l.length := by simp [outOf]
theorem outOf_get {l : List Int} {c : Nat → Int} {s : Nat} (h : s < l.length) : (outOf l c)[s]? = some (if 0 < l.getD s 0 then c ((usedL l).idxOf s) else 0) := by simp [outOf, h]
theorem outOf_used {l : List Int} {c : Nat → Int} {k : Nat} (h : k < (usedL l).length) : (outOf l c)[(usedL l)[k]]? = some (c k) := by
  obtain ⟨_, h2, h3⟩ := usedL_get h
  rw [outOf_get h2, if_pos h3, (usedL_nodup l).idxOf_getElem k h]
theorem outOf_zero (l : List Int) : outOf l (fun _ => 0) = List.replicate l.length 0 := by
  apply List.ext_getElem?
  intro i
  by_cases h : i < l.length
  · rw [outOf_get h]; simp [h]
  · rw [List.getElem?_eq_none (by simp [outOf]; omega), List.getElem?_eq_none (by simp; omega)]
theorem outOf_set {l : List Int} {c : Nat → Int} {k : Nat} (h : k < (usedL l).length) (v : Int) : (outOf l c).set ((usedL l)[k]) v = outOf l (fun j => if j = k then v else c j) := by
  obtain ⟨_, h2, h3⟩ := usedL_get h
  apply List.ext_getElem?
  intro i
  rw [List.getElem?_set, outOf_len]
  by_cases e : (usedL l)[k] = i
  · rw [if_pos e, if_pos h2, ← e, outOf_used (c := fun j => if j = k then v else c j) h, if_pos rfl]
  · rw [if_neg e]
    by_cases hi : i < l.length
    · rw [outOf_get hi, outOf_get hi]
      by_cases hp : 0 < l.getD i 0
      · rw [if_pos hp, if_pos hp]
        have hm : i ∈ usedL l := usedL_mem.2 ⟨hi, hp⟩
        rw [if_neg]
        intro ek
        have h4 := List.getElem_idxOf (List.idxOf_lt_length_iff.2 hm)
        apply e
        rw [← h4]; congr 1; exact ek.symm
      · rw [if_neg hp, if_neg hp]
    · rw [List.getElem?_eq_none (by rw [outOf_len]; omega), List.getElem?_eq_none (by rw [outOf_len]; omega)]

/-- How often the k-th used symbol lies in the lightest 2m - 2 items of the last level. -/
def taken (l : List Int) (limit : Nat) : List Tr := (sortT (wtOf l) (lev (wtOf l) (usedL l).length limit)).take (2 * (usedL l).length - 2)
def cntOf (l : List Int) (limit : Nat) (k : Nat) : Int := sumT (Tr.use k) (taken l limit)
def lensOf (l : List Int) (limit : Nat) : List Int := outOf l (cntOf l limit)

theorem cnt_le (l : List Int) (limit k n : Nat) : sumT (Tr.use k) ((sortT (wtOf l) (lev (wtOf l) (usedL l).length limit)).take n) ≤ limit := by
  have h1 := sumT_take (g := Tr.use k) (T := sortT (wtOf l) (lev (wtOf l) (usedL l).length limit)) (fun t _ => t.use_nn k) n
  rw [sumT_perm (sortT_perm _ _)] at h1
  have h2 := lev_use (wtOf l) (usedL l).length k limit
  omega
end Go.Proofs.Ytnhinhcgdchdkaa
