/- Plain: the lengths make a code; who is more frequent has no longer one; no others cost less. -/
import Derived.Test.YtnhinhcgdchdkaaHN
set_option linter.unusedSimpArgs false
set_option linter.unusedVariables false
namespace Go.Proofs.Ytnhinhcgdchdkaa
open Go

def sumK (m : Nat) (h : Nat → Int) : Int := ((List.range m).map h).sum
theorem sumK_succ (m : Nat) (h : Nat → Int) : sumK (m + 1) h = sumK m h + h m := by simp [sumK, List.range_succ, List.sum_append]
theorem sumK_zero (h : Nat → Int) : sumK 0 h = 0 := rfl
theorem sumK_congr {m : Nat} {h h' : Nat → Int} (e : ∀ k, k < m → h k = h' k) : sumK m h = sumK m h' := by
  induction m with
  | zero => rfl
  | succ m ih => rw [sumK_succ, sumK_succ, ih (fun k hk => e k (by omega)), e m (by omega)]
theorem sumK_add (m : Nat) (h h' : Nat → Int) : sumK m (fun k => h k + h' k) = sumK m h + sumK m h' := by
  induction m with
  | zero => rfl
  | succ m ih => simp only [sumK_succ]; rw [ih]; omega
theorem sumK_mul (m : Nat) (c : Int) (h : Nat → Int) : sumK m (fun k => c * h k) = c * sumK m h := by
  induction m with
  | zero => simp [sumK]
  | succ m ih => simp only [sumK_succ]; rw [ih, Int.mul_add]
theorem sumK_le {m : Nat} {h h' : Nat → Int} (e : ∀ k, k < m → h k ≤ h' k) : sumK m h ≤ sumK m h' := by
  induction m with
  | zero => exact Int.le_refl _
  | succ m ih =>
    have h1 := ih (fun k hk => e k (by omega))
    have h2 := e m (by omega)
    rw [sumK_succ, sumK_succ]; omega
theorem sumK_const (m : Nat) (c : Int) : sumK m (fun _ => c) = m * c := by
  induction m with
  | zero => simp [sumK]
  | succ m ih => rw [sumK_succ, ih, Int.natCast_add, Int.add_mul]; omega
theorem sumK_one {m j : Nat} (hj : j < m) (c : Int) : sumK m (fun k => if j = k then c else 0) = c := by
  induction m with
  | zero => omega
  | succ m ih =>
    rw [sumK_succ]
    by_cases e : j = m
    · subst e
      rw [if_pos rfl]
      have : sumK j (fun k => if j = k then c else 0) = sumK j (fun _ => 0) := sumK_congr (fun k hk => by rw [if_neg (by omega)])
      rw [this, sumK_const]; omega
    · rw [if_neg e, ih (by omega)]; omega

/-- The tree's symbols are below m. -/
def Tr.inn (m : Nat) : Tr → Prop
  | .leaf k => k < m
  | .node a b => a.inn m ∧ b.inn m
theorem wt_sum (f : Nat → Int) {m : Nat} : ∀ {t : Tr}, t.inn m → t.wt f = sumK m (fun k => f k * t.use k)
  | .leaf j, h => by
    have : sumK m (fun k => f k * (Tr.leaf j).use k) = sumK m (fun k => if j = k then f j else 0) := sumK_congr (fun k _ => by
      simp only [Tr.use]; split
      · rename_i e; rw [e]; omega
      · omega)
    rw [this, sumK_one h]; rfl
  | .node a b, h => by
    have : sumK m (fun k => f k * (Tr.node a b).use k) = sumK m (fun k => f k * a.use k + f k * b.use k) := sumK_congr (fun k _ => by simp only [Tr.use]; rw [Int.mul_add])
    rw [this, sumK_add, ← wt_sum f h.1, ← wt_sum f h.2]; rfl
theorem sumT_wt (f : Nat → Int) {m : Nat} {X : List Tr} (h : ∀ t ∈ X, t.inn m) : sumT (Tr.wt f) X = sumK m (fun k => f k * sumT (Tr.use k) X) := by
  induction X with
  | nil =>
    have : sumK m (fun k => f k * sumT (Tr.use k) []) = sumK m (fun _ => 0) := sumK_congr (fun k _ => by simp [sumT])
    rw [this, sumK_const]; simp [sumT]
  | cons t X ih =>
    have : sumK m (fun k => f k * sumT (Tr.use k) (t :: X)) = sumK m (fun k => f k * t.use k + f k * sumT (Tr.use k) X) := sumK_congr (fun k _ => by rw [sumT_cons, Int.mul_add])
    rw [this, sumK_add, sumT_cons, ih (fun t ht => h t (by simp [ht])), wt_sum f (h t (by simp))]
theorem consec_mem {α : Type} : ∀ (l : List α) (p : α × α), p ∈ consec l → p.1 ∈ l ∧ p.2 ∈ l
  | [], p, h => by simp [consec] at h
  | [_], p, h => by simp [consec] at h
  | a :: b :: r, p, h => by
    simp only [consec, List.mem_cons] at h
    rcases h with rfl | h
    · simp
    · have := consec_mem r p h; simp [this.1, this.2]
theorem pairs_mem {f : Nat → Int} {T : List Tr} {t : Tr} (h : t ∈ pairsT f T) : ∃ a b, t = .node a b ∧ a ∈ T ∧ b ∈ T := by
  obtain ⟨p, hp, rfl⟩ := List.mem_map.1 h
  have := consec_mem _ _ hp
  exact ⟨p.1, p.2, rfl, (sortT_perm f T).subset this.1, (sortT_perm f T).subset this.2⟩
theorem lev_below (f : Nat → Int) (m r : Nat) : ∀ t ∈ lev f m r, t.inn m := by
  induction r with
  | zero => intro t h; simp [lev] at h
  | succ r ih =>
    intro t h
    rcases List.mem_append.1 h with h | h
    · obtain ⟨a, b, rfl, ha, hb⟩ := pairs_mem h
      exact ⟨ih a ha, ih b hb⟩
    · obtain ⟨k, hk, rfl⟩ := List.mem_map.1 h
      simpa [Tr.inn] using hk
theorem lev_pos {f : Nat → Int} {m : Nat} (hf : ∀ k, k < m → 0 < f k) (r : Nat) : ∀ t ∈ lev f m r, 0 < t.wt f := by
  induction r with
  | zero => intro t h; simp [lev] at h
  | succ r ih =>
    intro t h
    rcases List.mem_append.1 h with h | h
    · obtain ⟨a, b, rfl, ha, hb⟩ := pairs_mem h
      have := ih a ha; have := ih b hb; simp only [Tr.wt]; omega
    · obtain ⟨k, hk, rfl⟩ := List.mem_map.1 h
      exact hf k (by simpa using hk)

theorem ord_perm (f : Nat → Int) (m : Nat) : (ordL f m).Perm (leaves m) := sortT_perm f _
theorem ord_len (f : Nat → Int) (m : Nat) : (ordL f m).length = m := by rw [(ord_perm f m).length_eq]; simp [leaves]
/-- Is symbol k among the first a leaves? -/
def eA (f : Nat → Int) (m a k : Nat) : Int := sumT (Tr.use k) ((ordL f m).take a)
theorem eA_bd (f : Nat → Int) (m a k : Nat) : 0 ≤ eA f m a k ∧ eA f m a k ≤ 1 := by
  refine ⟨sumT_nn (fun t _ => t.use_nn k), ?_⟩
  have h := sumT_take (g := Tr.use k) (T := ordL f m) (fun t _ => t.use_nn k) a
  rw [sumT_perm (ord_perm f m), leaves_use] at h
  unfold eA
  split at h <;> omega
theorem sum_pos {g : Tr → Int} {T : List Tr} (h : 0 < sumT g T) : ∃ t ∈ T, 0 < g t := by
  induction T with
  | nil => simp [sumT] at h
  | cons t T ih =>
    rw [sumT_cons] at h
    by_cases h0 : 0 < g t
    · exact ⟨t, by simp, h0⟩
    · obtain ⟨u, hu, h1⟩ := ih (by omega)
      exact ⟨u, by simp [hu], h1⟩
theorem eA_mem {f : Nat → Int} {m a k : Nat} : 0 < eA f m a k ↔ Tr.leaf k ∈ (ordL f m).take a := by
  constructor
  · intro h
    obtain ⟨t, ht, h1⟩ := sum_pos h
    have h2 := (ord_perm f m).subset (List.mem_of_mem_take ht)
    obtain ⟨j, _, rfl⟩ := List.mem_map.1 h2
    simp only [Tr.use] at h1
    split at h1
    · rename_i e; subst e; exact ht
    · omega
  · intro h
    have := sumT_mem (g := Tr.use k) (T := (ordL f m).take a) (fun t _ => t.use_nn k) h
    simp only [Tr.use, if_true] at this
    unfold eA; omega
theorem eA_sum (f : Nat → Int) (m a : Nat) (ha : a ≤ m) : sumK m (fun k => eA f m a k) = a := by
  have h : ∀ X : List Tr, (∀ t ∈ X, ∃ j, j < m ∧ t = .leaf j) → sumK m (fun k => sumT (Tr.use k) X) = X.length := by
    intro X
    induction X with
    | nil => intro _; have : sumK m (fun k => sumT (Tr.use k) []) = sumK m (fun _ => 0) := rfl; rw [this, sumK_const]; simp
    | cons t X ih =>
      intro hx
      have : sumK m (fun k => sumT (Tr.use k) (t :: X)) = sumK m (fun k => t.use k + sumT (Tr.use k) X) := sumK_congr (fun k _ => sumT_cons _ _ _)
      rw [this, sumK_add, ih (fun t ht => hx t (by simp [ht]))]
      obtain ⟨j, hj, rfl⟩ := hx t (by simp)
      have : sumK m (fun k => (Tr.leaf j).use k) = 1 := sumK_one hj 1
      rw [this]; simp; omega
  have h1 := h ((ordL f m).take a) (fun t ht => by
    have h2 := (ord_perm f m).subset (List.mem_of_mem_take ht)
    obtain ⟨j, hj, rfl⟩ := List.mem_map.1 h2
    exact ⟨j, by simpa using hj, rfl⟩)
  unfold eA
  rw [h1, List.length_take, ord_len]
  omega
theorem cntA_le (f : Nat → Int) (m r t : Nat) : cntA f m r t ≤ m := by
  obtain ⟨_, h1⟩ := split_level f (pairsT f (lev f m r)) (leaves m) (pairsT_pw f _)
  have h2 : cntA f m r t ≤ ((sortZ f (lev f m (r + 1)).zipIdx).filter (fun p => !decide (p.2 < (pairsT f (lev f m r)).length))).length := by
    unfold cntA; exact ((List.take_sublist t _).filter _).length_le
  have h3 : ((sortZ f (lev f m (r + 1)).zipIdx).filter (fun p => !decide (p.2 < (pairsT f (lev f m r)).length))) = sortZ f ((leaves m).zipIdx (pairsT f (lev f m r)).length) := h1
  rw [h3, (sortZ_perm f _).length_eq, List.length_zipIdx] at h2
  simpa [leaves] using h2

/-- How often symbol k lies in the t lightest of level r. -/
def uS (f : Nat → Int) (m r t k : Nat) : Int := sumT (Tr.use k) ((sortT f (lev f m r)).take t)
theorem uS_zero (f : Nat → Int) (m t k : Nat) : uS f m 0 t k = 0 := by simp [uS, lev, sortT, sumT]
theorem uS_succ (f : Nat → Int) (m r t k : Nat) : uS f m (r + 1) t k = uS f m r (2 * cntP f m r t) k + eA f m (cntA f m r t) k := sum_down f m r t (use_node k)
theorem uS_bd (f : Nat → Int) (m r t k : Nat) : 0 ≤ uS f m r t k ∧ uS f m r t k ≤ r := by
  refine ⟨sumT_nn (fun t _ => t.use_nn k), ?_⟩
  have h1 := sumT_take (g := Tr.use k) (T := sortT f (lev f m r)) (fun t _ => t.use_nn k) t
  rw [sumT_perm (sortT_perm _ _)] at h1
  have := lev_use f m k r
  unfold uS; omega

/-- A leaf that is lighter than what is taken is taken. -/
theorem lighter {f : Nat → Int} {m r t k : Nat} (hk : k < m) {Q : Tr} (hQ : Q ∈ (sortT f (lev f m (r + 1))).take t) (hlt : f k < Q.wt f) : 0 < eA f m (cntA f m r t) k := by
  rw [eA_mem, ← (level_parts f m r t).2]
  rw [sortT_eq, ← List.map_take] at hQ
  obtain ⟨z, hz, rfl⟩ := List.mem_map.1 hQ
  have hl : (Tr.leaf k, (pairsT f (lev f m r)).length + k) ∈ (lev f m (r + 1)).zipIdx := by
    rw [List.mk_mem_zipIdx_iff_getElem?]
    simp only [lev]
    rw [List.getElem?_append_right (by omega), Nat.add_sub_cancel_left]
    simp [leaves, hk]
  have hl2 := (sortZ_perm f _).symm.subset hl
  obtain ⟨i, hi⟩ := List.getElem?_of_mem hl2
  obtain ⟨j, hj⟩ := List.getElem?_of_mem hz
  have hjt : j < t := by
    have := (List.getElem?_eq_some_iff.1 hj).1
    rw [List.length_take] at this; omega
  rw [List.getElem?_take_of_lt hjt] at hj
  by_cases hit : i < t
  · refine List.mem_map.2 ⟨(Tr.leaf k, (pairsT f (lev f m r)).length + k), List.mem_filter.2 ⟨?_, by simp⟩, rfl⟩
    refine List.mem_of_getElem? (i := i) ?_
    rw [List.getElem?_take_of_lt hit]; exact hi
  · exfalso
    obtain ⟨hi1, hi2⟩ := List.getElem?_eq_some_iff.1 hi
    obtain ⟨hj1, hj2⟩ := List.getElem?_eq_some_iff.1 hj
    have := List.pairwise_iff_getElem.1 (sortZ_pw f (lev f m (r + 1)).zipIdx) j i hj1 hi1 (by omega)
    rw [hi2, hj2] at this
    have h9 := of_decide_eq_true this
    simp only at h9
    have h10 : (Tr.leaf k).wt f = f k := rfl
    omega

theorem part_mem {f : Nat → Int} {m r t k : Nat} (h : 0 < eA f m (cntA f m r t) k) : Tr.leaf k ∈ (sortT f (lev f m (r + 1))).take t := by
  rw [eA_mem, ← (level_parts f m r t).2] at h
  obtain ⟨z, hz, hz2⟩ := List.mem_map.1 h
  rw [sortT_eq, ← List.map_take]
  exact List.mem_map.2 ⟨z, (List.mem_filter.1 hz).1, hz2⟩
theorem part_pair {f : Nat → Int} {m r t : Nat} {Q : Tr} (h : Q ∈ (pairsT f (lev f m r)).take (cntP f m r t)) : Q ∈ (sortT f (lev f m (r + 1))).take t := by
  rw [← (level_parts f m r t).1] at h
  obtain ⟨z, hz, hz2⟩ := List.mem_map.1 h
  rw [sortT_eq, ← List.map_take]
  exact List.mem_map.2 ⟨z, (List.mem_filter.1 hz).1, hz2⟩

/-- Whoever is taken at all is taken at the top. -/
theorem at_top {f : Nat → Int} {m : Nat} (hf : ∀ k, k < m → 0 < f k) {k : Nat} (hk : k < m) : ∀ r t, 0 < uS f m (r + 1) t k → 0 < eA f m (cntA f m r t) k := by
  intro r
  induction r with
  | zero =>
    intro t h
    rw [uS_succ, uS_zero] at h
    omega
  | succ r ih =>
    intro t h
    rw [uS_succ] at h
    by_cases h0 : 0 < eA f m (cntA f m (r + 1) t) k
    · exact h0
    have h1 : 0 < uS f m (r + 1) (2 * cntP f m (r + 1) t) k := by have := (eA_bd f m (cntA f m (r + 1) t) k).1; omega
    have h2 := part_mem (ih _ h1)
    obtain ⟨i, hi⟩ := List.getElem?_of_mem h2
    have hit : i < 2 * cntP f m (r + 1) t := by
      have := (List.getElem?_eq_some_iff.1 hi).1
      rw [List.length_take] at this; omega
    rw [List.getElem?_take_of_lt hit] at hi
    have hP := cntP_le f m (r + 1) t
    have hPl := hP
    rw [pairsT_len] at hPl
    have hSl := sortT_len f (lev f m (r + 1))
    have e1 : (sortT f (lev f m (r + 1)))[2 * (i / 2)]? = some ((sortT f (lev f m (r + 1)))[2 * (i / 2)]'(by omega)) := List.getElem?_eq_getElem _
    have e2 : (sortT f (lev f m (r + 1)))[2 * (i / 2) + 1]? = some ((sortT f (lev f m (r + 1)))[2 * (i / 2) + 1]'(by omega)) := List.getElem?_eq_getElem _
    have e3 := consec_get _ (i / 2) _ _ e1 e2
    obtain ⟨x, hx⟩ : ∃ x, x = (sortT f (lev f m (r + 1)))[2 * (i / 2)]'(by omega) := ⟨_, rfl⟩
    obtain ⟨y, hy⟩ : ∃ y, y = (sortT f (lev f m (r + 1)))[2 * (i / 2) + 1]'(by omega) := ⟨_, rfl⟩
    rw [← hx] at e1 e3
    rw [← hy] at e2 e3
    have hxm := lev_pos hf (r + 1) x ((sortT_perm f _).subset (List.mem_of_getElem? e1))
    have hym := lev_pos hf (r + 1) y ((sortT_perm f _).subset (List.mem_of_getElem? e2))
    have hQ : Tr.node x y ∈ (pairsT f (lev f m (r + 1))).take (cntP f m (r + 1) t) := by
      refine List.mem_of_getElem? (i := i / 2) ?_
      rw [List.getElem?_take_of_lt (by omega)]
      unfold pairsT
      rw [List.getElem?_map, e3]; rfl
    refine lighter hk (part_pair hQ) ?_
    simp only [Tr.wt]
    rcases (show i = 2 * (i / 2) ∨ i = 2 * (i / 2) + 1 by omega) with e | e
    · rw [e, e1] at hi
      simp only [Option.some.injEq] at hi
      subst hi
      simp only [Tr.wt]
      simp only [Tr.wt] at hxm; omega
    · rw [e, e2] at hi
      simp only [Option.some.injEq] at hi
      subst hi
      simp only [Tr.wt]
      simp only [Tr.wt] at hym; omega

/-- What the lengths take: each item the same. -/
theorem kraft {f : Nat → Int} {m : Nat} (hf : ∀ k, k < m → 0 < f k) : ∀ r t, t ≤ (lev f m r).length → sumK m (fun k => 2 ^ r - 2 ^ (r - (uS f m r t k).toNat)) * 2 = t * 2 ^ r := by
  intro r
  induction r with
  | zero =>
    intro t h
    simp [lev] at h
    subst h
    have : sumK m (fun k => 2 ^ 0 - 2 ^ (0 - (uS f m 0 0 k).toNat)) = sumK m (fun _ => 0) := sumK_congr (fun k _ => by simp)
    rw [this, sumK_const]; simp
  | succ r ih =>
    intro t h
    have hpa := cnt_sum f m r t h
    have hP := cntP_le f m r t
    rw [pairsT_len] at hP
    have h1 := ih (2 * cntP f m r t) (by omega)
    have h2 : sumK m (fun k => 2 ^ (r + 1) - 2 ^ (r + 1 - (uS f m (r + 1) t k).toNat)) = sumK m (fun k => 2 ^ r * eA f m (cntA f m r t) k + (2 ^ r - 2 ^ (r - (uS f m r (2 * cntP f m r t) k).toNat))) := by
      refine sumK_congr (fun k hk => ?_)
      have hb := eA_bd f m (cntA f m r t) k
      have hu := uS_bd f m r (2 * cntP f m r t) k
      have ht := at_top hf hk r t
      rw [uS_succ] at ht ⊢
      generalize uS f m r (2 * cntP f m r t) k = u at *
      rcases (show eA f m (cntA f m r t) k = 0 ∨ eA f m (cntA f m r t) k = 1 by omega) with e | e
      · rw [e] at ht ⊢
        have : u = 0 := by omega
        subst this
        simp
      · rw [e, show r + 1 - (u + 1).toNat = r - u.toNat from by omega, Int.pow_succ]
        omega
    rw [h2, sumK_add, sumK_mul, eA_sum f m _ (cntA_le f m r t)]
    have h3 : ((t : Nat) : Int) = cntP f m r t + cntA f m r t := by omega
    rw [h3, Int.pow_succ]
    generalize sumK m (fun k => 2 ^ r - 2 ^ (r - (uS f m r (2 * cntP f m r t) k).toNat)) = D at *
    generalize (2 : Int) ^ r = w at *
    rw [Int.natCast_mul] at h1
    have h4 : D = cntP f m r t * w := by
      have : D * 2 = (cntP f m r t * w) * 2 := by rw [h1]; rw [Int.mul_assoc, Int.mul_comm]; rfl
      omega
    rw [h4]
    rw [← Int.mul_assoc ((cntP f m r t : Int) + _) w 2, Int.add_mul (cntP f m r t : Int) _ w, Int.mul_comm w]
    omega
end Go.Proofs.Ytnhinhcgdchdkaa
