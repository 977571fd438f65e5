/- What Lengths answers, in one; the same of frequencies twice as great. -/
import Derived.Test.YtnhinhcgdchdkaaHQ
set_option linter.unusedSimpArgs false
set_option linter.unusedVariables false
namespace Go.Proofs.Ytnhinhcgdchdkaa
open Go Go.Proofs Go.RowKit

def badArg (l : List Int) (z : Int) : Prop := z < 1 ∨ 15 < z ∨ 320 < l.length ∨ ∃ x ∈ l, ¬ okF x
open Classical in
noncomputable def lenRes (l : List Int) (z : Int) : Int × List Int :=
  if badArg l z then (1, []) else if 2 ^ z.toNat < (usedL l).length then (60, []) else if (usedL l).length ≤ 1 then (0, outOf l fun _ => (usedL l).length) else (0, lensOf l z.toNat)

def LenTot (l : List Int) (z : Int) (w : World) (e : Ending) (w' : World) : Prop :=
  ∃ A n c, e = .returned (.tuple #[.slice A n c, .int .i64 (lenRes l z).1]) ∧ Own w' 5 1 (.slice A n c) ((lenRes l z).2.map (Value.int .u8)) ∧ Kp (fun _ => False) w w' ∧ (∀ k, (Value.slice A n c).ownBlock = some k → w.heap.size ≤ k)

theorem Lengths_tot (w : World) (A : Option Addr) (n c : Nat) (l : List Int) (z : Int) (hr : RdI w .i64 (.slice A n c) l) : Calls Try.prog 14 #[.slice A n c, .int .i64 z] w (LenTot l z w) := by
  have hl := hr.len.1
  by_cases hb : badArg l z
  · refine (Lengths_arg w A n c l z hr (by unfold badArg at hb; rw [hl] at hb; exact hb)).mono ?_
    rintro e w' ⟨rfl, hk⟩
    have he : lenRes l z = (1, []) := by unfold lenRes; rw [if_pos hb]
    exact ⟨none, 0, 0, by rw [he], by rw [he]; exact Own.nil _ _ _, hk, by simp [Value.ownBlock]⟩
  · have hb' : 1 ≤ z ∧ z ≤ 15 ∧ n ≤ 320 ∧ ∀ x ∈ l, okF x := by
      unfold badArg at hb
      refine ⟨by omega, by omega, by omega, fun x hx => Classical.byContradiction fun h => hb (.inr (.inr (.inr ⟨x, hx, h⟩)))⟩
    obtain ⟨lim, rfl⟩ : ∃ q : Nat, z = q := ⟨z.toNat, by omega⟩
    refine (Lengths_any w A n c l lim hr (by omega) hb'.2.2.1 hb'.2.2.2).mono ?_
    rintro e w' (⟨h1, rfl, hk⟩ | ⟨h1, h2, A', n', c', rfl, ho, hk, hf⟩ | ⟨h1, h2, A', n', c', rfl, ho, hk, hf⟩)
    · have he : lenRes l (lim : Int) = (60, []) := by unfold lenRes; rw [if_neg hb, Int.toNat_natCast, if_pos h1]
      exact ⟨none, 0, 0, by rw [he], by rw [he]; exact Own.nil _ _ _, hk, by simp [Value.ownBlock]⟩
    · have he : lenRes l (lim : Int) = (0, outOf l fun _ => (usedL l).length) := by unfold lenRes; rw [if_neg hb, Int.toNat_natCast, if_neg (by omega), if_pos h2]
      exact ⟨A', n', c', by rw [he], by rw [he]; exact ho, hk, hf⟩
    · have he : lenRes l (lim : Int) = (0, lensOf l lim) := by unfold lenRes; rw [if_neg hb, Int.toNat_natCast, if_neg (by omega), if_neg (by omega)]
      exact ⟨A', n', c', by rw [he], by rw [he]; exact ho, hk, hf⟩

theorem lenRes_len (l : List Int) (z : Int) : (lenRes l z).2.length = 0 ∨ (lenRes l z).2.length = l.length := by
  unfold lenRes
  split
  · simp
  split
  · simp
  split
  · simp [outOf_len]
  · right; exact outOf_len _ _
theorem outOf_mem {l : List Int} {c : Nat → Int} {B : Int} (hc : ∀ k, 0 ≤ c k ∧ c k ≤ B) (hB : 0 ≤ B) : ∀ x ∈ outOf l c, 0 ≤ x ∧ x ≤ B := by
  intro x hx
  simp only [outOf, List.mem_map] at hx
  obtain ⟨s, _, rfl⟩ := hx
  split
  · exact hc _
  · omega
theorem lenRes_bd (l : List Int) (z : Int) : ∀ x ∈ (lenRes l z).2, 0 ≤ x ∧ x ≤ 15 := by
  unfold lenRes
  split
  · simp
  rename_i hb
  split
  · simp
  split
  · rename_i h1
    exact outOf_mem (c := fun _ => ((usedL l).length : Int)) (B := 15) (fun _ => ⟨by omega, by omega⟩) (by omega)
  · refine outOf_mem (B := 15) (fun k => ?_) (by omega)
    have := lens_bd (l := l) (lim := z.toNat) k
    unfold badArg at hb
    omega
/-- Who is more frequent has no longer code. -/
theorem lenRes_order {l : List Int} {z : Int} {i k : Nat} {ri rk : Int} (hi : (lenRes l z).2[i]? = some ri) (hk : (lenRes l z).2[k]? = some rk) (hlt : l.getD k 0 < l.getD i 0) (h0 : 0 < l.getD k 0) : ri ≤ rk := by
  unfold lenRes at hi hk
  split at hi
  · simp at hi
  rename_i hb
  rw [if_neg hb] at hk
  split at hi
  · simp at hi
  rename_i hm
  rw [if_neg hm] at hk
  have hil : ∀ c : Nat → Int, (outOf l c)[i]? = some ri → i < l.length := fun c h => by have := (List.getElem?_eq_some_iff.1 h).1; rwa [outOf_len] at this
  have hkl : ∀ c : Nat → Int, (outOf l c)[k]? = some rk → k < l.length := fun c h => by have := (List.getElem?_eq_some_iff.1 h).1; rwa [outOf_len] at this
  split at hi
  · rename_i h1
    rw [if_pos h1] at hk
    simp only at hi hk
    have a1 := hil _ hi
    have a2 := hkl _ hk
    rw [outOf_get a1, if_pos (by omega)] at hi
    rw [outOf_get a2, if_pos h0] at hk
    simp at hi hk
    omega
  · rename_i h1
    rw [if_neg h1] at hk
    simp only at hi hk
    unfold lensOf at hi hk
    have a1 := hil _ hi
    have a2 := hkl _ hk
    rw [outOf_get a1, if_pos (by omega)] at hi
    rw [outOf_get a2, if_pos h0] at hk
    simp only [Option.some.injEq] at hi hk
    subst hi hk
    have m1 := List.idxOf_lt_length_iff.2 (usedL_mem.2 ⟨a1, by omega⟩ : i ∈ usedL l)
    have m2 := List.idxOf_lt_length_iff.2 (usedL_mem.2 ⟨a2, h0⟩ : k ∈ usedL l)
    refine lens_order m2 ?_
    rw [wtOf_eq m1, wtOf_eq m2, List.getElem_idxOf, List.getElem_idxOf]
    exact hlt

/-- Twice as great. -/
def two (l : List Int) : List Int := l.map (2 * ·)
theorem two_getD (l : List Int) (k : Nat) : (two l).getD k 0 = 2 * l.getD k 0 := by
  rw [List.getD_eq_getElem?_getD, List.getD_eq_getElem?_getD, two, List.getElem?_map]
  cases l[k]? <;> simp
theorem two_len (l : List Int) : (two l).length = l.length := by simp [two]
theorem two_used (l : List Int) : usedL (two l) = usedL l := by
  unfold usedL usedTo
  rw [two_len]
  refine List.filter_congr (fun k _ => ?_)
  rw [two_getD]
  exact decide_eq_decide.2 (by omega)
theorem two_wt (l : List Int) : wtOf (two l) = fun k => 2 * wtOf l k := by funext k; unfold wtOf; rw [two_used, two_getD]
theorem wt_two (f : Nat → Int) (t : Tr) : t.wt (fun k => 2 * f k) = 2 * t.wt f := by
  induction t with
  | leaf k => rfl
  | node a b ha hb => simp only [Tr.wt]; rw [ha, hb]; omega
theorem sortT_two (f : Nat → Int) (T : List Tr) : sortT (fun k => 2 * f k) T = sortT f T := by
  unfold sortT
  congr 2
  funext p q
  unfold keyLe
  rw [wt_two, wt_two]
  refine decide_eq_decide.2 ?_
  simp only
  omega
theorem lev_two (f : Nat → Int) (m r : Nat) : lev (fun k => 2 * f k) m r = lev f m r := by
  induction r with
  | zero => rfl
  | succ r ih => simp only [lev]; rw [ih]; unfold pairsT; rw [sortT_two]
theorem outOf_two (l : List Int) (c : Nat → Int) : outOf (two l) c = outOf l c := by
  unfold outOf
  rw [two_len, two_used]
  refine List.map_congr_left (fun s _ => ?_)
  rw [two_getD]
  by_cases h : 0 < l.getD s 0
  · rw [if_pos h, if_pos (by omega)]
  · rw [if_neg h, if_neg (by omega)]
theorem lensOf_two (l : List Int) (lim : Nat) : lensOf (two l) lim = lensOf l lim := by
  have h : cntOf (two l) lim = cntOf l lim := by
    funext k
    unfold cntOf taken
    rw [two_used, two_wt, lev_two, sortT_two]
  unfold lensOf
  rw [h, outOf_two]
theorem lenRes_two {l : List Int} (z : Int) (h : ∀ x ∈ l, 0 ≤ x ∧ x ≤ 549755813888) : lenRes (two l) z = lenRes l z := by
  have h1 : ∀ x ∈ l, okF x := fun x hx => by have := h x hx; unfold okF; omega
  have h2 : ∀ x ∈ two l, okF x := fun x hx => by
    simp only [two, List.mem_map] at hx
    obtain ⟨y, hy, rfl⟩ := hx
    have := h y hy
    show 0 ≤ 2 * y ∧ 2 * y ≤ 1099511627776
    omega
  have hb : badArg (two l) z ↔ badArg l z := by
    unfold badArg
    rw [two_len]
    constructor
    · rintro (h | h | h | ⟨x, hx, hn⟩)
      · exact .inl h
      · exact .inr (.inl h)
      · exact .inr (.inr (.inl h))
      · exact absurd (h2 x hx) hn
    · rintro (h | h | h | ⟨x, hx, hn⟩)
      · exact .inl h
      · exact .inr (.inl h)
      · exact .inr (.inr (.inl h))
      · exact absurd (h1 x hx) hn
  unfold lenRes
  by_cases c1 : badArg l z
  · rw [if_pos c1, if_pos (hb.2 c1)]
  · rw [if_neg c1, if_neg (fun h => c1 (hb.1 h)), two_used, lensOf_two, outOf_two]
end Go.Proofs.Ytnhinhcgdchdkaa
