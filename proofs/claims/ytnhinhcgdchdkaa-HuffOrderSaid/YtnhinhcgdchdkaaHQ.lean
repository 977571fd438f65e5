/- The lengths of frequencies, as the laws want them; the example of all laws. -/
import Derived.Test.YtnhinhcgdchdkaaHP
import Derived.Test.YtnhinhcgdchdkaaHM
set_option linter.unusedSimpArgs false
set_option linter.unusedVariables false
namespace Go.Proofs.Ytnhinhcgdchdkaa
open Go Go.Proofs Go.RowKit

section
variable {l : List Int} {lim : Nat}
theorem wt_pos {k : Nat} (h : k < (usedL l).length) : 0 < wtOf l k := by rw [wtOf_eq h]; exact (usedL_get h).2.2
theorem cntOf_eq (k : Nat) : cntOf l lim k = uS (wtOf l) (usedL l).length lim (2 * (usedL l).length - 2) k := rfl
theorem lev_room (h2 : 2 ≤ (usedL l).length) (hm : (usedL l).length ≤ 2 ^ lim) (h1 : 1 ≤ lim) : 2 * (usedL l).length - 2 ≤ (lev (wtOf l) (usedL l).length lim).length := by
  obtain ⟨r, rfl⟩ : ∃ r, lim = r + 1 := ⟨lim - 1, by omega⟩
  have := lev_len_ge (wtOf l) (usedL l).length r 1 hm
  omega
theorem lens_bd (k : Nat) : 0 ≤ cntOf l lim k ∧ cntOf l lim k ≤ lim := uS_bd _ _ _ _ _
theorem lens_kraft (h2 : 2 ≤ (usedL l).length) (hm : (usedL l).length ≤ 2 ^ lim) (h1 : 1 ≤ lim) : sumK (usedL l).length (fun k => 2 ^ (lim - (cntOf l lim k).toNat)) = 2 ^ lim := by
  have h := kraft (fun k hk => wt_pos (l := l) hk) lim _ (lev_room h2 hm h1)
  have e : sumK (usedL l).length (fun k => 2 ^ lim - 2 ^ (lim - (uS (wtOf l) (usedL l).length lim (2 * (usedL l).length - 2) k).toNat)) + sumK (usedL l).length (fun k => 2 ^ (lim - (cntOf l lim k).toNat)) = (usedL l).length * 2 ^ lim := by
    rw [← sumK_add, ← sumK_const]
    refine sumK_congr (fun k _ => ?_)
    rw [cntOf_eq]; omega
  generalize sumK (usedL l).length (fun k => 2 ^ (lim - (cntOf l lim k).toNat)) = K at *
  generalize sumK (usedL l).length (fun k => 2 ^ lim - 2 ^ (lim - (uS (wtOf l) (usedL l).length lim (2 * (usedL l).length - 2) k).toNat)) = D at *
  generalize (usedL l).length = m at *
  generalize (2 : Int) ^ lim = w at *
  have e2 : ((2 * m - 2 : Nat) : Int) = 2 * ((m : Int) - 1) := by omega
  rw [e2, Int.mul_assoc, Int.sub_mul] at h
  omega
theorem pow_pos' (k : Nat) : (1 : Int) ≤ 2 ^ k := by
  have h := Nat.one_le_two_pow (n := k)
  have e : ((2 : Int) ^ k) = ((2 ^ k : Nat) : Int) := by simp
  omega
theorem sumK_two {m : Nat} {h : Nat → Int} (hp : ∀ k, k < m → 1 ≤ h k) {k : Nat} (hk : k < m) : h k + (m - 1) ≤ sumK m h := by
  induction m with
  | zero => omega
  | succ m ih =>
    rw [sumK_succ]
    by_cases e : k = m
    · subst e
      have h1 : sumK k (fun _ => 1) ≤ sumK k h := sumK_le (fun j hj => hp j (by omega))
      rw [sumK_const] at h1; omega
    · have h1 := ih (fun j hj => hp j (by omega)) (by omega)
      have h2 := hp m (by omega)
      omega
theorem lens_one (h2 : 2 ≤ (usedL l).length) (hm : (usedL l).length ≤ 2 ^ lim) (h1 : 1 ≤ lim) {k : Nat} (hk : k < (usedL l).length) : 1 ≤ cntOf l lim k := by
  have h3 := lens_kraft h2 hm h1
  have h4 := sumK_two (h := fun k => 2 ^ (lim - (cntOf l lim k).toNat)) (fun j _ => pow_pos' _) hk
  have h5 := (lens_bd (l := l) (lim := lim) k).1
  rcases (show cntOf l lim k = 0 ∨ 1 ≤ cntOf l lim k by omega) with e | e
  · rw [h3, e] at h4
    simp at h4
    omega
  · exact e
theorem lens_cost (h2 : 2 ≤ (usedL l).length) : sumT (Tr.wt (wtOf l)) (taken l lim) = sumK (usedL l).length (fun k => wtOf l k * cntOf l lim k) :=
  sumT_wt (wtOf l) (fun t ht => lev_below _ _ _ t ((sortT_perm _ _).subset (List.mem_of_mem_take ht)))
theorem lens_order {i k : Nat} (hk : k < (usedL l).length) (hlt : wtOf l k < wtOf l i) : cntOf l lim i ≤ cntOf l lim k := uS_order hk hlt _ _
theorem lens_best (hok : ∀ x ∈ l, okF x) (h2 : 2 ≤ (usedL l).length) (d : Nat → Nat) (hd : ∀ k, k < (usedL l).length → d k ≤ lim) (hk : sumK (usedL l).length (fun k => 2 ^ (lim - d k)) = 2 ^ lim) :
    sumK (usedL l).length (fun k => wtOf l k * cntOf l lim k) ≤ sumK (usedL l).length (fun k => wtOf l k * d k) := by
  rw [← lens_cost h2]
  refine (least (wtOf_bd hok).1 (usedL l).length lim d (2 * (usedL l).length - 2) hd ?_).2
  have e : sumK (usedL l).length (fun k => 2 ^ lim - 2 ^ (lim - d k)) + sumK (usedL l).length (fun k => 2 ^ (lim - d k)) = (usedL l).length * 2 ^ lim := by
    rw [← sumK_add, ← sumK_const]
    exact sumK_congr (fun k _ => by omega)
  rw [hk] at e
  generalize sumK (usedL l).length (fun k => 2 ^ lim - 2 ^ (lim - d k)) = D at *
  generalize (usedL l).length = m at *
  generalize (2 : Int) ^ lim = w at *
  have e2 : ((2 * m - 2 : Nat) : Int) = 2 * ((m : Int) - 1) := by omega
  rw [e2, Int.mul_assoc, Int.sub_mul]
  omega
end

theorem ex_used : usedL [1, 1, 2, 4] = [0, 1, 2, 3] := by decide
theorem ex_lens : lensOf [1, 1, 2, 4] 2 = [2, 2, 2, 2] := by
  have hm : (usedL [1, 1, 2, 4]).length = 4 := by rw [ex_used]; rfl
  have hk := lens_kraft (l := [1, 1, 2, 4]) (lim := 2) (by omega) (by rw [hm]; decide) (by omega)
  have h2 : ∀ k, k < 4 → cntOf [1, 1, 2, 4] 2 k = 2 := fun k hk4 => by
    have h4 := sumK_two (m := (usedL [1, 1, 2, 4]).length) (h := fun k => 2 ^ (2 - (cntOf [1, 1, 2, 4] 2 k).toNat)) (fun j _ => pow_pos' _) (k := k) (by omega)
    rw [hk, hm] at h4
    have h5 := lens_bd (l := [1, 1, 2, 4]) (lim := 2) k
    rcases (show cntOf [1, 1, 2, 4] 2 k = 0 ∨ cntOf [1, 1, 2, 4] 2 k = 1 ∨ cntOf [1, 1, 2, 4] 2 k = 2 by omega) with e | e | e
    · rw [e] at h4; simp at h4
    · rw [e] at h4; simp at h4
    · exact e
  unfold lensOf
  rw [outOf_congr (c' := fun _ => 2) (fun k hk => h2 k (by omega))]
  decide
theorem ex_codes : codesOf [2, 1, 3, 3] = [1, 0, 3, 7] := by decide
theorem ex_whole : Whole [2, 1, 3, 3] := by decide
theorem ex_okL : okL [2, 1, 3, 3] := ⟨by decide, by decide⟩

set_option maxRecDepth 100000 in
set_option maxHeartbeats 1000000 in
theorem codes_any (w : World) : Calls Try.prog 16 #[] w fun e w' => e = .returned (.bool true) ∧ Kp (fun _ => False) w w' := by
  go_enter Try.func16, Try.ntmps16
  go_wp2_with fail
  refine (Codes_any _ (some ⟨w.heap.size, 0, none⟩) 4 4 [2, 1, 3, 3] (Rd.lit (n := 4) (alloc_new w _) rfl (by omega)) (by decide)).mono ?_
  rintro e w1 (⟨h, _⟩ | ⟨_, h, _⟩ | ⟨_, _, A, n, c, rfl, ho1, hk1, hb1⟩)
  · exact absurd ex_okL h
  · exact absurd ex_whole h
  rw [ex_codes] at ho1
  have HO1 := Lib.hid ho1
  have HK1 : Hid (Kp (fun _ => False) w w1) := Lib.hid (((Kp.refl (fun _ => False) w).alloc _).trans' hk1)
  clear ho1 hk1 hb1
  go_wp2_with fail
  refine (Lengths_any _ (some ⟨w1.heap.size, 0, none⟩) 4 4 [1, 1, 2, 4] 2 (Rd.lit (n := 4) (alloc_new w1 _) rfl (by omega)) (by omega) (by omega) (by decide)).mono ?_
  rintro e w2 (⟨h, _⟩ | ⟨_, h, _⟩ | ⟨_, _, B, n2, c2, rfl, ho2, hk2, hb2⟩)
  · rw [ex_used] at h; simp at h
  · rw [ex_used] at h; simp at h
  rw [ex_lens] at ho2
  have hn : 4 = n := by
    obtain ⟨_, _, _, he, h1, _⟩ := HO1.out.len
    simp only [Value.slice.injEq] at he
    obtain ⟨_, rfl, _⟩ := he
    simpa using h1
  have hn2 : 4 = n2 := by
    obtain ⟨_, _, _, he, h1, _⟩ := ho2.len
    simp only [Value.slice.injEq] at he
    obtain ⟨_, rfl, _⟩ := he
    simpa using h1
  subst hn hn2
  obtain ⟨g1, o1, hA⟩ := HO1.out.isSome (by omega)
  obtain ⟨g2, o2, hB⟩ := ho2.isSome (by omega)
  subst hA hB
  have hk3 := ((Kp.refl (fun _ => False) w1).alloc _).trans' hk2
  have ho1 := HO1.out.kpF hk3
  have a0 : w2.cell? ⟨g1, o1, none⟩ = some (.int .u16 1) := ho1.cellAt (j := 0) rfl
  have a1 : w2.cell? ⟨g1, o1 + 1, none⟩ = some (.int .u16 0) := ho1.cellAt (j := 1) rfl
  have a2 : w2.cell? ⟨g1, o1 + 2, none⟩ = some (.int .u16 3) := ho1.cellAt (j := 2) rfl
  have a3 : w2.cell? ⟨g1, o1 + 3, none⟩ = some (.int .u16 7) := ho1.cellAt (j := 3) rfl
  have b0 : w2.cell? ⟨g2, o2, none⟩ = some (.int .u8 2) := ho2.cellAt (j := 0) rfl
  have b3 : w2.cell? ⟨g2, o2 + 3, none⟩ = some (.int .u8 2) := ho2.cellAt (j := 3) rfl
  have HK := Lib.hid (HK1.out.trans' hk3)
  clear ho1 ho2 hk2 hk3 hb2 HO1 HK1
  go_wp2_with fail
  go_ret
  exact ⟨rfl, HK.out⟩
end Go.Proofs.Ytnhinhcgdchdkaa
