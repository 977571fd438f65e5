/- Plain: the codes of lengths, in order. -/
import Derived.Test.YtnhinhcgdchdkaaHK
set_option linter.unusedSimpArgs false
set_option linter.unusedVariables false
namespace Go.Proofs.Ytnhinhcgdchdkaa
open Go

/-- How many of the first k symbols have n bits. -/
def cntTo (lens : List Int) (n : Nat) : Nat → Nat
  | 0 => 0
  | k + 1 => cntTo lens n k + if lens.getD k 0 = n then 1 else 0
/-- The codes of n bits among the first k symbols, from c on. -/
def scanL (lens : List Int) (n c : Nat) : Nat → List (Nat × Nat × Nat)
  | 0 => []
  | k + 1 => scanL lens n c k ++ if lens.getD k 0 = n then [(k, c + cntTo lens n k, n)] else []
/-- The code behind those of n bits. -/
def nxt (lens : List Int) : Nat → Nat
  | 0 => 0
  | n + 1 => 2 * nxt lens n + cntTo lens (n + 1) lens.length
def eachTo (lens : List Int) : Nat → List (Nat × Nat × Nat)
  | 0 => []
  | n + 1 => eachTo lens n ++ scanL lens (n + 1) (2 * nxt lens n) lens.length
def eachL (lens : List Int) : List (Nat × Nat × Nat) := eachTo lens 15

/-- What the first k lengths take of 32768. -/
def krTo (lens : List Int) : Nat → Int
  | 0 => 0
  | k + 1 => krTo lens k + if 0 < lens.getD k 0 then 2 ^ (15 - (lens.getD k 0).toNat) else 0
def posTo (lens : List Int) : Nat → Int
  | 0 => 0
  | k + 1 => posTo lens k + if 0 < lens.getD k 0 then 1 else 0
def krL (lens : List Int) : Int := krTo lens lens.length
def posL (lens : List Int) : Int := posTo lens lens.length

/-- Do they make a code? -/
def Whole (lens : List Int) : Prop := krL lens = 32768 ∨ posL lens = 0 ∨ (posL lens = 1 ∧ krL lens = 16384)
instance (lens : List Int) : Decidable (Whole lens) := inferInstanceAs (Decidable (_ ∨ _))
def okL (lens : List Int) : Prop := lens.length ≤ 320 ∧ ∀ x ∈ lens, ok15 x

theorem cntTo_le (lens : List Int) (n k : Nat) : cntTo lens n k ≤ k := by
  induction k with
  | zero => simp [cntTo]
  | succ k ih => simp only [cntTo]; split <;> omega
theorem cntTo_mono (lens : List Int) (n : Nat) {k j : Nat} (h : k ≤ j) : cntTo lens n k ≤ cntTo lens n j := by
  induction j with
  | zero => rw [show k = 0 from by omega]; exact Nat.le_refl _
  | succ j ih =>
    by_cases e : k = j + 1
    · rw [e]; exact Nat.le_refl _
    · have := ih (by omega); simp only [cntTo]; split <;> omega
theorem nxt_le (lens : List Int) (h : lens.length ≤ 320) (n : Nat) : nxt lens n + 320 ≤ 320 * 2 ^ n := by
  induction n with
  | zero => simp [nxt]
  | succ n ih =>
    have := cntTo_le lens (n + 1) lens.length
    simp only [nxt]
    rw [Nat.pow_succ]; omega
theorem pow2_le (k : Nat) (h : k ≤ 15) : (1 : Int) ≤ 2 ^ k ∧ (2 : Int) ^ k ≤ 32768 := by
  have h1 := Nat.pow_le_pow_right (n := 2) (by omega) h
  have h2 := Nat.one_le_two_pow (n := k)
  have e : ((2 : Int) ^ k) = ((2 ^ k : Nat) : Int) := by simp
  rw [e]; omega
theorem krTo_bd (lens : List Int) (k : Nat) : 0 ≤ krTo lens k ∧ krTo lens k ≤ k * 32768 := by
  induction k with
  | zero => simp [krTo]
  | succ k ih =>
    simp only [krTo]
    have := pow2_le (15 - (lens.getD k 0).toNat) (by omega)
    split <;> omega
theorem posTo_bd (lens : List Int) (k : Nat) : 0 ≤ posTo lens k ∧ posTo lens k ≤ k := by
  induction k with
  | zero => simp [posTo]
  | succ k ih =>
    simp only [posTo]
    split <;> omega
theorem scanL_eq {lens : List Int} {n c k : Nat} (h : lens.getD k 0 = n) : scanL lens n c (k + 1) = scanL lens n c k ++ [(k, c + cntTo lens n k, n)] := by simp only [scanL]; rw [if_pos h]
theorem scanL_ne {lens : List Int} {n c k : Nat} (h : ¬ lens.getD k 0 = n) : scanL lens n c (k + 1) = scanL lens n c k := by simp only [scanL]; rw [if_neg h]; simp
theorem cntTo_eq {lens : List Int} {n k : Nat} (h : lens.getD k 0 = n) : cntTo lens n (k + 1) = cntTo lens n k + 1 := by simp only [cntTo]; rw [if_pos h]
theorem cntTo_ne {lens : List Int} {n k : Nat} (h : ¬ lens.getD k 0 = n) : cntTo lens n (k + 1) = cntTo lens n k := by simp only [cntTo]; rw [if_neg h]; rfl
theorem scanL_pre (lens : List Int) (n c : Nat) {k j : Nat} (h : k ≤ j) : ∃ r, scanL lens n c j = scanL lens n c k ++ r := by
  induction j with
  | zero => rw [show k = 0 from by omega]; exact ⟨[], by simp⟩
  | succ j ih =>
    by_cases e : k = j + 1
    · rw [e]; exact ⟨[], by simp⟩
    · obtain ⟨r, hr⟩ := ih (by omega)
      simp only [scanL]
      rw [hr, List.append_assoc]
      exact ⟨_, rfl⟩
theorem eachTo_pre (lens : List Int) {k j : Nat} (h : k ≤ j) : ∃ r, eachTo lens j = eachTo lens k ++ r := by
  induction j with
  | zero => rw [show k = 0 from by omega]; exact ⟨[], by simp⟩
  | succ j ih =>
    by_cases e : k = j + 1
    · rw [e]; exact ⟨[], by simp⟩
    · obtain ⟨r, hr⟩ := ih (by omega)
      simp only [eachTo]
      rw [hr, List.append_assoc]
      exact ⟨_, rfl⟩
/-- A code that is told is one of the row. -/
theorem each_at {lens : List Int} {n k : Nat} (hn : n < 15) (hk : k < lens.length) (h : lens.getD k 0 = ((n + 1 : Nat) : Int)) :
    ∃ r, eachL lens = (eachTo lens n ++ scanL lens (n + 1) (2 * nxt lens n) k) ++ (k, 2 * nxt lens n + cntTo lens (n + 1) k, n + 1) :: r := by
  obtain ⟨r1, h1⟩ := eachTo_pre lens (k := n + 1) (j := 15) (by omega)
  obtain ⟨r2, h2⟩ := scanL_pre lens (n + 1) (2 * nxt lens n) (k := k + 1) (j := lens.length) (by omega)
  rw [scanL_eq h] at h2
  refine ⟨r2 ++ r1, ?_⟩
  unfold eachL
  rw [h1]
  simp only [eachTo]
  rw [h2]
  simp
end Go.Proofs.Ytnhinhcgdchdkaa
