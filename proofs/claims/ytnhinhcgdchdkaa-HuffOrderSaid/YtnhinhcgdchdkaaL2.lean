/- Words for memory, more of them (for the seat of huff, inflate, deflate). -/
import Derived.Test.YtnhinhcgdchdkaaL
set_option linter.unusedSimpArgs false
set_option linter.unusedVariables false
namespace Go.Proofs.Ytnhinhcgdchdkaa
open Go Go.RowKit

theorem Own.ne {w : World} {e e' : TypeId} {size size' : Nat} {v v' : Value} {xs xs' : List Value} (h : Own w e size v xs) (h' : Own w e' size' v' xs') (hne : e ≠ e') {k : Nat} (hk : v.ownBlock = some k) (hk' : v'.ownBlock = some k) : False := by
  rcases h with ⟨rfl, _⟩ | ⟨g, off, n, cap, cur, rfl, hg, _⟩
  · simp [Value.ownBlock] at hk
  rcases h' with ⟨rfl, _⟩ | ⟨g', off', n', cap', cur', rfl, hg', _⟩
  · simp [Value.ownBlock] at hk'
  simp only [Value.ownBlock, Option.some.injEq] at hk hk'
  subst hk; subst hk'
  rw [hg] at hg'
  simp only [Option.some.injEq, Obj.cells.injEq] at hg'
  exact hne hg'.2.1

theorem Own.tail {w : World} {e : TypeId} {g off n cap lo : Nat} {xs : List Value} (h : Own w e 1 (.slice (some ⟨g, off, none⟩) n cap) xs) (hlo : lo ≤ n) :
    Own w e 1 (.slice (if cap = lo then some ⟨g, off, none⟩ else some ⟨g, off + lo, none⟩) (n - lo) (cap - lo)) (xs.drop lo) := by
  obtain ⟨cur, hg, h1, h2, h3, h4, h5⟩ := h.open
  split
  · refine .inr ⟨g, off, n - lo, cap - lo, cur, rfl, hg, by omega, by omega, by omega, by simp [h4], fun j u hj => ?_⟩
    have : xs.length ≤ lo := by omega
    simp [List.drop_of_length_le this] at hj
  · refine .inr ⟨g, off + lo, n - lo, cap - lo, cur, rfl, hg, by omega, by omega, by omega, by simp [h4], fun j u hj => ?_⟩
    rw [List.getElem?_drop] at hj
    rw [Nat.add_assoc]
    exact h5 _ _ hj

theorem RdI.nil (w : World) (k : IntKind) : RdI w k (.slice none 0 0) [] := ⟨none, 0, 0, rfl, by simp, by omega, by omega, by simp⟩
theorem RdI.len {w : World} {k : IntKind} {A : Option Addr} {n c : Nat} {l : List Int} (h : RdI w k (.slice A n c) l) : l.length = n ∧ n ≤ c ∧ c ≤ 9223372036854775807 := by
  obtain ⟨A', n', c', he, h1, h2, h3, _⟩ := h
  simp only [Value.slice.injEq] at he
  obtain ⟨rfl, rfl, rfl⟩ := he
  simp at h1
  exact ⟨by omega, h2, h3⟩
theorem RdI.at {w : World} {k : IntKind} {g off n c : Nat} {l : List Int} (h : RdI w k (.slice (some ⟨g, off, none⟩) n c) l) {i : Nat} {z : Int} (hi : l[i]? = some z) : w.cell? ⟨g, off + i, none⟩ = some (.int k z) := by
  obtain ⟨A', n', c', he, h1, h2, h3, h4⟩ := h
  simp only [Value.slice.injEq] at he
  obtain ⟨rfl, rfl, rfl⟩ := he
  obtain ⟨g', off', he, hc⟩ := h4 i (.int k z) (by rw [List.getElem?_map, hi]; rfl)
  simp only [Option.some.injEq, Addr.mk.injEq, and_true] at he
  obtain ⟨rfl, rfl⟩ := he
  exact hc
theorem RdI.some {w : World} {k : IntKind} {A : Option Addr} {n c : Nat} {l : List Int} (h : RdI w k (.slice A n c) l) (hn : 0 < n) : ∃ g off, A = Option.some ⟨g, off, none⟩ := by
  obtain ⟨A', n', c', he, h1, h2, h3, h4⟩ := h
  simp only [Value.slice.injEq] at he
  obtain ⟨rfl, rfl, rfl⟩ := he
  simp at h1
  obtain ⟨g, off, hA, _⟩ := h4 0 (.int k (l[0]'(by omega))) (by rw [List.getElem?_map, List.getElem?_eq_getElem (by omega)]; rfl)
  exact ⟨g, off, hA⟩
theorem Rd.kpF {w w' : World} {size : Nat} {v : Value} {xs : List Value} (h : Rd w size v xs) (hk : Kp (fun _ => False) w w') : Rd w' size v xs := h.kp hk (fun _ _ _ x => x)
theorem Own.kpF {w w' : World} {e : TypeId} {size : Nat} {v : Value} {xs : List Value} (h : Own w e size v xs) (hk : Kp (fun _ => False) w w') : Own w' e size v xs := h.kp hk (fun _ _ _ x => x)
theorem Kp.any {S : Nat → Prop} {w w' : World} (h : Kp (fun _ => False) w w') : Kp S w w' := h.mono (fun _ _ e => e.elim)
theorem Rd.kpn {S : Nat → Prop} {w w' : World} {size : Nat} {A : Option Addr} {n c : Nat} {xs : List Value} (h : Rd w size (.slice A n c) xs) (hk : Kp S w w') (hn : 0 < n → ∀ g, (Value.slice A n c).ownBlock = some g → g < w.heap.size → ¬ S g) : Rd w' size (.slice A n c) xs := by
  by_cases h0 : 0 < n
  · exact h.kp hk (hn h0)
  · obtain ⟨A', n', c', he, h1, h2, h3, h4⟩ := h
    simp only [Value.slice.injEq] at he
    obtain ⟨rfl, rfl, rfl⟩ := he
    have : n = 0 := by omega
    subst this
    have : xs = [] := List.eq_nil_of_length_eq_zero (by simpa using h1)
    subst this
    exact ⟨A, 0, c, rfl, by simp, h2, h3, by simp⟩
theorem RdI.lt {w : World} {k : IntKind} {A : Option Addr} {n c : Nat} {l : List Int} (h : RdI w k (.slice A n c) l) (hn : 0 < n) : ∀ g, (Value.slice A n c).ownBlock = Option.some g → g < w.heap.size := by
  intro g hg
  obtain ⟨g', off, rfl⟩ := h.some hn
  have h1 := h.len.1
  have hc := h.at (i := 0) (List.getElem?_eq_getElem (by omega))
  have : g' = g := by simpa [Value.ownBlock] using hg
  subst this
  exact lt_of_cell (a := ⟨g', off + 0, none⟩) hc
end Go.Proofs.Ytnhinhcgdchdkaa
