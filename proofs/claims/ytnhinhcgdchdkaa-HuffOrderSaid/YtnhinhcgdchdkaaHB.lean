/- The queue's methods: Less, Swap, Pop. -/
import Derived.Test.YtnhinhcgdchdkaaHA
import Derived.Test.YtnhinhcgdchdkaaProg
import Derived.IntWalk
set_option linter.unusedSimpArgs false
set_option linter.unusedVariables false
namespace Go.Proofs.Ytnhinhcgdchdkaa
open Go Go.Proofs Go.RowKit

theorem item_at {w : World} {g off n c : Nat} {l : List It} {i : Nat} {x : It} (h : Rd w 3 (.slice (some ⟨g, off, none⟩) n c) (ics l)) (hi : l[i]? = some x) :
    w.cell? ⟨g, off + i * 3, none⟩ = some (.int .i64 x.wt) ∧ w.cell? ⟨g, off + i * 3 + 1, none⟩ = some (.int .i64 x.no) ∧ w.cell? ⟨g, off + i * 3 + 2, none⟩ = some (.slice x.uA x.un x.uc) := by
  obtain ⟨A, n', c', he, _, _, _, h4⟩ := h
  simp only [Value.slice.injEq] at he
  obtain ⟨rfl, rfl, rfl⟩ := he
  have at' : ∀ j u, x.cells[j]? = some u → j < 3 → w.cell? ⟨g, off + i * 3 + j, none⟩ = some u := fun j u hu hj => by
    have h1 := ics_get hi j hj
    rw [hu] at h1
    obtain ⟨g', o', he, hc⟩ := h4 _ _ h1
    simp only [Option.some.injEq, Addr.mk.injEq, and_true] at he
    obtain ⟨rfl, rfl⟩ := he
    rwa [← Nat.add_assoc] at hc
  exact ⟨at' 0 _ rfl (by omega), at' 1 _ rfl (by omega), at' 2 _ rfl (by omega)⟩

theorem items_n {w : World} {A : Option Addr} {n c : Nat} {l : List It} (h : Rd w 3 (.slice A n c) (ics l)) : l.length = n ∧ n ≤ c ∧ c ≤ 9223372036854775807 := by
  obtain ⟨A', n', c', he, h1, h2, h3, _⟩ := h
  simp only [Value.slice.injEq] at he
  obtain ⟨rfl, rfl, rfl⟩ := he
  rw [ics_len] at h1
  exact ⟨by omega, h2, h3⟩

set_option maxHeartbeats 1000000 in
theorem Less_lt (w : World) (g off n c i k : Nat) (l : List It) (x y : It) (hr : Rd w 3 (.slice (some ⟨g, off, none⟩) n c) (ics l)) (hi : l[i]? = some x) (hk : l[k]? = some y) (h : x.wt < y.wt) :
    Calls Try.prog 137 #[.slice (some ⟨g, off, none⟩) n c, .int .i64 i, .int .i64 k] w fun e w' => e = .returned (.bool true) ∧ Kp (fun _ => False) w w' := by
  obtain ⟨a0, a1, _⟩ := item_at hr hi
  obtain ⟨b0, b1, _⟩ := item_at hr hk
  obtain ⟨hn, hnc, hc⟩ := items_n hr
  have hin : i < n := by have := (List.getElem?_eq_some_iff.1 hi).1; omega
  have hkn : k < n := by have := (List.getElem?_eq_some_iff.1 hk).1; omega
  have hd : decide (x.wt < y.wt) = true := by simpa using h
  clear hr hi hk h hn
  go_enter Try.func137, Try.ntmps137
  go_wp2
  go_quiet (fail)
  go_wp2
  go_ret
  exact ⟨rfl, (Kp.refl _ _).drewN _⟩

set_option maxHeartbeats 1000000 in
theorem Less_eq (w : World) (g off n c i k : Nat) (l : List It) (x y : It) (hr : Rd w 3 (.slice (some ⟨g, off, none⟩) n c) (ics l)) (hi : l[i]? = some x) (hk : l[k]? = some y) (h : x.wt = y.wt) :
    Calls Try.prog 137 #[.slice (some ⟨g, off, none⟩) n c, .int .i64 i, .int .i64 k] w fun e w' => e = .returned (.bool (decide (x.no < y.no))) ∧ Kp (fun _ => False) w w' := by
  obtain ⟨a0, a1, _⟩ := item_at hr hi
  obtain ⟨b0, b1, _⟩ := item_at hr hk
  obtain ⟨hn, hnc, hc⟩ := items_n hr
  have hin : i < n := by have := (List.getElem?_eq_some_iff.1 hi).1; omega
  have hkn : k < n := by have := (List.getElem?_eq_some_iff.1 hk).1; omega
  rw [h] at a0
  have hd : decide (y.wt < y.wt) = false := by simp
  have hq : (y.wt == y.wt) = true := by simp
  clear hr hi hk h hn
  go_enter Try.func137, Try.ntmps137
  go_wp2
  go_quiet (fail)
  go_wp2
  go_ret
  exact ⟨rfl, (Kp.refl _ _).drewN _⟩

set_option maxHeartbeats 1000000 in
theorem Less_gt (w : World) (g off n c i k : Nat) (l : List It) (x y : It) (hr : Rd w 3 (.slice (some ⟨g, off, none⟩) n c) (ics l)) (hi : l[i]? = some x) (hk : l[k]? = some y) (h : y.wt < x.wt) :
    Calls Try.prog 137 #[.slice (some ⟨g, off, none⟩) n c, .int .i64 i, .int .i64 k] w fun e w' => e = .returned (.bool false) ∧ Kp (fun _ => False) w w' := by
  obtain ⟨a0, a1, _⟩ := item_at hr hi
  obtain ⟨b0, b1, _⟩ := item_at hr hk
  obtain ⟨hn, hnc, hc⟩ := items_n hr
  have hin : i < n := by have := (List.getElem?_eq_some_iff.1 hi).1; omega
  have hkn : k < n := by have := (List.getElem?_eq_some_iff.1 hk).1; omega
  have hd : decide (x.wt < y.wt) = false := by simp; omega
  have hq : (x.wt == y.wt) = false := by simp; omega
  clear hr hi hk h hn
  go_enter Try.func137, Try.ntmps137
  go_wp2
  go_quiet (fail)
  go_wp2
  go_ret
  exact ⟨rfl, (Kp.refl _ _).drewN _⟩

theorem Less_any (w : World) (g off n c i k : Nat) (l : List It) (x y : It) (hr : Rd w 3 (.slice (some ⟨g, off, none⟩) n c) (ics l)) (hi : l[i]? = some x) (hk : l[k]? = some y) :
    Calls Try.prog 137 #[.slice (some ⟨g, off, none⟩) n c, .int .i64 i, .int .i64 k] w fun e w' => e = .returned (.bool (decide (It.lt x y))) ∧ Kp (fun _ => False) w w' := by
  rcases Int.lt_trichotomy x.wt y.wt with h | h | h
  · rw [show decide (It.lt x y) = true from decide_eq_true (Or.inl h)]
    exact Less_lt w g off n c i k l x y hr hi hk h
  · rw [show decide (It.lt x y) = decide (x.no < y.no) from decide_eq_decide.2 (by unfold It.lt; omega)]
    exact Less_eq w g off n c i k l x y hr hi hk h
  · rw [show decide (It.lt x y) = false from decide_eq_false (by unfold It.lt; omega)]
    exact Less_gt w g off n c i k l x y hr hi hk h

theorem items_cells {l : List It} : (ics l).length = l.length * 3 := ics_len l

theorem Own.drew {w : World} {e : TypeId} {size : Nat} {v : Value} {xs : List Value} (h : Own w e size v xs) : Own w.drew e size v xs := h.kp ((Kp.refl (fun _ => False) w).drew) (fun _ _ _ x => x)

theorem Own.storeIt {w : World} {g off n c i : Nat} {l : List It} (h : Own w 85 3 (.slice (some ⟨g, off, none⟩) n c) (ics l)) (hi : i < l.length) (x : It) :
    Own (((w.setCell ⟨g, off + i * 3, none⟩ (.int .i64 x.wt)).setCell ⟨g, off + i * 3 + 1, none⟩ (.int .i64 x.no)).setCell ⟨g, off + i * 3 + 2, none⟩ (.slice x.uA x.un x.uc)) 85 3 (.slice (some ⟨g, off, none⟩) n c) (ics (l.set i x)) := by
  have h1 := ((h.store (i * 3) (.int .i64 x.wt)).store (i * 3 + 1) (.int .i64 x.no)).store (i * 3 + 2) x.us
  rw [ics_set hi] at h1
  exact h1

set_option maxHeartbeats 1000000 in
theorem Swap_any (w : World) (g off n c i k : Nat) (l : List It) (x y : It) (ho : Own w 85 3 (.slice (some ⟨g, off, none⟩) n c) (ics l)) (hi : l[i]? = some x) (hk : l[k]? = some y) :
    Calls Try.prog 138 #[.slice (some ⟨g, off, none⟩) n c, .int .i64 i, .int .i64 k] w fun e w' => e = .returned (.tuple #[]) ∧ Own w' 85 3 (.slice (some ⟨g, off, none⟩) n c) (ics (swp l i k x y)) ∧ Kp (fun b => b = g) w w' := by
  obtain ⟨a0, a1, a2⟩ := item_at ho.rd hi
  obtain ⟨b0, b1, b2⟩ := item_at ho.rd hk
  obtain ⟨hn, hnc, hc⟩ := items_n ho.rd
  have hil : i < l.length := (List.getElem?_eq_some_iff.1 hi).1
  have hkl : k < l.length := (List.getElem?_eq_some_iff.1 hk).1
  have hin : i < n := by omega
  have hkn : k < n := by omega
  have hf := fun o => ho.frozenAt o
  have HE : Hid (Own (((((((w.setCell ⟨g, off + i * 3, none⟩ (.int .i64 y.wt)).setCell ⟨g, off + i * 3 + 1, none⟩ (.int .i64 y.no)).setCell ⟨g, off + i * 3 + 2, none⟩ (.slice y.uA y.un y.uc)).setCell ⟨g, off + k * 3, none⟩ (.int .i64 x.wt)).setCell ⟨g, off + k * 3 + 1, none⟩ (.int .i64 x.no)).setCell ⟨g, off + k * 3 + 2, none⟩ (.slice x.uA x.un x.uc)).drew) 85 3 (.slice (some ⟨g, off, none⟩) n c) (ics (swp l i k x y))) :=
    Lib.hid (((ho.storeIt hil y).storeIt (i := k) (by simpa using hkl) x).drew)
  have HF : Hid (Kp (fun b => b = g) w (((((((w.setCell ⟨g, off + i * 3, none⟩ (.int .i64 y.wt)).setCell ⟨g, off + i * 3 + 1, none⟩ (.int .i64 y.no)).setCell ⟨g, off + i * 3 + 2, none⟩ (.slice y.uA y.un y.uc)).setCell ⟨g, off + k * 3, none⟩ (.int .i64 x.wt)).setCell ⟨g, off + k * 3 + 1, none⟩ (.int .i64 x.no)).setCell ⟨g, off + k * 3 + 2, none⟩ (.slice x.uA x.un x.uc)).drew)) :=
    Lib.hid ((((((((Kp.refl (fun b => b = g) w).setCell _ _ (fun _ => rfl)).setCell _ _ (fun _ => rfl)).setCell _ _ (fun _ => rfl)).setCell _ _ (fun _ => rfl)).setCell _ _ (fun _ => rfl)).setCell _ _ (fun _ => rfl)).drew)
  by_cases e : i = k
  · subst e
    have exy : x = y := by rw [hi] at hk; simpa using hk
    subst exy
    clear ho hi hk hn hil hkl
    go_enter Try.func138, Try.ntmps138
    go_wp2
    go_region
    all_goals (go_end0; exact ⟨rfl, HE.out, HF.out⟩)
  · clear ho hi hk hn hil hkl
    rcases Nat.lt_or_gt_of_ne e with h | h
    · go_enter Try.func138, Try.ntmps138
      go_wp2
      go_region
      all_goals (go_end0; exact ⟨rfl, HE.out, HF.out⟩)
    · go_enter Try.func138, Try.ntmps138
      go_wp2
      go_region
      all_goals (go_end0; exact ⟨rfl, HE.out, HF.out⟩)

theorem Try.info85 : (Try.prog.info? 85).map (fun i => (i.zero, i.size, i.bytes)) = some (some (.agg #[.int .i64 0, .int .i64 0, .slice none 0 0]), 3, 40) := by kernel_rfl

theorem Own.init {w : World} {g off n c : Nat} {l m : List It} {x : It} (h : Own w 85 3 (.slice (some ⟨g, off, none⟩) n c) (ics l)) (hl : l = m ++ [x]) (hn : l.length = n) : Own w 85 3 (.slice (some ⟨g, off, none⟩) (n - 1) c) (ics m) := by
  obtain ⟨cur, h0, h1, h2, h3, h4, h5⟩ := h.open
  subst hl
  simp at hn
  refine .inr ⟨g, off, n - 1, c, cur, rfl, h0, by omega, h2, h3, by rw [ics_len]; congr 1; omega, fun j u hj => h5 j u ?_⟩
  rw [ics_app, List.getElem?_append_left (List.getElem?_eq_some_iff.1 hj).1]
  exact hj

set_option maxHeartbeats 1000000 in
/-- 'Pop' takes the last one. -/
theorem qPop (w : World) (b g off n c : Nat) (l m : List It) (x : It) (hb : w.heap[b]? = some (.cells #[.slice (some ⟨g, off, none⟩) n c] 87 (0, 0))) (ho : Own w 85 3 (.slice (some ⟨g, off, none⟩) n c) (ics l)) (hl : l = m ++ [x]) :
    Calls Try.prog 139 #[.pointer (some ⟨b, 0, none⟩)] w fun e w' => e = .returned (.iface 85 (.agg #[.int .i64 x.wt, .int .i64 x.no, .slice x.uA x.un x.uc])) ∧
      w'.heap[b]? = some (.cells #[.slice (some ⟨g, off, none⟩) (n - 1) c] 87 (0, 0)) ∧ Own w' 85 3 (.slice (some ⟨g, off, none⟩) (n - 1) c) (ics m) ∧ Kp (fun k => k = b) w w' := by
  obtain ⟨hn, hnc, hc⟩ := items_n ho.rd
  have hn0 : 1 ≤ n := by rw [← hn, hl]; simp
  have hi : l[n - 1]? = some x := by rw [hl] at hn ⊢; simp at hn; rw [List.getElem?_append_right (by omega), show n - 1 - m.length = 0 from by omega]; rfl
  obtain ⟨a0, a1, a2⟩ := item_at ho.rd hi
  have hgb : g ≠ b := by
    rintro rfl
    obtain ⟨cur, h0, _⟩ := ho.open
    rw [hb] at h0; simp at h0
  have c0 : w.cell? ⟨b, 0, none⟩ = some (.slice (some ⟨g, off, none⟩) n c) := (cell_blk hb 0).trans rfl
  have f0 : w.frozen? ⟨b, 0, none⟩ = false := frozen_blk hb 0
  have HO := Lib.hid (ho.init hl hn)
  have HB := Lib.hid hb
  have hlt := lt_of_blk hb
  clear ho hi hn hb hl
  obtain ⟨n', rfl⟩ : ∃ n', n = n' + 1 := ⟨n - 1, by omega⟩
  rw [Nat.add_sub_cancel] at *
  go_enter Try.func139, Try.ntmps139
  go_wp2
  go_ret
  refine ⟨rfl, alloc_oth (setCell_blk HB.out 0 _) _, HO.out.kp (((Kp.refl (fun k => k = b) w).setCell ⟨b, 0, none⟩ _ (fun _ => rfl)).alloc _) (fun k hk _ e => ?_), ((Kp.refl (fun k => k = b) w).setCell ⟨b, 0, none⟩ _ (fun _ => rfl)).alloc _⟩
  simp only [Value.ownBlock, Option.some.injEq] at hk
  omega
end Go.Proofs.Ytnhinhcgdchdkaa
