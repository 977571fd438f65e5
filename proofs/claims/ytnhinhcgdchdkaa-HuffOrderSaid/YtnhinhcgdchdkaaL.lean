/- Words for memory: what is kept, rows that are read, rows that are owned and appended to. Over any program. -/
import Derived.WalkKit
import Derived.WalkSpells
import Derived.WalkSmall
import Derived.WalkLawsBesides
import Derived.RegionTactic
import Derived.ChangeAlike
import Derived.BigRegion
import Derived.Deep.QuietTactic
import Derived.BigQuiet
import Derived.StillTailTactics
import Derived.LoopTactic
import Derived.OwnWalk
import Derived.Lib.Hide
import Derived.Deep.DeepMust
import Derived.Deep.RegionWith
import Derived.Deep.RegionLaw
set_option linter.unusedSimpArgs false
set_option linter.unusedVariables false
namespace Go.Proofs.Ytnhinhcgdchdkaa
open Go Go.RowKit

/-- Behind some steps the world is as it was, but for blocks of S and new ones. -/
structure Kp (S : Nat → Prop) (w w' : World) : Prop where
  os : w'.os = w.os
  tape : w'.tape = w.tape
  output : w'.output = w.output
  size : w.heap.size ≤ w'.heap.size
  blk : ∀ b, b < w.heap.size → ¬ S b → w'.heap[b]? = w.heap[b]?

section
variable {S S' : Nat → Prop} {w w1 w2 w' : World}

theorem Kp.refl (S : Nat → Prop) (w : World) : Kp S w w := ⟨rfl, rfl, rfl, Nat.le_refl _, fun _ _ _ => rfl⟩

theorem Kp.trans (h : Kp S w w1) (k : Kp S' w1 w2) (hs : ∀ b, b < w.heap.size → S' b → S b) : Kp S w w2 :=
  ⟨k.os.trans h.os, k.tape.trans h.tape, k.output.trans h.output, Nat.le_trans h.size k.size, fun b hb hn =>
    (k.blk b (Nat.lt_of_lt_of_le hb h.size) (fun x => hn (hs b hb x))).trans (h.blk b hb hn)⟩

theorem Kp.trans' (h : Kp S w w1) (k : Kp S w1 w2) : Kp S w w2 := h.trans k fun _ _ x => x

theorem Kp.mono (h : Kp S w w1) (hs : ∀ b, b < w.heap.size → S b → S' b) : Kp S' w w1 :=
  ⟨h.os, h.tape, h.output, h.size, fun b hb hn => h.blk b hb (fun x => hn (hs b hb x))⟩

theorem Kp.drew (h : Kp S w w1) : Kp S w w1.drew := ⟨h.os, h.tape, h.output, h.size, h.blk⟩
theorem Kp.drewN (h : Kp S w w1) (n : Nat) : Kp S w (w1.drewN n) := ⟨h.os, h.tape, h.output, h.size, h.blk⟩
theorem Kp.ofDrew (h : Kp S w.drew w1) : Kp S w w1 := ⟨h.os, h.tape, h.output, h.size, h.blk⟩

theorem Kp.alloc (h : Kp S w w1) (o : Obj) : Kp S w (w1.alloc o) :=
  ⟨h.os, h.tape, h.output, by have := h.size; simp; omega, fun b hb hn => (Below.heap_alloc _ _ _ (Nat.lt_of_lt_of_le hb h.size)).trans (h.blk b hb hn)⟩

theorem Kp.setCell (h : Kp S w w1) (p : Addr) (u : Value) (hp : p.block < w.heap.size → S p.block) : Kp S w (w1.setCell p u) :=
  ⟨h.os, h.tape, h.output, by have := h.size; simp [World.setCell]; omega, fun b hb hn =>
    (Below.heap_setCell _ _ _ _ (fun e => hn (by subst e; exact hp hb))).trans (h.blk b hb hn)⟩

theorem Kp.setRow (h : Kp S w w1) (g : Nat) (cs : Array Value) (hp : g < w.heap.size → S g) : Kp S w (w1.setRow g cs) :=
  ⟨h.os, h.tape, h.output, by have := h.size; simp; omega, fun b hb hn =>
    (setRow_other w1 g b cs (fun e => hn (by subst e; exact hp hb))).trans (h.blk b hb hn)⟩

theorem Kp.ofBelow {B : Nat} (h : Below B w w1) : Kp (fun b => B ≤ b) w w1 := ⟨h.os, h.tape, h.output, h.size, fun b _ hn => h.block b (by omega)⟩
theorem Kp.below (h : Kp (fun _ => False) w w1) : Below w.heap.size w w1 := ⟨h.os, h.tape, h.output, h.size, fun b hb => h.blk b hb (fun x => x)⟩

theorem Kp.heap (h : Kp S w w1) {b : Nat} {o : Obj} (hb : w.heap[b]? = some o) (hn : ¬ S b) : w1.heap[b]? = some o :=
  (h.blk b (Array.getElem?_eq_some_iff.1 hb).1 hn).trans hb

theorem lt_of_cell {w : World} {a : Addr} {v : Value} (h : w.cell? a = some v) : a.block < w.heap.size := World.block_lt_of_cell? w a h

theorem Kp.cell (h : Kp S w w1) {a : Addr} {v : Value} (hc : w.cell? a = some v) (hn : ¬ S a.block) : w1.cell? a = some v :=
  (World.cell?_of_block (h.blk a.block (lt_of_cell hc) hn)).trans hc

theorem Kp.frozen (h : Kp S w w1) {a : Addr} (ha : a.block < w.heap.size) (hn : ¬ S a.block) : w1.frozen? a = w.frozen? a :=
  World.frozen?_of_block (h.blk a.block ha hn)
end

/-- A block of cells, known whole. -/
theorem cell_blk {w : World} {g : Nat} {cs : Array Value} {t : TypeId} {fz : Nat × Nat} (h : w.heap[g]? = some (.cells cs t fz)) (o : Nat) : w.cell? ⟨g, o, none⟩ = cs[o]? := cell_of_row w g o cs t fz h
theorem frozen_blk {w : World} {g : Nat} {cs : Array Value} {t : TypeId} (h : w.heap[g]? = some (.cells cs t (0, 0))) (o : Nat) : w.frozen? ⟨g, o, none⟩ = false := frozen_of_row w g o cs t h
theorem setCell_blk {w : World} {g : Nat} {cs : Array Value} {t : TypeId} (h : w.heap[g]? = some (.cells cs t (0, 0))) (o : Nat) (v : Value) : (w.setCell ⟨g, o, none⟩ v).heap[g]? = some (.cells (cs.setIfInBounds o v) t (0, 0)) := heap_setCell_same w g o cs t v h
theorem setCell_oth {w : World} {k : Nat} {x : Option Obj} (h : w.heap[k]? = x) (a : Addr) (v : Value) (hk : k ≠ a.block) : (w.setCell a v).heap[k]? = x := (heap_setCell_other w a k v hk).trans h
theorem alloc_oth {w : World} {k : Nat} {x : Obj} (h : w.heap[k]? = some x) (o : Obj) : (w.alloc o).heap[k]? = some x := (Below.heap_alloc w o k (Array.getElem?_eq_some_iff.1 h).1).trans h
theorem alloc_new (w : World) (o : Obj) : (w.alloc o).heap[w.heap.size]? = some o := heap_alloc_new w o
theorem lt_of_blk {w : World} {g : Nat} {o : Obj} (h : w.heap[g]? = some o) : g < w.heap.size := (Array.getElem?_eq_some_iff.1 h).1

/-- A slice that reads as a row of cells, 'size' of them an element. -/
def Rd (w : World) (size : Nat) (v : Value) (xs : List Value) : Prop :=
  ∃ A n cap, v = .slice A n cap ∧ xs.length = n * size ∧ n ≤ cap ∧ cap ≤ 9223372036854775807 ∧
    (∀ j u, xs[j]? = some u → ∃ g off, A = some ⟨g, off, none⟩ ∧ w.cell? ⟨g, off + j, none⟩ = some u)

/-- .. of whole numbers of one kind. -/
def RdI (w : World) (k : IntKind) (v : Value) (l : List Int) : Prop := Rd w 1 v (l.map (Value.int k))

theorem Rd.cong {w w' : World} {size : Nat} {v : Value} {xs : List Value} (h : Rd w size v xs)
    (hk : ∀ g off u, v.ownBlock = some g → w.cell? ⟨g, off, none⟩ = some u → w'.cell? ⟨g, off, none⟩ = some u) : Rd w' size v xs := by
  obtain ⟨A, n, cap, rfl, h1, h2, h3, h4⟩ := h
  refine ⟨A, n, cap, rfl, h1, h2, h3, fun j u hj => ?_⟩
  obtain ⟨g, off, rfl, hc⟩ := h4 j u hj
  exact ⟨g, off, rfl, hk g _ u rfl hc⟩

theorem Rd.kp {S : Nat → Prop} {w w' : World} {size : Nat} {v : Value} {xs : List Value} (h : Rd w size v xs) (hk : Kp S w w')
    (hn : ∀ g, v.ownBlock = some g → g < w.heap.size → ¬ S g) : Rd w' size v xs :=
  h.cong fun g _ _ hg hc => hk.cell hc (hn g hg (lt_of_cell (a := ⟨g, _, none⟩) hc))

/-- A slice that may be written and appended to: its row, up to the capacity, lies in an unfrozen block. -/
def Own (w : World) (e : TypeId) (size : Nat) (v : Value) (xs : List Value) : Prop :=
  (v = .slice none 0 0 ∧ xs = []) ∨
  ∃ g off n cap cur, v = .slice (some ⟨g, off, none⟩) n cap ∧ w.heap[g]? = some (.cells cur e (0, 0)) ∧ n ≤ cap ∧ cap ≤ 9223372036854775807 ∧
    off + cap * size ≤ cur.size ∧ xs.length = n * size ∧ (∀ j u, xs[j]? = some u → cur[off + j]? = some u)

theorem Own.nil (w : World) (e : TypeId) (size : Nat) : Own w e size (.slice none 0 0) [] := .inl ⟨rfl, rfl⟩

theorem Own.rd {w : World} {e : TypeId} {size : Nat} {v : Value} {xs : List Value} (h : Own w e size v xs) : Rd w size v xs := by
  rcases h with ⟨rfl, rfl⟩ | ⟨g, off, n, cap, cur, rfl, hg, h1, h2, h3, h4, h5⟩
  · exact ⟨none, 0, 0, rfl, by simp, by omega, by omega, by simp⟩
  · exact ⟨_, n, cap, rfl, h4, h1, h2, fun j u hj => ⟨g, off, rfl, by rw [cell_blk hg]; exact h5 j u hj⟩⟩

theorem Own.lt {w : World} {e : TypeId} {size : Nat} {v : Value} {xs : List Value} (h : Own w e size v xs) {k : Nat} (hk : v.ownBlock = some k) : k < w.heap.size := by
  rcases h with ⟨rfl, rfl⟩ | ⟨g, off, n, cap, cur, rfl, hg, _⟩
  · simp [Value.ownBlock] at hk
  · simp only [Value.ownBlock, Option.some.injEq] at hk; subst hk; exact lt_of_blk hg

theorem Own.kp {S : Nat → Prop} {w w' : World} {e : TypeId} {size : Nat} {v : Value} {xs : List Value} (h : Own w e size v xs) (hk : Kp S w w')
    (hn : ∀ g, v.ownBlock = some g → g < w.heap.size → ¬ S g) : Own w' e size v xs := by
  rcases h with h | ⟨g, off, n, cap, cur, rfl, hg, h⟩
  · exact .inl h
  · exact .inr ⟨g, off, n, cap, cur, rfl, hk.heap hg (hn g rfl (lt_of_blk hg)), h⟩

theorem Own.setCell {w : World} {e : TypeId} {size : Nat} {v : Value} {xs : List Value} (h : Own w e size v xs) (p : Addr) (u : Value) (hp : ∀ k, v.ownBlock = some k → k ≠ p.block) : Own (w.setCell p u) e size v xs :=
  h.kp ((Kp.refl (fun b => b = p.block) w).setCell p u (fun _ => rfl)) (fun g hg _ => hp g hg)

theorem Own.len {w : World} {e : TypeId} {size : Nat} {v : Value} {xs : List Value} (h : Own w e size v xs) : ∃ A n cap, v = .slice A n cap ∧ xs.length = n * size ∧ n ≤ cap ∧ cap ≤ 9223372036854775807 := by
  obtain ⟨A, n, cap, h1, h2, h3, h4, _⟩ := h.rd
  exact ⟨A, n, cap, h1, h2, h3, h4⟩

theorem Own.ofRow {w : World} {base : Nat} {e : TypeId} {size n : Nat} {v : Value} {xs : List Value} (h : w.ownsRow base e size v n xs) : Own w e size v xs := by
  obtain ⟨hl, ⟨rfl, rfl⟩ | ⟨g, cap, cur, rfl, _, hg, h1, h2, h3, h4⟩⟩ := h
  · exact .inl ⟨rfl, List.eq_nil_of_length_eq_zero (by simpa using hl)⟩
  · refine .inr ⟨g, 0, n, cap, cur, rfl, hg, h1, by simpa [maxLen] using h2, by omega, hl, fun j u hj => ?_⟩
    rw [← h4, List.getElem?_take] at hj
    split at hj
    · simpa using hj
    · simp at hj

section
variable {w : World} {e : TypeId} {size : Nat} {g off n cap : Nat} {xs : List Value}

theorem Own.open (h : Own w e size (.slice (some ⟨g, off, none⟩) n cap) xs) : ∃ cur, w.heap[g]? = some (.cells cur e (0, 0)) ∧ n ≤ cap ∧ cap ≤ 9223372036854775807 ∧
    off + cap * size ≤ cur.size ∧ xs.length = n * size ∧ (∀ j u, xs[j]? = some u → cur[off + j]? = some u) := by
  rcases h with ⟨h, _⟩ | ⟨g', off', n', cap', cur, h, h1⟩
  · simp at h
  · simp only [Value.slice.injEq, Option.some.injEq, Addr.mk.injEq, and_true] at h
    obtain ⟨⟨rfl, rfl⟩, rfl, rfl⟩ := h
    exact ⟨cur, h1⟩

theorem Own.isSome {A : Option Addr} (h : Own w e size (.slice A n cap) xs) (hn : 0 < n) : ∃ g off, A = some ⟨g, off, none⟩ := by
  rcases h with ⟨h, _⟩ | ⟨g, off, n', cap', cur, h, _⟩
  · simp at h; omega
  · simp only [Value.slice.injEq] at h; exact ⟨g, off, h.1⟩

theorem Own.cellAt (h : Own w e size (.slice (some ⟨g, off, none⟩) n cap) xs) {j : Nat} {u : Value} (hj : xs[j]? = some u) : w.cell? ⟨g, off + j, none⟩ = some u := by
  obtain ⟨cur, h0, h1, h2, h3, h4, h5⟩ := h.open
  rw [cell_blk h0]; exact h5 j u hj

theorem Own.frozenAt (h : Own w e size (.slice (some ⟨g, off, none⟩) n cap) xs) (j : Nat) : w.frozen? ⟨g, j, none⟩ = false := by
  obtain ⟨cur, h0, _⟩ := h.open
  exact frozen_blk h0 j

theorem Own.store (h : Own w e size (.slice (some ⟨g, off, none⟩) n cap) xs) (i : Nat) (u : Value) : Own (w.setCell ⟨g, off + i, none⟩ u) e size (.slice (some ⟨g, off, none⟩) n cap) (xs.set i u) := by
  obtain ⟨cur, h0, h1, h2, h3, h4, h5⟩ := h.open
  refine .inr ⟨g, off, n, cap, _, rfl, setCell_blk h0 _ _, h1, h2, by simpa using h3, by simpa using h4, fun j v hj => ?_⟩
  rw [List.getElem?_set] at hj
  by_cases hij : i = j
  · subst hij
    rw [if_pos rfl] at hj
    split at hj
    · rename_i hlt
      have hc : off + i < cur.size := by
        have : n * size ≤ cap * size := Nat.mul_le_mul_right _ h1
        omega
      simp only [Option.some.injEq] at hj
      subst hj
      simp [hc]
    · simp at hj
  · rw [if_neg hij] at hj
    have := h5 j v hj
    rw [Array.getElem?_setIfInBounds_ne (by omega)]
    exact this
end

section
variable {P : Program} (w : World)

/-- append to an owned slice, of the elements of another one. -/
theorem run_append_Own' (t ty e : TypeId) (i : TypeInfo) (z : Value) (size bytes : Nat) (ht : P.underlying t = some (.slice e)) (hi : P.info? e = some i) (hz : i.zero = some z)
    (hsize : i.size = size) (hby : i.bytes = bytes) (hzs : z.cells.size = size) (hsz : 0 < size)
    (v : Value) (xs : List Value) (hown : Own w e size v xs) (x : Value) (news : List Value) (hrd : Rd w size x news) (h1 : ∀ u ∈ news, u.oneCell' = true)
    (N : Nat) (hN : xs.length + news.length ≤ N * size) (h63 : N ≤ 9223372036854775807) (hbytes : N * bytes ≤ 140737488355328) :
    ∃ v' w', (Builtin.append_ #[t, t] ty #[v, x]).run P w = .ok v' w' ∧ Own w' e size v' (xs ++ news) ∧ Kp (fun b => v.ownBlock = some b) w w' ∧
      (∀ k, v'.ownBlock = some k → v.ownBlock = some k ∨ w.heap.size ≤ k) ∧ Rd w' size v xs := by
  have hrd0 := hown.rd
  subst hsize
  subst hby
  obtain ⟨A, m, c, rfl, hl, hmc, hc63, hnews⟩ := hrd
  have hbound : ∀ n, xs.length = n * i.size → n + m ≤ N := fun n hn => by
    rw [hn, hl, ← Nat.add_mul] at hN
    exact Nat.le_of_mul_le_mul_right hN hsz
  have grown : ∀ (n old : Nat), xs.length = n * i.size → old < n + m →
      Own (w.drew.alloc (.cells (xs.toArray ++ news.toArray ++ Builtin.zeroCells z.cells (grownCap w (n + m) old e - (n + m))) e)) e i.size
        (.slice (some ⟨w.heap.size, 0, none⟩) (n + m) (grownCap w (n + m) old e)) (xs ++ news) := by
    intro n old hn ho
    have hge := grownCap_ge w (n + m) old e
    have hcm : grownCap w (n + m) old e ≤ maxLen := grownCap_le_maxLen w (n + m) old e (by have := hbound n hn; simp only [maxLen]; omega)
    simp only [maxLen] at hcm
    refine .inr ⟨w.heap.size, 0, _, _, _, rfl, alloc_new w.drew _, hge, by omega, ?_, ?_, ?_⟩
    · simp only [Array.size_append, List.size_toArray, size_zeroCells, hzs, hn, hl, ← Nat.add_mul, Nat.zero_add]
      exact Nat.le_of_eq (by congr 1; omega)
    · simp only [List.length_append, hn, hl, Nat.add_mul]
    · intro j u hj
      have hjlt : j < (xs ++ news).length := (List.getElem?_eq_some_iff.1 hj).1
      rw [Nat.zero_add, Array.getElem?_append_left (by simpa using hjlt)]
      simpa using hj
  by_cases hm : m = 0
  · subst hm
    have hnil : news = [] := List.eq_nil_of_length_eq_zero (by simpa using hl)
    subst hnil
    rcases hown with ⟨rfl, rfl⟩ | ⟨g, off, n, cap, cur, rfl, hg, hnc, hcm, hfit, hxl, hx⟩
    · refine ⟨.slice none 0 0, w, ?_, .inl ⟨rfl, rfl⟩, Kp.refl _ _, by simp [Value.ownBlock], hrd0⟩
      cases A <;> simp [Builtin.append_, run_underlying ht, sizeOf, typeInfo, hi, Builtin.lenOf, Builtin.firstCells, loadCells, loadCellsFrom]
    · refine ⟨.slice (some ⟨g, off, none⟩) n cap, w, ?_, .inr ⟨g, off, n, cap, cur, rfl, hg, hnc, hcm, hfit, by simpa using hxl, by simpa using hx⟩, Kp.refl _ _, fun k hk => .inl hk, hrd0⟩
      cases A <;> simp [Builtin.append_, run_underlying ht, sizeOf, typeInfo, hi, Builtin.lenOf, Builtin.firstCells, loadCells, loadCellsFrom, hnc, storeCells]
  · have hmpos : 0 < m * i.size := Nat.mul_pos (by omega) hsz
    obtain ⟨u0, hu0⟩ : ∃ u, news[0]? = some u := ⟨news[0]'(by omega), List.getElem?_eq_getElem (by omega)⟩
    obtain ⟨ag, ao, rfl, _⟩ := hnews 0 u0 hu0
    have hnews' : ∀ j u, news[j]? = some u → w.cell? ((⟨ag, ao, none⟩ : Addr).add j) = some u := fun j u hj => by
      obtain ⟨g', o', he, hc⟩ := hnews j u hj
      simp only [Option.some.injEq, Addr.mk.injEq, and_true] at he
      obtain ⟨rfl, rfl⟩ := he
      rw [Addr.add_lit]; exact hc
    rcases hown with ⟨rfl, rfl⟩ | ⟨g, off, n, cap, cur, rfl, hg, hnc, hcm, hfit, hxl, hx⟩
    · have hb := hbound 0 (by simp)
      have hb2 : m * i.bytes ≤ N * i.bytes := Nat.mul_le_mul_right _ (by omega)
      have hr := run_append_nil (P := P) w t ty e i z ht hi hz ⟨ag, ao, none⟩ m c news hl hnews' (by omega) (by omega) (by omega)
      have hgr := grown 0 0 (by simp) (by omega)
      simp only [Nat.zero_add] at hgr
      refine ⟨_, _, hr, by simpa using hgr, (Kp.refl _ w).drew.alloc _, fun k hk => .inr ?_, hrd0.kp (((Kp.refl (fun _ => False) w).drew).alloc _) (fun _ _ _ x => x)⟩
      simp only [Value.ownBlock, Option.some.injEq] at hk; omega
    · by_cases hroom : n + m ≤ cap
      · have hfit' : off + n * i.size + 0 + news.length ≤ cur.size := by
          have : n * i.size + m * i.size ≤ cap * i.size := by rw [← Nat.add_mul]; exact Nat.mul_le_mul_right _ hroom
          omega
        have hf := run_firstCells_some (P := P) w i.size m ⟨ag, ao, none⟩ m c news hl hnews'
        have hst := run_storeCells_at P g (off + n * i.size) e news 0 cur w hg hfit' h1
        simp only [Nat.add_zero] at hst
        refine ⟨.slice (some ⟨g, off, none⟩) (n + m) cap, w.setRow g (cur.toList.take (off + n * i.size) ++ news ++ cur.toList.drop (off + n * i.size + news.length)).toArray, ?_, ?_, ?_, fun k hk => .inl hk, ?_⟩
        · simp [Builtin.append_, run_underlying ht, sizeOf, typeInfo, hi, Builtin.lenOf, hroom, hf, Addr.add_lit, hst]
        · refine .inr ⟨g, off, n + m, cap, _, rfl, setRow_heap w g cur _ e _ hg, hroom, hcm, ?_, ?_, ?_⟩
          · simp only [List.size_toArray, List.length_append, List.length_take, List.length_drop, Array.length_toList]
            omega
          · simp only [List.length_append, hxl, hl, Nat.add_mul]
          · intro j u hj
            have htl : (cur.toList.take (off + n * i.size)).length = off + n * i.size := by simp; omega
            by_cases hjx : j < n * i.size
            · rw [List.getElem?_append_left (by omega)] at hj
              have := hx j u hj
              simp only [List.getElem?_toArray, List.append_assoc]
              rw [List.getElem?_append_left (by omega), List.getElem?_take, if_pos (by omega)]
              simpa using this
            · rw [List.getElem?_append_right (by omega)] at hj
              have hjn : j - n * i.size < news.length := by
                have := (List.getElem?_eq_some_iff.1 hj).1
                omega
              simp only [List.getElem?_toArray, List.append_assoc]
              rw [List.getElem?_append_right (by omega), htl, List.getElem?_append_left (by omega)]
              rw [hxl] at hj
              rw [show off + j - (off + n * i.size) = j - n * i.size from by omega]
              exact hj
        · exact (Kp.refl _ w).setRow g _ (fun _ => rfl)
        · refine ⟨_, n, cap, rfl, hxl, hnc, hcm, fun j u hj => ⟨g, off, rfl, ?_⟩⟩
          rw [cell_blk (setRow_heap w g cur _ e _ hg)]
          have hjx : j < n * i.size := by have := (List.getElem?_eq_some_iff.1 hj).1; omega
          have htl : (cur.toList.take (off + n * i.size)).length = off + n * i.size := by simp; omega
          have := hx j u hj
          simp only [List.getElem?_toArray, List.append_assoc]
          rw [List.getElem?_append_left (by omega), List.getElem?_take, if_pos (by omega)]
          simpa using this
      · have hb := hbound n hxl
        have hb2 : (n + m) * i.bytes ≤ N * i.bytes := Nat.mul_le_mul_right _ (by omega)
        have holds : ∀ j u, xs[j]? = some u → w.cell? ((⟨g, off, none⟩ : Addr).add j) = some u := fun j u hj => by
          rw [Addr.add_lit, cell_blk hg]; exact hx j u hj
        have hr := run_append_grow (P := P) w t ty e i z ht hi hz ⟨g, off, none⟩ n cap xs hxl holds ⟨ag, ao, none⟩ m c news hl hnews' (by omega) (by omega) (growslice_fits (by omega) (by omega))
        refine ⟨_, _, hr, grown n cap hxl (by omega), (Kp.refl _ w).drew.alloc _, fun k hk => .inr ?_, hrd0.kp (((Kp.refl (fun _ => False) w).drew).alloc _) (fun _ _ _ x => x)⟩
        simp only [Value.ownBlock, Option.some.injEq] at hk; omega

theorem run_append_Own (t ty e : TypeId) (i : TypeInfo) (z : Value) (size bytes : Nat) (ht : P.underlying t = some (.slice e)) (hi : P.info? e = some i) (hz : i.zero = some z)
    (hsize : i.size = size) (hby : i.bytes = bytes) (hzs : z.cells.size = size) (hsz : 0 < size)
    (v : Value) (xs : List Value) (hown : Own w e size v xs) (x : Value) (news : List Value) (hrd : Rd w size x news) (h1 : ∀ u ∈ news, u.oneCell' = true)
    (N : Nat) (hN : xs.length + news.length ≤ N * size) (h63 : N ≤ 9223372036854775807) (hbytes : N * bytes ≤ 140737488355328) :
    ∃ v' w', (Builtin.append_ #[t, t] ty #[v, x]).run P w = .ok v' w' ∧ Own w' e size v' (xs ++ news) ∧ Kp (fun b => v.ownBlock = some b) w w' ∧
      (∀ k, v'.ownBlock = some k → v.ownBlock = some k ∨ w.heap.size ≤ k) := by
  obtain ⟨v', w', h1', h2, h3, h4, _⟩ := run_append_Own' (P := P) w t ty e i z size bytes ht hi hz hsize hby hzs hsz v xs hown x news hrd h1 N hN h63 hbytes
  exact ⟨v', w', h1', h2, h3, h4⟩

theorem wpList_append_Own {ops : Array Oper} {rest : List Oper} {o : Oper} {a : Act} {Q : Exit → Act → World → Prop} (hgd : o.guard = none) (s x : Operand) (t : TypeId)
    (ho : o.op = .call { callee := .builtin .append, args := #[s, x], argTypes := #[t, t] })
    (e : TypeId) (z : Value) (size bytes : Nat) (hinfo : (P.info? e).map (fun i => (i.zero, i.size, i.bytes)) = some (some z, size, bytes)) (ht : P.underlying t = some (.slice e)) (hzs : z.cells.size = size) (hsz : 0 < size)
    (v : Value) (xs : List Value) (hs : a.eval s = v) (hown : Own w e size v xs) (xv : Value) (news : List Value) (hx : a.eval x = xv) (hrd : Rd w size xv news) (h1 : ∀ u ∈ news, u.oneCell' = true)
    (N : Nat) (hN : xs.length + news.length ≤ N * size) (h63 : N ≤ 9223372036854775807) (hbytes : N * bytes ≤ 140737488355328)
    (h : ∀ A' n' c' w', Own w' e size (.slice A' n' c') (xs ++ news) → Kp (fun b => v.ownBlock = some b) w w' → (∀ k, (Value.slice A' n' c').ownBlock = some k → v.ownBlock = some k ∨ w.heap.size ≤ k) → wpList P ops Q rest (a.put o.dst (.slice A' n' c')) w') : wpList P ops Q (o :: rest) a w := by
  obtain ⟨i, hi, hz0, hz1, hz2⟩ := info_parts hinfo
  refine wpList_plain hgd fun _ hK => ?_
  obtain ⟨v', w', hr, h2, h3, h4⟩ := run_append_Own (P := P) w t o.type e i z size bytes ht hi hz0 hz1 hz2 hzs hsz v xs hown xv news hrd h1 N hN h63 hbytes
  unfold Oper.wp execOp
  simp only [ho, resolve, invoke, builtin, Sem.run_bind, Sem.run_pure, Result.andThen_ok, List.map_toArray, List.map_cons, List.map_nil, hs, hx, hr]
  obtain ⟨A', n', c', rfl, _⟩ := h2.len
  exact hK _ _ (h A' n' c' w' h2 h3 h4)

/-- The same; and what was appended to still reads as it did. -/
theorem wpList_append_Own' {ops : Array Oper} {rest : List Oper} {o : Oper} {a : Act} {Q : Exit → Act → World → Prop} (hgd : o.guard = none) (s x : Operand) (t : TypeId)
    (ho : o.op = .call { callee := .builtin .append, args := #[s, x], argTypes := #[t, t] })
    (e : TypeId) (z : Value) (size bytes : Nat) (hinfo : (P.info? e).map (fun i => (i.zero, i.size, i.bytes)) = some (some z, size, bytes)) (ht : P.underlying t = some (.slice e)) (hzs : z.cells.size = size) (hsz : 0 < size)
    (v : Value) (xs : List Value) (hs : a.eval s = v) (hown : Own w e size v xs) (xv : Value) (news : List Value) (hx : a.eval x = xv) (hrd : Rd w size xv news) (h1 : ∀ u ∈ news, u.oneCell' = true)
    (N : Nat) (hN : xs.length + news.length ≤ N * size) (h63 : N ≤ 9223372036854775807) (hbytes : N * bytes ≤ 140737488355328)
    (h : ∀ A' n' c' w', Own w' e size (.slice A' n' c') (xs ++ news) → Kp (fun b => v.ownBlock = some b) w w' → (∀ k, (Value.slice A' n' c').ownBlock = some k → v.ownBlock = some k ∨ w.heap.size ≤ k) → Rd w' size v xs → wpList P ops Q rest (a.put o.dst (.slice A' n' c')) w') : wpList P ops Q (o :: rest) a w := by
  obtain ⟨i, hi, hz0, hz1, hz2⟩ := info_parts hinfo
  refine wpList_plain hgd fun _ hK => ?_
  obtain ⟨v', w', hr, h2, h3, h4, h5⟩ := run_append_Own' (P := P) w t o.type e i z size bytes ht hi hz0 hz1 hz2 hzs hsz v xs hown xv news hrd h1 N hN h63 hbytes
  unfold Oper.wp execOp
  simp only [ho, resolve, invoke, builtin, Sem.run_bind, Sem.run_pure, Result.andThen_ok, List.map_toArray, List.map_cons, List.map_nil, hs, hx, hr]
  obtain ⟨A', n', c', rfl, _⟩ := h2.len
  exact hK _ _ (h A' n' c' w' h2 h3 h4 h5)

/-- 'make([]T, n)'. -/
theorem wpList_make_Own {ops : Array Oper} {rest : List Oper} {o : Oper} {a : Act} {Q : Exit → Act → World → Prop} (hg : o.guard = none) (l c : Operand) (t : TypeId) (hop : o.op = Op.makeSlice t l c)
    (e : TypeId) (z : Value) (size bytes : Nat) (hinfo : (P.info? e).map (fun i => (i.zero, i.size, i.bytes)) = some (some z, size, bytes)) (ht : P.underlying t = some (.slice e))
    (kl kc : IntKind) (L C : Int) (n : Nat) (hl : a.eval l = .int kl L) (hc : a.eval c = .int kc C) (hL : L = (n : Int)) (hC : C = (n : Int)) (b2 : bytes * n ≤ 281474976710656) (b3 : n ≤ 9223372036854775807)
    (hK : ∀ w', Own w' e size (.slice (some ⟨w.heap.size, 0, none⟩) n n) (madeCells z.cells (n * size)).toList → Kp (fun _ => False) w w' → w.heap.size < w'.heap.size →
      wpList P ops Q rest (a.put o.dst (.slice (some ⟨w.heap.size, 0, none⟩) n n)) w') : wpList P ops Q (o :: rest) a w := by
  obtain ⟨i, hi, hz0, hz1, hz2⟩ := info_parts hinfo
  refine wpList_make_full w hg l c t hop 0 e i z size ht hi hz0 hz1 kl kc L C n hl hc hL hC (by rw [hz2]; exact b2) (by simpa [maxLen] using b3) (Nat.zero_le _) fun w' h1 h2 => ?_
  have h3 := Own.ofRow h1
  exact hK w' h3 ⟨h2.os, h2.tape, h2.output, h2.size, fun b hb _ => h2.block b hb (by simp)⟩ (h3.lt rfl)

/-- 'append' as one step of a region that draws its order. -/
theorem step_append_Own {ops : Array Oper} {o : Oper} {a : Act} {K : Act → World → Prop} {Q : Exit → Act → World → Prop} {E : Prop} (hgd : o.guard = none) (s x : Operand) (t : TypeId)
    (ho : o.op = .call { callee := .builtin .append, args := #[s, x], argTypes := #[t, t] })
    (e : TypeId) (z : Value) (size bytes : Nat) (hinfo : (P.info? e).map (fun i => (i.zero, i.size, i.bytes)) = some (some z, size, bytes)) (ht : P.underlying t = some (.slice e)) (hzs : z.cells.size = size) (hsz : 0 < size)
    (v : Value) (xs : List Value) (hs : a.eval s = v) (hown : Own w e size v xs) (xv : Value) (news : List Value) (hx : a.eval x = xv) (hrd : Rd w size xv news) (h1 : ∀ u ∈ news, u.oneCell' = true)
    (N : Nat) (hN : xs.length + news.length ≤ N * size) (h63 : N ≤ 9223372036854775807) (hbytes : N * bytes ≤ 140737488355328)
    (h : ∀ A' n' c' w', Own w' e size (.slice A' n' c') (xs ++ news) → Kp (fun b => v.ownBlock = some b) w w' → (∀ k, (Value.slice A' n' c').ownBlock = some k → v.ownBlock = some k ∨ w.heap.size ≤ k) → K (a.put o.dst (.slice A' n' c')) w') :
    if Region.wanted o (yielded ops a.tmps) = true then Oper.wp P o a w K Q else E := by
  have hw : Region.wanted o (yielded ops a.tmps) = true := by simp [Region.wanted, hgd]
  rw [if_pos hw]
  obtain ⟨i, hi, hz0, hz1, hz2⟩ := info_parts hinfo
  obtain ⟨v', w', hr, h2, h3, h4⟩ := run_append_Own (P := P) w t o.type e i z size bytes ht hi hz0 hz1 hz2 hzs hsz v xs hown xv news hrd h1 N hN h63 hbytes
  unfold Oper.wp execOp
  simp only [ho, resolve, invoke, builtin, Sem.run_bind, Sem.run_pure, Result.andThen_ok, List.map_toArray, List.map_cons, List.map_nil, hs, hx, hr]
  obtain ⟨A', n', c', rfl, _⟩ := h2.len
  exact h A' n' c' w' h2 h3 h4
end

/-- An empty slice, made by a literal. -/
theorem Own.empty {w : World} {g : Nat} {cs : Array Value} {e : TypeId} {size : Nat} (h : w.heap[g]? = some (.cells cs e (0, 0))) : Own w e size (.slice (some ⟨g, 0, none⟩) 0 0) [] :=
  .inr ⟨g, 0, 0, 0, cs, rfl, h, Nat.le_refl _, by omega, by simp, by simp, by simp⟩

/-- A row just made by a literal. -/
theorem Rd.lit {w : World} {g n : Nat} {cs : Array Value} {e : TypeId} {fz : Nat × Nat} {size : Nat} (h : w.heap[g]? = some (.cells cs e fz)) (hn : cs.size = n * size) (h63 : n ≤ 9223372036854775807) :
    Rd w size (.slice (some ⟨g, 0, none⟩) n n) cs.toList :=
  ⟨_, n, n, rfl, by simpa using hn, Nat.le_refl _, h63, fun j u hj => ⟨g, 0, rfl, by rw [cell_blk h, Nat.zero_add]; simpa using hj⟩⟩
end Go.Proofs.Ytnhinhcgdchdkaa
