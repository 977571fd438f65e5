/- A message is read. -/
import Derived.Test.YtmgfiblnbbjjdaaMR
set_option linter.unusedSimpArgs false
set_option linter.unusedVariables false
namespace Go.Proofs.Ytmgfiblnbbjjdaa
open Go Go.Proofs Go.RowKit

/-- A part of a slice. -/
theorem Rd.sub {w : World} {k : IntKind} {g off n cap : Nat} {l : List Int} (h : RdI w k (.slice (some ⟨g, off, none⟩) n cap) l) (lo hi : Nat) (h1 : lo ≤ hi) (h2 : hi ≤ n) :
    RdI w k (.slice (if cap = lo then some ⟨g, off, none⟩ else some ⟨g, off + lo, none⟩) (hi - lo) (cap - lo)) ((l.drop lo).take (hi - lo)) := by
  obtain ⟨A, n', c', he, hl, hc, h63, hx⟩ := h
  simp only [Value.slice.injEq] at he
  obtain ⟨rfl, rfl, rfl⟩ := he
  have hl' : l.length = n := by simpa using hl
  refine ⟨_, _, _, rfl, by simp; omega, by omega, by omega, fun j u hj => ?_⟩
  have hj2 : j < hi - lo := by
    have := (List.getElem?_eq_some_iff.1 hj).1
    simp at this; omega
  rw [List.getElem?_map, List.getElem?_take, if_pos hj2, List.getElem?_drop] at hj
  obtain ⟨g', o', he, hcell⟩ := hx (lo + j) u (by rw [List.getElem?_map]; exact hj)
  simp only [Option.some.injEq, Addr.mk.injEq, and_true] at he
  obtain ⟨rfl, rfl⟩ := he
  refine ⟨g, off + lo, by rw [if_neg (by omega)], by rw [Nat.add_assoc]; exact hcell⟩

def zeroM : Array Value := #[.int .u8 0, .int .u32 0, .int .u32 0, .int .u32 0, .bool false, .bool false, .int .u16 0, .int .u16 0, .slice none 0 0, .int .u32 0, .int .u8 0, .int .u16 0, .int .u16 0, .int .u32 0, .slice none 0 0]

/-- Bytes of which nothing is told yet. -/
def More (l : List Int) : Prop := l = [] ∨ (known (l.headD 0) ∧ l.length < 5) ∨ (known (l.headD 0) ∧ 5 ≤ l.length ∧ Num ((l.drop 1).take 4) ≤ 524297 ∧ (l.length : Int) - 5 < Num ((l.drop 1).take 4))

theorem RdI.n {w : World} {k : IntKind} {A : Option Addr} {n c : Nat} {l : List Int} (h : RdI w k (.slice A n c) l) : l.length = n ∧ n ≤ c ∧ c ≤ 9223372036854775807 := by
  obtain ⟨A, n', c', he, h, h1, h2, _⟩ := h; simp only [Value.slice.injEq] at he; obtain ⟨rfl, rfl, rfl⟩ := he; exact ⟨by simpa using h, h1, h2⟩

theorem RdI.first {w : World} {k : IntKind} {A : Option Addr} {n c : Nat} {l : List Int} (h : RdI w k (.slice A n c) l) (hn : l ≠ []) : ∃ g off, A = some ⟨g, off, none⟩ ∧ w.cell? ⟨g, off, none⟩ = some (.int k (l.headD 0)) := by
  obtain ⟨A, n', c', he, h, h1, h2, h4⟩ := h
  simp only [Value.slice.injEq] at he
  obtain ⟨rfl, rfl, rfl⟩ := he
  cases l with
  | nil => exact absurd rfl hn
  | cons x l =>
    obtain ⟨g, off, rfl, hc⟩ := h4 0 (.int k x) rfl
    exact ⟨g, off, rfl, hc⟩

theorem store15 {w : World} {b : Nat} {T : TypeId} {a0 a1 a2 a3 a4 a5 a6 a7 a8 a9 a10 a11 a12 a13 a14 v0 v1 v2 v3 v4 v5 v6 v7 v8 v9 v10 v11 v12 v13 v14 : Value} (h : w.heap[b]? = some (.cells #[a0, a1, a2, a3, a4, a5, a6, a7, a8, a9, a10, a11, a12, a13, a14] T (0, 0))) :
    (((((((((((((((w.setCell ⟨b, 0, none⟩ v0).setCell ⟨b, 1, none⟩ v1).setCell ⟨b, 2, none⟩ v2).setCell ⟨b, 3, none⟩ v3).setCell ⟨b, 4, none⟩ v4).setCell ⟨b, 5, none⟩ v5).setCell ⟨b, 6, none⟩ v6).setCell ⟨b, 7, none⟩ v7).setCell ⟨b, 8, none⟩ v8).setCell ⟨b, 9, none⟩ v9).setCell ⟨b, 10, none⟩ v10).setCell ⟨b, 11, none⟩ v11).setCell ⟨b, 12, none⟩ v12).setCell ⟨b, 13, none⟩ v13).setCell ⟨b, 14, none⟩ v14).heap[b]? = some (.cells #[v0, v1, v2, v3, v4, v5, v6, v7, v8, v9, v10, v11, v12, v13, v14] T (0, 0)) := by
  have := (setCell_blk (setCell_blk (setCell_blk (setCell_blk (setCell_blk (setCell_blk (setCell_blk (setCell_blk (setCell_blk (setCell_blk (setCell_blk (setCell_blk (setCell_blk (setCell_blk (setCell_blk h 0 v0) 1 v1) 2 v2) 3 v3) 4 v4) 5 v5) 6 v6) 7 v7) 8 v8) 9 v9) 10 v10) 11 v11) 12 v12) 13 v13) 14 v14)
  simpa using this
theorem store15_kp (w : World) (b : Nat) (v0 v1 v2 v3 v4 v5 v6 v7 v8 v9 v10 v11 v12 v13 v14 : Value) : Kp (fun k => k = b) w (((((((((((((((w.setCell ⟨b, 0, none⟩ v0).setCell ⟨b, 1, none⟩ v1).setCell ⟨b, 2, none⟩ v2).setCell ⟨b, 3, none⟩ v3).setCell ⟨b, 4, none⟩ v4).setCell ⟨b, 5, none⟩ v5).setCell ⟨b, 6, none⟩ v6).setCell ⟨b, 7, none⟩ v7).setCell ⟨b, 8, none⟩ v8).setCell ⟨b, 9, none⟩ v9).setCell ⟨b, 10, none⟩ v10).setCell ⟨b, 11, none⟩ v11).setCell ⟨b, 12, none⟩ v12).setCell ⟨b, 13, none⟩ v13).setCell ⟨b, 14, none⟩ v14) := ((((((((((((((((Kp.refl (fun k => k = b) w).setCell ⟨b, 0, none⟩ v0 (fun _ => rfl)).setCell ⟨b, 1, none⟩ v1 (fun _ => rfl)).setCell ⟨b, 2, none⟩ v2 (fun _ => rfl)).setCell ⟨b, 3, none⟩ v3 (fun _ => rfl)).setCell ⟨b, 4, none⟩ v4 (fun _ => rfl)).setCell ⟨b, 5, none⟩ v5 (fun _ => rfl)).setCell ⟨b, 6, none⟩ v6 (fun _ => rfl)).setCell ⟨b, 7, none⟩ v7 (fun _ => rfl)).setCell ⟨b, 8, none⟩ v8 (fun _ => rfl)).setCell ⟨b, 9, none⟩ v9 (fun _ => rfl)).setCell ⟨b, 10, none⟩ v10 (fun _ => rfl)).setCell ⟨b, 11, none⟩ v11 (fun _ => rfl)).setCell ⟨b, 12, none⟩ v12 (fun _ => rfl)).setCell ⟨b, 13, none⟩ v13 (fun _ => rfl)).setCell ⟨b, 14, none⟩ v14 (fun _ => rfl))

theorem results_read (tmps : Array Value) (W : World) (b : Nat) (x3 x4 : Value) (v0 v1 v2 v3 v4 v5 v6 v7 v8 v9 v10 v11 v12 v13 v14 : Value) (h2 : tmps[2]? = some (.pointer (some ⟨b, 0, none⟩))) (h3 : tmps[3]? = some x3) (h4 : tmps[4]? = some x4)
    (hb : W.heap[b]? = some (.cells #[v0, v1, v2, v3, v4, v5, v6, v7, v8, v9, v10, v11, v12, v13, v14] 30 (0, 0))) : (results Try.f6 tmps).run Try.prog W = .ok (.tuple #[.agg #[v0, v1, v2, v3, v4, v5, v6, v7, v8, v9, v10, v11, v12, v13, v14], x3, x4]) W := by
  have c0 : W.cell? ⟨b, 0, none⟩ = some v0 := (cell_blk hb 0).trans rfl
  have c1 : W.cell? ⟨b, 1, none⟩ = some v1 := (cell_blk hb 1).trans rfl
  have c2 : W.cell? ⟨b, 2, none⟩ = some v2 := (cell_blk hb 2).trans rfl
  have c3 : W.cell? ⟨b, 3, none⟩ = some v3 := (cell_blk hb 3).trans rfl
  have c4 : W.cell? ⟨b, 4, none⟩ = some v4 := (cell_blk hb 4).trans rfl
  have c5 : W.cell? ⟨b, 5, none⟩ = some v5 := (cell_blk hb 5).trans rfl
  have c6 : W.cell? ⟨b, 6, none⟩ = some v6 := (cell_blk hb 6).trans rfl
  have c7 : W.cell? ⟨b, 7, none⟩ = some v7 := (cell_blk hb 7).trans rfl
  have c8 : W.cell? ⟨b, 8, none⟩ = some v8 := (cell_blk hb 8).trans rfl
  have c9 : W.cell? ⟨b, 9, none⟩ = some v9 := (cell_blk hb 9).trans rfl
  have c10 : W.cell? ⟨b, 10, none⟩ = some v10 := (cell_blk hb 10).trans rfl
  have c11 : W.cell? ⟨b, 11, none⟩ = some v11 := (cell_blk hb 11).trans rfl
  have c12 : W.cell? ⟨b, 12, none⟩ = some v12 := (cell_blk hb 12).trans rfl
  have c13 : W.cell? ⟨b, 13, none⟩ = some v13 := (cell_blk hb 13).trans rfl
  have c14 : W.cell? ⟨b, 14, none⟩ = some v14 := (cell_blk hb 14).trans rfl
  simp [results, Try.results6, go_sem, h2, h3, h4, c0, c1, c2, c3, c4, c5, c6, c7, c8, c9, c10, c11, c12, c13, c14]

set_option maxHeartbeats 1000000 in
theorem Read_nil (w : World) (A : Option Addr) (c : Nat) :
    Calls Try.prog 6 #[.slice A 0 c] w fun e w' => e = .returned (.tuple #[.agg zeroM, .int .i64 0, .int .i64 0]) ∧ Kp (fun _ => False) w w' := by
  unfold zeroM
  go_enter Try.func6, Try.ntmps6
  go_wp2
  refine bodyPost_ret (v := .tuple #[.agg #[.int .u8 0, .int .u32 0, .int .u32 0, .int .u32 0, .bool false, .bool false, .int .u16 0, .int .u16 0, .slice none 0 0, .int .u32 0, .int .u8 0, .int .u16 0, .int .u16 0, .int .u32 0, .slice none 0 0], .int .i64 0, .int .i64 0]) (by simp [results, Try.results6, go_sem]) rfl ⟨rfl, ?_⟩
  repeat (first | exact Kp.refl _ _ | refine Kp.alloc ?_ _ | refine Kp.drew ?_)

set_option maxHeartbeats 1000000 in
theorem Read_short (w : World) (g off n c : Nat) (ty : Int) (hk : known ty) (hc : w.cell? ⟨g, off, none⟩ = some (.int .u8 ty)) (hn1 : 1 ≤ n) (hn5 : n < 5) (hnc : n ≤ c) :
    Calls Try.prog 6 #[.slice (some ⟨g, off, none⟩) n c] w fun e w' => e = .returned (.tuple #[.agg zeroM, .int .i64 0, .int .i64 0]) ∧ Kp (fun _ => False) w w' := by
  have he := fun (w : World) (a : Option Addr) (n c : Nat) => Lib.run_eql_slice_nil (P := Try.prog) w 48 1 a n c 0 0 Try.underlying48
  have hgl := lt_of_cell hc
  have hgl' : g < w.heap.size := hgl
  clear hgl
  have HK := Lib.hid hk
  clear hk
  unfold zeroM
  go_enter Try.func6, Try.ntmps6
  go_wp2_with fail
  have hx := alloc_new (w.alloc (.cells #[.int .u8 0, .int .u32 0, .int .u32 0, .int .u32 0, .bool false, .bool false, .int .u16 0, .int .u16 0, .slice none 0 0, .int .u32 0, .int .u8 0, .int .u16 0, .int .u16 0, .int .u32 0, .slice none 0 0] 30)) (.cells #[.bool false, .bool false, .slice none 0 0, .int .u8 ty, .int .u32 0, .int .u32 0, .int .u32 0, .bool false, .bool false, .int .u16 0, .int .u16 0, .slice none 0 0, .int .u32 0, .int .u8 0, .int .u16 0, .int .u16 0, .int .u32 0, .slice none 0 0] 46)
  rw [World.size_alloc] at hx
  refine (fields_any _ _ ty HK.out ((cell_blk hx 3).trans rfl)).mono ?_
  rintro e w2 ⟨b2, n2, rfl, hk2⟩
  have hr2 := hk2.heap (alloc_oth (alloc_new w _) _) (fun x => x)
  have HKK := Lib.hid ((((Kp.refl (fun _ => False) w).alloc _).alloc _).trans' hk2)
  have HX := Lib.hid (hk2.heap hx (fun x => x))
  have q : ∀ o, w2.frozen? ⟨w.heap.size, o, none⟩ = false := fun o => frozen_blk hr2 o
  have q0 : w2.cell? ⟨w.heap.size, 0, none⟩ = some (.int .u8 0) := (cell_blk hr2 0).trans rfl
  have q1 : w2.cell? ⟨w.heap.size, 1, none⟩ = some (.int .u32 0) := (cell_blk hr2 1).trans rfl
  have q2 : w2.cell? ⟨w.heap.size, 2, none⟩ = some (.int .u32 0) := (cell_blk hr2 2).trans rfl
  have q3 : w2.cell? ⟨w.heap.size, 3, none⟩ = some (.int .u32 0) := (cell_blk hr2 3).trans rfl
  have q4 : w2.cell? ⟨w.heap.size, 4, none⟩ = some (.bool false) := (cell_blk hr2 4).trans rfl
  have q5 : w2.cell? ⟨w.heap.size, 5, none⟩ = some (.bool false) := (cell_blk hr2 5).trans rfl
  have q6 : w2.cell? ⟨w.heap.size, 6, none⟩ = some (.int .u16 0) := (cell_blk hr2 6).trans rfl
  have q7 : w2.cell? ⟨w.heap.size, 7, none⟩ = some (.int .u16 0) := (cell_blk hr2 7).trans rfl
  have q8 : w2.cell? ⟨w.heap.size, 8, none⟩ = some (.slice none 0 0) := (cell_blk hr2 8).trans rfl
  have q9 : w2.cell? ⟨w.heap.size, 9, none⟩ = some (.int .u32 0) := (cell_blk hr2 9).trans rfl
  have q10 : w2.cell? ⟨w.heap.size, 10, none⟩ = some (.int .u8 0) := (cell_blk hr2 10).trans rfl
  have q11 : w2.cell? ⟨w.heap.size, 11, none⟩ = some (.int .u16 0) := (cell_blk hr2 11).trans rfl
  have q12 : w2.cell? ⟨w.heap.size, 12, none⟩ = some (.int .u16 0) := (cell_blk hr2 12).trans rfl
  have q13 : w2.cell? ⟨w.heap.size, 13, none⟩ = some (.int .u32 0) := (cell_blk hr2 13).trans rfl
  have q14 : w2.cell? ⟨w.heap.size, 14, none⟩ = some (.slice none 0 0) := (cell_blk hr2 14).trans rfl
  have HR2 := Lib.hid hr2
  clear hr2 hx hk2
  go_wp2
  refine bodyPost_ret (results_read _ _ w.heap.size _ _ _ _ _ _ _ _ _ _ _ _ _ _ _ _ _ rfl rfl rfl (store15 HR2.out)) rfl ⟨rfl, ?_⟩
  exact HKK.out.trans (store15_kp _ _ _ _ _ _ _ _ _ _ _ _ _ _ _ _ _) (fun b hb e => by have e' : b = w.heap.size := e; omega)

set_option maxHeartbeats 2000000 in
theorem Read_wait (w : World) (g off n c : Nat) (ty : Int) (l : List Int) (hk : known ty) (hr : RdI w .u8 (.slice (some ⟨g, off, none⟩) n c) l) (hhd : l.headD 0 = ty) (hby : Byts l) (hn5 : 5 ≤ n)
    (hN : Num ((l.drop 1).take 4) ≤ 524297) (hm : (n : Int) - 5 < Num ((l.drop 1).take 4)) :
    Calls Try.prog 6 #[.slice (some ⟨g, off, none⟩) n c] w fun e w' => e = .returned (.tuple #[.agg zeroM, .int .i64 0, .int .i64 0]) ∧ Kp (fun _ => False) w w' := by
  have he := fun (w : World) (a : Option Addr) (n c : Nat) => Lib.run_eql_slice_nil (P := Try.prog) w 48 1 a n c 0 0 Try.underlying48
  obtain ⟨hln, hnc, hc63⟩ := hr.n
  have hne : l ≠ [] := by intro e; subst e; simp at hln; omega
  have hc : w.cell? ⟨g, off, none⟩ = some (.int .u8 ty) := by
    obtain ⟨g', o', he, h⟩ := hr.first hne
    cases he
    rw [← hhd]; exact h
  have hgl := lt_of_cell hc
  have hgl' : g < w.heap.size := hgl
  have hsub := Rd.sub hr 1 5 (by omega) hn5
  rw [if_neg (by omega)] at hsub
  obtain ⟨N, hNe⟩ : ∃ N : Nat, Num ((l.drop 1).take 4) = N := ⟨_, (Int.toNat_of_nonneg (Num_nonneg ((hby.drop 1).take 4))).symm⟩
  have hl4 : ((l.drop 1).take 4).length = 4 := by simp; omega
  have HS := fun W (hW : Kp (fun _ => False) w W) => Lib.hid (Rd.kp hsub hW (fun _ _ _ x => x))
  have HK := Lib.hid hk
  have HB4 := Lib.hid ((hby.drop 1).take 4)
  have HL4 := Lib.hid hl4
  rw [hNe] at hN hm
  have HNE := Lib.hid hNe
  have eN : IntKind.i64.wrap (N : Int) = N := IntWalk.i64_in _ (by omega)
  clear hk hgl hr hhd hby hln hne hsub hl4 hNe
  unfold zeroM
  go_enter Try.func6, Try.ntmps6
  go_wp2_with fail
  have hx := alloc_new (w.alloc (.cells #[.int .u8 0, .int .u32 0, .int .u32 0, .int .u32 0, .bool false, .bool false, .int .u16 0, .int .u16 0, .slice none 0 0, .int .u32 0, .int .u8 0, .int .u16 0, .int .u16 0, .int .u32 0, .slice none 0 0] 30)) (.cells #[.bool false, .bool false, .slice none 0 0, .int .u8 ty, .int .u32 0, .int .u32 0, .int .u32 0, .bool false, .bool false, .int .u16 0, .int .u16 0, .slice none 0 0, .int .u32 0, .int .u8 0, .int .u16 0, .int .u16 0, .int .u32 0, .slice none 0 0] 46)
  rw [World.size_alloc] at hx
  refine (fields_any _ _ ty HK.out ((cell_blk hx 3).trans rfl)).mono ?_
  rintro e w2 ⟨b2, n2, rfl, hk2⟩
  have hr2 := hk2.heap (alloc_oth (alloc_new w _) _) (fun x => x)
  have HKK2 := Lib.hid ((((Kp.refl (fun _ => False) w).alloc _).alloc _).trans' hk2)
  have HR2 := Lib.hid hr2
  have hlr := lt_of_blk hr2
  clear hr2 hx hk2
  go_wp2_with fail
  have hh := alloc_new w2 (.cells #[.bool false, .bool false, .slice (some ⟨g, off + 1, none⟩) 4 (c - 1)] 44)
  have hw2 := ((Kp.refl (fun _ => False) w2).alloc (.cells #[.bool false, .bool false, .slice (some ⟨g, off + 1, none⟩) 4 (c - 1)] 44))
  have hgl2 : g < w2.heap.size := Nat.lt_of_lt_of_le hgl' HKK2.out.size
  refine (number_rd 44 w2.heap.size false (.slice (some ⟨g, off + 1, none⟩) 4 (c - 1)) [] ((l.drop 1).take 4) 0 4 _ (by omega) (by omega) hh (HS _ (HKK2.out.trans' hw2)).out HB4.out (fun k hk => by simp [Value.ownBlock] at hk; omega)).mono ?_
  rintro e w3 ⟨bv3, rfl, _, _, _, hk3, _⟩
  have hv : nV false ((l.drop 1).take 4) 4 = (N : Int) := by
    unfold nV nB
    rw [HL4.out]
    simp only [Bool.false_or, Nat.le_refl, decide_true, Bool.not_true, Bool.false_eq_true, if_false]
    rw [List.take_of_length_le (by rw [HL4.out]; exact Nat.le_refl _)]; exact HNE.out
  rw [hv]
  have hk23 : Kp (fun k => k = w2.heap.size) w2 w3 := (hw2.mono (fun _ _ x => x.elim)).trans' hk3
  have hr3 := hk23.heap HR2.out (by omega)
  have HK3 : Hid (Kp (fun _ => False) w w3) := HKK2.out.trans hk23 (fun b hb e => by have e' : b = w2.heap.size := e; have := HKK2.out.size; omega)
  have q : ∀ o, w3.frozen? ⟨w.heap.size, o, none⟩ = false := fun o => frozen_blk hr3 o
  have q0 : w3.cell? ⟨w.heap.size, 0, none⟩ = some (.int .u8 0) := (cell_blk hr3 0).trans rfl
  have q1 : w3.cell? ⟨w.heap.size, 1, none⟩ = some (.int .u32 0) := (cell_blk hr3 1).trans rfl
  have q2 : w3.cell? ⟨w.heap.size, 2, none⟩ = some (.int .u32 0) := (cell_blk hr3 2).trans rfl
  have q3 : w3.cell? ⟨w.heap.size, 3, none⟩ = some (.int .u32 0) := (cell_blk hr3 3).trans rfl
  have q4 : w3.cell? ⟨w.heap.size, 4, none⟩ = some (.bool false) := (cell_blk hr3 4).trans rfl
  have q5 : w3.cell? ⟨w.heap.size, 5, none⟩ = some (.bool false) := (cell_blk hr3 5).trans rfl
  have q6 : w3.cell? ⟨w.heap.size, 6, none⟩ = some (.int .u16 0) := (cell_blk hr3 6).trans rfl
  have q7 : w3.cell? ⟨w.heap.size, 7, none⟩ = some (.int .u16 0) := (cell_blk hr3 7).trans rfl
  have q8 : w3.cell? ⟨w.heap.size, 8, none⟩ = some (.slice none 0 0) := (cell_blk hr3 8).trans rfl
  have q9 : w3.cell? ⟨w.heap.size, 9, none⟩ = some (.int .u32 0) := (cell_blk hr3 9).trans rfl
  have q10 : w3.cell? ⟨w.heap.size, 10, none⟩ = some (.int .u8 0) := (cell_blk hr3 10).trans rfl
  have q11 : w3.cell? ⟨w.heap.size, 11, none⟩ = some (.int .u16 0) := (cell_blk hr3 11).trans rfl
  have q12 : w3.cell? ⟨w.heap.size, 12, none⟩ = some (.int .u16 0) := (cell_blk hr3 12).trans rfl
  have q13 : w3.cell? ⟨w.heap.size, 13, none⟩ = some (.int .u32 0) := (cell_blk hr3 13).trans rfl
  have q14 : w3.cell? ⟨w.heap.size, 14, none⟩ = some (.slice none 0 0) := (cell_blk hr3 14).trans rfl
  have HR3 := Lib.hid hr3
  clear hv hh hw2 hk3 hk23 hr3 hlr
  go_wp2
  refine bodyPost_ret (results_read _ _ w.heap.size _ _ _ _ _ _ _ _ _ _ _ _ _ _ _ _ _ rfl rfl rfl (store15 HR3.out)) rfl ⟨rfl, ?_⟩
  exact HK3.out.trans (store15_kp _ _ _ _ _ _ _ _ _ _ _ _ _ _ _ _ _) (fun b hb e => by have e' : b = w.heap.size := e; omega)
end Go.Proofs.Ytmgfiblnbbjjdaa
