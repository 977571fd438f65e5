/- container/heap over the queue: Init, Pop; take. -/
import Derived.Test.YtnhinhcgdchdkaaHC
set_option linter.unusedSimpArgs false
set_option linter.unusedVariables false
namespace Go.Proofs.Ytnhinhcgdchdkaa
open Go Go.Proofs Go.RowKit

theorem Len_any (w : World) (A : Option Addr) (n c : Nat) : Calls Try.prog 80 #[.slice A n c] w fun e w' => e = .returned (.int .i64 n) ∧ w = w' := by
  go_enter Try.func80, Try.ntmps80
  go_wp2
  go_ret
  exact ⟨rfl, rfl⟩

theorem down_int (w : World) (b g off n c : Nat) (l : List It) (I NN : Int) (i0 N : Nat) (hI : I = i0) (hNN : NN = N) (hq : Qu w b g off n c l) (hN : N ≤ n) (hs : HeapFrom (i0 + 1) N l) (hn : n ≤ 1000000) (hi : i0 < n) :
    Calls Try.prog 82 #[.iface 89 (.pointer (some ⟨b, 0, none⟩)), .int .i64 I, .int .i64 NN] w (DownPost b g off n c l i0 N w) := by
  subst hI hNN
  exact down_any w b g off n c l i0 N hq hN hs hn hi

theorem Init_nil (w : World) (b : Nat) (hc : w.cell? ⟨b, 0, none⟩ = some (.slice none 0 0)) :
    Calls Try.prog 41 #[.iface 89 (.pointer (some ⟨b, 0, none⟩))] w fun e w' => e = .returned (.tuple #[]) ∧ w = w' := by
  have hM := m_len ⟨b, 0, none⟩ w _ _ _ hc
  go_enter Try.func41, Try.ntmps41
  go_wp2_with fail
  refine (Len_any w none 0 0).mono ?_
  rintro e w1 ⟨rfl, rfl⟩
  clear hM
  go_wp2_with fail
  go_loop [3] (fun i => i = .int .i64 (-1)) (fun i => 0)
  case atStart => rfl
  case round =>
    subst hrel
    go_wp2
    go_end0
    exact ⟨rfl, rfl⟩

def InitPost (b g off n c : Nat) (l : List It) (w : World) (e : Ending) (w' : World) : Prop :=
  ∃ l', e = .returned (.tuple #[]) ∧ Qu w' b g off n c l' ∧ l'.Perm l ∧ HeapFrom 0 n l' ∧ Kp (fun k => k = g) w w'

set_option maxRecDepth 100000 in
set_option maxHeartbeats 2000000 in
theorem Init_any (w : World) (b g off n c : Nat) (l : List It) (hq : Qu w b g off n c l) (hn : n ≤ 1000000) :
    Calls Try.prog 41 #[.iface 89 (.pointer (some ⟨b, 0, none⟩))] w (InitPost b g off n c l w) := by
  have hM := m_len ⟨b, 0, none⟩ w _ _ _ hq.cell
  have HQ := Lib.hid hq
  clear hq
  go_enter Try.func41, Try.ntmps41
  go_wp2_with fail
  refine (Len_any w _ n c).mono ?_
  rintro e w1 ⟨rfl, rfl⟩
  clear hM
  go_wp2_with fail
  go_loopw [3] (fun i W => ∃ (z : Int) (k : Nat) (l' : List It), i = .int .i64 z ∧ z + 1 = k ∧ k ≤ n / 2 ∧ Qu W b g off n c l' ∧ l'.Perm l ∧ HeapFrom k n l' ∧ Kp (fun k => k = g) w W) (fun i _ => (intOf i + 1).toNat)
  case atStart => exact ⟨_, n / 2, l, rfl, by omega, Nat.le_refl _, HQ.out, .refl _, .far l (by omega), Kp.refl _ _⟩
  case round =>
    obtain ⟨z, k, l', rfl, hz, hk, hq, hp, hh, hkk⟩ := hrel
    have HQ1 := Lib.hid hq
    have HP := Lib.hid hp
    have HH := Lib.hid hh
    have HKK := Lib.hid hkk
    clear hq hp hh hkk
    by_cases h0 : 0 ≤ z
    · obtain ⟨k', hk'⟩ : ∃ k', k = k' + 1 := ⟨k - 1, by omega⟩
      subst hk'
      have hz1 : z ≤ 1000000 := by omega
      have hz2 : z = k' := by omega
      have HZ := Lib.hid hz2
      clear hz hz2
      go_wp2_with fail
      refine (down_int wr b g off n c l' _ _ k' n HZ.out rfl HQ1.out (Nat.le_refl _) HH.out hn (by omega)).mono ?_
      rintro e w2 ⟨bb, l2, rfl, hq2, hp2, hd2, hh2, hk2⟩
      have HQ2 := Lib.hid hq2
      have HP2 := Lib.hid hp2
      have HH2 := Lib.hid hh2
      have HK2 := Lib.hid hk2
      clear hq2 hp2 hd2 hh2 hk2
      go_wp2_with fail
      go_roundw
      case rel => exact ⟨_, k', l2, rfl, by have := HZ.out; omega, by omega, HQ2.out, HP2.out.trans HP.out, HH2.out, HKK.out.trans' HK2.out⟩
      case measure => simp [intOf]; omega
    · have HH0 : Hid (HeapFrom 0 n l') := Lib.hid (by have h := HH.out; rwa [show k = 0 from by omega] at h)
      have hz1 : -1 ≤ z := by omega
      clear hz hk HH
      go_wp2_with fail
      go_end0
      exact ⟨l', rfl, HQ1.out, HP.out, HH0.out, HKK.out⟩

/-- A queue that is a heap, of the items of a row in order. -/
def Hp (w : World) (b g off n c : Nat) (M : List It) : Prop := ∃ l, Qu w b g off n c l ∧ l.Perm M ∧ HeapFrom 0 n l

theorem Hp.len {w : World} {b g off n c : Nat} {M : List It} (h : Hp w b g off n c M) : M.length = n := by
  obtain ⟨l, h1, h2, _⟩ := h
  rw [← h2.length_eq]; exact (items_n h1.own.rd).1

theorem heap_swap {l : List It} {n : Nat} {x y : It} (h : HeapFrom 0 (n + 1) l) (h0 : l[0]? = some x) (hn : l[n]? = some y) : HeapFrom 1 n (swp l 0 n x y) := by
  intro p j u v h1 h2 h3 h4 h5
  unfold kid at h3
  rw [swp_get h0 hn, if_neg (by omega), if_neg (by omega)] at h4 h5
  exact h p j u v (by omega) (by omega) h3 h4 h5

theorem Qu.kpS {S : Nat → Prop} {w w' : World} {b g off n c : Nat} {l : List It} (h : Qu w b g off n c l) (hk : Kp S w w') (hb : ¬ S b) (hg : ¬ S g) : Qu w' b g off n c l :=
  ⟨hk.heap h.blk hb, h.own.kp hk (fun k hk' _ => by simp only [Value.ownBlock, Option.some.injEq] at hk'; subst hk'; exact hg)⟩
theorem Hp.kpS {S : Nat → Prop} {w w' : World} {b g off n c : Nat} {M : List It} (h : Hp w b g off n c M) (hk : Kp S w w') (hb : ¬ S b) (hg : ¬ S g) : Hp w' b g off n c M := by
  obtain ⟨l, h1, h2, h3⟩ := h
  exact ⟨l, h1.kpS hk hb hg, h2, h3⟩

def PopPost (b g off n c : Nat) (x : It) (M : List It) (w : World) (e : Ending) (w' : World) : Prop :=
  e = .returned (.iface 85 (.agg #[.int .i64 x.wt, .int .i64 x.no, .slice x.uA x.un x.uc])) ∧ Hp w' b g off n c M ∧ Kp (fun k => k = g ∨ k = b) w w'

set_option maxRecDepth 100000 in
set_option maxHeartbeats 2000000 in
theorem hPop (w : World) (b g off n c : Nat) (x : It) (M : List It) (hh : Hp w b g off (n + 1) c (x :: M)) (hs : Srt (x :: M)) (hn : n + 1 ≤ 1000000) :
    Calls Try.prog 83 #[.iface 89 (.pointer (some ⟨b, 0, none⟩))] w (PopPost b g off n c x M w) := by
  obtain ⟨l, hq, hp, hh⟩ := hh
  have hll := (items_n hq.own.rd).1
  have hM := m_len ⟨b, 0, none⟩ w _ _ _ hq.cell
  have hM2 := m_swap ⟨b, 0, none⟩ w _ _ _ hq.cell
  have h0 : l[0]? = some x := by
    have h1 : l[0]? = some (l[0]'(by omega)) := List.getElem?_eq_getElem _
    have h2 := first_is hs hp h1 (by rw [hll]; exact hh)
    rw [h1, h2]
  obtain ⟨y, hy⟩ : ∃ y, l[n]? = some y := ⟨l[n]'(by omega), List.getElem?_eq_getElem _⟩
  have HQ := Lib.hid hq
  have HP := Lib.hid hp
  have HH := Lib.hid hh
  have HLL := Lib.hid hll
  have H0 := Lib.hid h0
  have HY := Lib.hid hy
  have HS := Lib.hid hs
  clear hq hp hh hll h0 hy hs
  go_enter Try.func83, Try.ntmps83
  go_wp2_with fail
  refine (Len_any w _ (n + 1) c).mono ?_
  rintro e w1 ⟨rfl, rfl⟩
  go_wp2_with fail
  refine (Swap_int w g off (n + 1) c _ _ 0 n rfl (by omega) l x y HQ.out.own H0.out HY.out).mono ?_
  rintro e w2 ⟨rfl, ho2, hk2⟩
  have hq2 : Qu w2 b g off (n + 1) c (swp l 0 n x y) := ⟨hk2.heap HQ.out.blk (fun e => HQ.out.ne e.symm), ho2⟩
  have HQ2 := Lib.hid hq2
  have HK2 := Lib.hid hk2
  clear hq2 ho2 hk2 hM hM2
  go_wp2_with fail
  refine (down_int w2 b g off (n + 1) c _ _ _ 0 n rfl (by omega) HQ2.out (by omega) (heap_swap HH.out H0.out HY.out) hn (by omega)).mono ?_
  rintro e w3 ⟨bb, l3, rfl, hq3, hp3, hd3, hh3, hk3⟩
  have hl3 : l3 = l3.take n ++ [x] := by
    have h1 : (swp l 0 n x y).drop n = [x] := by
      have h2 : (swp l 0 n x y)[n]? = some x := by rw [swp_get H0.out HY.out, if_pos rfl]
      have h3 : (swp l 0 n x y).length = n + 1 := by rw [swp_len]; exact HLL.out
      obtain ⟨h4, h5⟩ := List.getElem?_eq_some_iff.1 h2
      rw [List.drop_eq_getElem_cons h4, h5, List.drop_of_length_le (by omega)]
    rw [h1] at hd3
    rw [← hd3, List.take_append_drop]
  have hpp : (l3.take n).Perm M := rest_is (x := x) ((hp3.trans (swp_perm H0.out HY.out)).trans HP.out) hl3
  have hh4 : HeapFrom 0 n (l3.take n) := by
    intro p j u v h1 h2 h3 h4 h5
    unfold kid at h3
    rw [List.getElem?_take_of_lt (by omega)] at h4 h5
    exact hh3 p j u v h1 h2 h3 h4 h5
  have hM3 := m_pop ⟨b, 0, none⟩ w3
  have HQ3 := Lib.hid hq3
  have HK3 := Lib.hid hk3
  have HL3 := Lib.hid hl3
  have HPP := Lib.hid hpp
  have HH4 := Lib.hid hh4
  clear hq3 hk3 hl3 hpp hh4 hd3 hp3 hh3
  go_wp2_with fail
  refine (qPop w3 b g off (n + 1) c l3 (l3.take n) x HQ3.out.blk HQ3.out.own HL3.out).mono ?_
  rintro e w4 ⟨rfl, hb4, ho4, hk4⟩
  have HB4 := Lib.hid hb4
  have HO4 := Lib.hid ho4
  have HK4 := Lib.hid hk4
  clear hb4 ho4 hk4
  go_wp2_with fail
  go_ret
  exact ⟨rfl, ⟨_, ⟨HB4.out, HO4.out⟩, HPP.out, HH4.out⟩, ((HK2.out.trans' HK3.out).mono (fun _ _ e => Or.inl e)).trans' (HK4.out.mono (fun _ _ e => Or.inr e))⟩

theorem assert85 (v : Value) (w : World) : (Instr.typeAssert (.iface 85 v) 20 85 false).run Try.prog w = .ok v w := by kernel_rfl

def TakePost (b g off n c : Nat) (x : It) (M : List It) (w : World) (e : Ending) (w' : World) : Prop :=
  e = .returned (.agg #[.int .i64 x.wt, .int .i64 x.no, .slice x.uA x.un x.uc]) ∧ Hp w' b g off n c M ∧ Kp (fun k => k = g ∨ k = b) w w'

set_option maxRecDepth 100000 in
set_option maxHeartbeats 2000000 in
theorem take_any (w : World) (b g off n c : Nat) (x : It) (M : List It) (hh : Hp w b g off (n + 1) c (x :: M)) (hs : Srt (x :: M)) (hn : n + 1 ≤ 1000000) :
    Calls Try.prog 42 #[.pointer (some ⟨b, 0, none⟩)] w (TakePost b g off n c x M w) := by
  have HH : Hid (Hp (w.alloc (.cells #[.int .i64 0, .int .i64 0, .slice none 0 0] 85)) b g off (n + 1) c (x :: M)) := Lib.hid (by
    obtain ⟨l, hq, hp, hh⟩ := hh
    exact ⟨l, hq.kp ((Kp.refl _ w).alloc _), hp, hh⟩)
  have hlt : g < w.heap.size ∧ b < w.heap.size := by
    obtain ⟨l, hq, hp, hh⟩ := hh
    exact ⟨hq.own.lt rfl, lt_of_blk hq.blk⟩
  have HS := Lib.hid hs
  clear hh hs
  go_enter Try.func42, Try.ntmps42
  go_wp2_with fail
  refine (hPop _ b g off n c x M HH.out HS.out hn).mono ?_
  rintro e w1 ⟨rfl, hh1, hk1⟩
  have hb := hk1.heap (alloc_new w _) (by omega)
  have c0 : w1.cell? ⟨w.heap.size, 0, none⟩ = some (.int .i64 0) := (cell_blk hb 0).trans rfl
  have c1 : w1.cell? ⟨w.heap.size, 1, none⟩ = some (.int .i64 0) := (cell_blk hb 1).trans rfl
  have c2 : w1.cell? ⟨w.heap.size, 2, none⟩ = some (.slice none 0 0) := (cell_blk hb 2).trans rfl
  have f0 : ∀ o, w1.frozen? ⟨w.heap.size, o, none⟩ = false := fun o => frozen_blk hb o
  have hkf : Kp (fun k => k = g ∨ k = b) w w1 := ((Kp.refl (fun k => k = g ∨ k = b) w).alloc _).trans hk1 (fun _ _ e => e)
  have HK := Lib.hid hkf
  have HH1 := Lib.hid hh1
  have HB := Lib.hid hb
  clear hb hkf hh1 hk1
  have hta := assert85 (.agg #[.int .i64 x.wt, .int .i64 x.no, .slice x.uA x.un x.uc]) w1
  go_wp2_with fail
  have hb3 := setCell_blk (setCell_blk (setCell_blk HB.out 0 (.int .i64 x.wt)) 1 (.int .i64 x.no)) 2 (.slice x.uA x.un x.uc)
  have hkk := (((Kp.refl (fun k => k = w.heap.size) w1).setCell ⟨w.heap.size, 0, none⟩ (.int .i64 x.wt) (fun _ => rfl)).setCell ⟨w.heap.size, 1, none⟩ (.int .i64 x.no) (fun _ => rfl)).setCell ⟨w.heap.size, 2, none⟩ (.slice x.uA x.un x.uc) (fun _ => rfl)
  generalize (((w1.setCell ⟨w.heap.size, 0, none⟩ (.int .i64 x.wt)).setCell ⟨w.heap.size, 1, none⟩ (.int .i64 x.no)).setCell ⟨w.heap.size, 2, none⟩ (.slice x.uA x.un x.uc)) = w2 at *
  have d0 : w2.cell? ⟨w.heap.size, 0, none⟩ = some (.int .i64 x.wt) := (cell_blk hb3 0).trans rfl
  have d1 : w2.cell? ⟨w.heap.size, 1, none⟩ = some (.int .i64 x.no) := (cell_blk hb3 1).trans rfl
  have d2 : w2.cell? ⟨w.heap.size, 2, none⟩ = some (.slice x.uA x.un x.uc) := (cell_blk hb3 2).trans rfl
  refine bodyPost_ret (v := .agg #[.int .i64 x.wt, .int .i64 x.no, .slice x.uA x.un x.uc]) (by simp [results, Try.results42, go_sem, d0, d1, d2]) rfl ⟨rfl, HH1.out.kpS hkk (by omega) (by omega), HK.out.trans hkk (fun k hk e => by omega)⟩
end Go.Proofs.Ytnhinhcgdchdkaa
