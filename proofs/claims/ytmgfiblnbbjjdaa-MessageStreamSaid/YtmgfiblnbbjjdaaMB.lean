/- The pen that reads: 'must', 'number'. -/
import Derived.Test.YtmgfiblnbbjjdaaProg
import Derived.Test.YtmgfiblnbbjjdaaL
import Derived.Test.YtmgfiblnbbjjdaaMA
import Derived.Deep.Light
set_option linter.unusedSimpArgs false
set_option linter.unusedVariables false
namespace Go.Proofs.Ytmgfiblnbbjjdaa
open Go Go.Proofs Go.RowKit

theorem must_any (b o : Nat) (bad ok : Bool) (w : World) (hc : w.cell? ⟨b, o, none⟩ = some (.bool bad)) (hf : w.frozen? ⟨b, o, none⟩ = false) :
    Calls Try.prog 14 #[.pointer (some ⟨b, o, none⟩), .bool ok] w fun e w' => e = .returned (.tuple #[]) ∧ w' = w.setCell ⟨b, o, none⟩ (.bool (bad || !ok)) := by
  cases bad
  · go_enter Try.func14, Try.ntmps14
    go_wp2
    go_end0
    simp
  · go_enter Try.func14, Try.ntmps14
    go_wp2
    go_end0
    simp

theorem number_short (b : Nat) (bad : Bool) (v : Int) (n : Nat) (hn : n ≤ 7) (w : World)
   (h0 : w.cell? ⟨b, 0, none⟩ = some (.bool bad)) (hf : w.frozen? ⟨b, 0, none⟩ = false)
   (h1 : w.cell? ⟨b, 1, none⟩ = some (.bool false))
   (A : Option Addr) (len cap : Nat) (hlen : len ≤ 9223372036854775807)
   (h2 : w.cell? ⟨b, 2, none⟩ = some (.slice A len cap)) (hshort : (bad || !decide (n ≤ len)) = true) :
    Calls Try.prog 13 #[.pointer (some ⟨b, 0, none⟩), .int .u64 v, .int .i64 n] w fun e w' => e = .returned (.int .u64 0) ∧ w' = w.drew.setCell ⟨b, 0, none⟩ (.bool true) := by
  go_enter Try.func13, Try.ntmps13
  go_wp2_with fail
  go_still_tail 10, (by kernel_rfl)
  go_wp2_with (go_at_call 14; refine (must_any _ _ _ _ _ (by assumption) (by assumption)).mono ?_; rintro e w' ⟨rfl, rfl⟩)
  go_ret
  exact ⟨rfl, rfl⟩

theorem number_ok (b : Nat) (v : Int) (n : Nat) (hn : n ≤ 7) (w : World)
   (h0 : w.cell? ⟨b, 0, none⟩ = some (.bool false)) (hf : w.frozen? ⟨b, 0, none⟩ = false)
   (h1 : w.cell? ⟨b, 1, none⟩ = some (.bool false))
   (g off len cap : Nat) (hAb : g ≠ b) (hlen : len ≤ cap) (hcap : cap ≤ 9223372036854775807)
   (h2 : w.cell? ⟨b, 2, none⟩ = some (.slice (some ⟨g, off, none⟩) len cap)) (hf2 : w.frozen? ⟨b, 2, none⟩ = false) (hshort : n ≤ len)
   (l : List Int) (hl : l.length = len) (hb : Byts l) (hcell : ∀ i, i < len → w.cell? ⟨g, off + i, none⟩ = some (.int .u8 (l.getD i 0))) :
    Calls Try.prog 13 #[.pointer (some ⟨b, 0, none⟩), .int .u64 v, .int .i64 n] w fun e w' => e = .returned (.int .u64 (Num (l.take n))) ∧
      w' = (w.drew.setCell ⟨b, 0, none⟩ (.bool false)).setCell ⟨b, 2, none⟩ (.slice (if cap = n then some ⟨g, off, none⟩ else some ⟨g, off + n, none⟩) (len - n) (cap - n)) := by
  have hd : decide (n ≤ len) = true := by simpa using hshort
  have hd2 : n ≤ cap := by omega
  have HL := Lib.hid hl
  have HB := Lib.hid hb
  have HC := Lib.hid hcell
  clear hl hb hcell
  go_enter Try.func13, Try.ntmps13
  go_wp2_with fail
  go_still_tail 10, (by kernel_rfl)
  go_wp2_with (go_at_call 14; refine (must_any _ _ _ _ _ (by assumption) (by assumption)).mono ?_; rintro e w' ⟨rfl, rfl⟩)
  go_loop [1, 9, 58] (fun t _ i => ∃ k : Nat, k ≤ n ∧ i = .int .i64 k ∧ t = .int .u64 (Num (l.take k))) (fun _ _ i => n - (intOf i).toNat)
  case atStart => exact ⟨0, Nat.zero_le _, rfl, by simp [Num]⟩
  case round =>
    obtain ⟨k, hk, rfl, rfl⟩ := hrel
    by_cases hlt : k < n
    · have hcell : w.cell? ⟨g, off + k, none⟩ = some (.int .u8 (l.getD k 0)) := HC.out k (by omega)
      go_wp2
      go_round
      case rel => exact ⟨k + 1, by omega, by go_num, by rw [Num_step HB.out hn hlt (by rw [HL.out]; omega)]⟩
      case measure => simp [intOf]; omega
    · obtain rfl : k = n := by omega
      clear hlt hk
      go_wp2
      all_goals
        go_ret
        refine ⟨rfl, ?_⟩
        simp [*]

/-- A block that begins with a pen that reads. -/
def Pen (T : TypeId) (w : World) (g : Nat) (bad : Bool) (bv : Value) (ms : List Value) : Prop := w.heap[g]? = some (.cells (.bool bad :: .bool false :: bv :: ms).toArray T (0, 0))

theorem number_rd (T : TypeId) (g : Nat) (bad : Bool) (bv : Value) (ms : List Value) (l : List Int) (v : Int) (n : Nat) (w : World) (hn : n ≤ 7) (hn1 : 1 ≤ n)
    (hp : Pen T w g bad bv ms) (hr : RdI w .u8 bv l) (hby : Byts l) (hne : ∀ k, bv.ownBlock = some k → k ≠ g) :
    Calls Try.prog 13 #[.pointer (some ⟨g, 0, none⟩), .int .u64 v, .int .i64 n] w fun e w' => ∃ bv', e = .returned (.int .u64 (nV bad l n)) ∧ Pen T w' g (nB bad l n) bv' ms ∧
      RdI w' .u8 bv' (nL bad l n) ∧ bv'.ownBlock = bv.ownBlock ∧ Kp (fun b => b = g) w w' ∧ w'.heap.size = w.heap.size := by
  have c0 : w.cell? ⟨g, 0, none⟩ = some (.bool bad) := by rw [cell_blk hp]; rfl
  have c1 : w.cell? ⟨g, 1, none⟩ = some (.bool false) := by rw [cell_blk hp]; rfl
  have c2 : w.cell? ⟨g, 2, none⟩ = some bv := by rw [cell_blk hp]; rfl
  have f0 : ∀ o, w.frozen? ⟨g, o, none⟩ = false := fun o => frozen_blk hp o
  obtain ⟨A, len, cap, rfl, h1, h2, h3, h4⟩ := hr
  simp only [List.length_map, Nat.mul_one] at h1
  by_cases hs : nB bad l n = true
  · have hs' := hs
    rw [nB, h1] at hs'
    refine (number_short g bad v n hn w c0 (f0 _) c1 A len cap (by omega) c2 hs').mono ?_
    rintro e w' ⟨rfl, rfl⟩
    refine ⟨_, by rw [nV, if_pos hs], ?_, ?_, rfl, ?_, by simp⟩
    · have := setCell_blk (w := w.drew) hp 0 (.bool true)
      rw [hs]
      simpa [Pen] using this
    · rw [nL, if_pos hs]
      exact Rd.kp ⟨A, len, cap, rfl, by simpa using h1, h2, h3, h4⟩ (((Kp.refl (fun b => b = g) w).drew).setCell _ _ (fun _ => rfl)) (fun k hk _ => hne k hk)
    · exact ((Kp.refl (fun b => b = g) w).drew).setCell _ _ (fun _ => rfl)
  · have hs' := hs
    simp [nB] at hs'
    obtain ⟨rfl, hle⟩ := hs'
    obtain ⟨u, hu⟩ : ∃ u, (l.map (Value.int .u8))[0]? = some u := ⟨_, List.getElem?_eq_getElem (by simp; omega)⟩
    obtain ⟨ag, ao, rfl, _⟩ := h4 0 u hu
    have hcell : ∀ i, i < len → w.cell? ⟨ag, ao + i, none⟩ = some (.int .u8 (l.getD i 0)) := fun i hi => by
      obtain ⟨g', o', he, hc⟩ := h4 i (.int .u8 (l.getD i 0)) (by simp [List.getElem?_eq_getElem (show i < l.length by omega)])
      simp only [Option.some.injEq, Addr.mk.injEq, and_true] at he
      obtain ⟨rfl, rfl⟩ := he
      exact hc
    have hag : ag ≠ g := hne ag rfl
    refine (number_ok g v n hn w c0 (f0 _) c1 ag ao len cap hag h2 h3 c2 (f0 _) (by omega) l h1 hby hcell).mono ?_
    rintro e w' ⟨rfl, rfl⟩
    have hk : Kp (fun b => b = g) w ((w.drew.setCell ⟨g, 0, none⟩ (.bool false)).setCell ⟨g, 2, none⟩ (.slice (if cap = n then some ⟨ag, ao, none⟩ else some ⟨ag, ao + n, none⟩) (len - n) (cap - n))) :=
      (((Kp.refl (fun b => b = g) w).drew).setCell _ _ (fun _ => rfl)).setCell _ _ (fun _ => rfl)
    refine ⟨.slice (if cap = n then some ⟨ag, ao, none⟩ else some ⟨ag, ao + n, none⟩) (len - n) (cap - n), by rw [nV, if_neg hs], ?_, ?_, by by_cases h : cap = n <;> simp [Value.ownBlock, h], hk, by simp⟩
    · have := setCell_blk (setCell_blk (w := w.drew) hp 0 (.bool false)) 2 (.slice (if cap = n then some ⟨ag, ao, none⟩ else some ⟨ag, ao + n, none⟩) (len - n) (cap - n))
      rw [show nB false l n = false by simpa using hs]
      simpa [Pen] using this
    · rw [nL, if_neg hs]
      refine ⟨_, _, _, rfl, by simp; omega, by omega, by omega, fun j u hj => ?_⟩
      have hjl : j < l.length - n := by
        have := (List.getElem?_eq_some_iff.1 hj).1
        simpa using this
      simp only [List.map_drop, List.getElem?_drop] at hj
      have hc : w.cell? ⟨ag, ao + n + j, none⟩ = some u := by
        have h5 := hcell (n + j) (by omega)
        rw [Nat.add_assoc, h5]
        rw [← hj]
        simp [List.getElem?_eq_getElem (show n + j < l.length by omega)]
      refine ⟨ag, ao + n, by rw [if_neg (by omega)], hk.cell hc ?_⟩
      exact hag
end Go.Proofs.Ytmgfiblnbbjjdaa
