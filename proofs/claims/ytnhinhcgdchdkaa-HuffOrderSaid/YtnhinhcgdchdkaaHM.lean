/- Codes. -/
import Derived.Test.YtnhinhcgdchdkaaHL51
import Derived.Test.YtnhinhcgdchdkaaHJ
set_option linter.unusedSimpArgs false
set_option linter.unusedVariables false
namespace Go.Proofs.Ytnhinhcgdchdkaa
open Go Go.Proofs Go.RowKit

theorem Try.info33 : (Try.prog.info? 33).map (fun i => (i.zero, i.size, i.bytes)) = some (some (.int .u16 0), 1, 2) := by kernel_rfl

/-- The codes of lengths, first bit lowest. -/
def putCode (l : List Int) (x : Nat × Nat × Nat) : List Int := l.set x.1 (turnN x.2.2 x.2.1 0)
def codesOf (lens : List Int) : List Int := (eachL lens).foldl putCode (List.replicate lens.length 0)

theorem putCode_len (l : List Int) (x : Nat × Nat × Nat) : (putCode l x).length = l.length := by simp [putCode]
theorem fold_len (d : List (Nat × Nat × Nat)) (l : List Int) : (d.foldl putCode l).length = l.length := by
  induction d generalizing l with
  | nil => rfl
  | cons x d ih => simp only [List.foldl_cons]; rw [ih, putCode_len]

/-- A call's symbol is one of the row, its length is at most 15, its code is no greater than may be. -/
theorem scan_mem {lens : List Int} {n c : Nat} : ∀ {k : Nat} {x : Nat × Nat × Nat}, x ∈ scanL lens n c k → x.1 < k ∧ lens.getD x.1 0 = n ∧ x.2.2 = n ∧ x.2.1 = c + cntTo lens n x.1
  | 0, x, h => by simp [scanL] at h
  | k + 1, x, h => by
    simp only [scanL, List.mem_append] at h
    rcases h with h | h
    · have := scan_mem h; exact ⟨by omega, this.2⟩
    · split at h
      · rename_i hk
        simp at h; subst h; exact ⟨by omega, hk, rfl, rfl⟩
      · simp at h
theorem each_mem {lens : List Int} : ∀ {n : Nat} {x : Nat × Nat × Nat}, x ∈ eachTo lens n → x.1 < lens.length ∧ x.2.2 ≤ n ∧ 1 ≤ x.2.2 ∧ lens.getD x.1 0 = x.2.2 ∧ x.2.1 = 2 * nxt lens (x.2.2 - 1) + cntTo lens x.2.2 x.1
  | 0, x, h => by simp [eachTo] at h
  | n + 1, x, h => by
    simp only [eachTo, List.mem_append] at h
    rcases h with h | h
    · have := each_mem h; exact ⟨this.1, by omega, this.2.2⟩
    · obtain ⟨h1, h2, h3, h4⟩ := scan_mem h
      exact ⟨h1, by omega, by omega, by rw [h2, h3], by rw [h4, h3]; rfl⟩
theorem each_bd {lens : List Int} (hl : lens.length ≤ 320) {s c n : Nat} (h : (s, c, n) ∈ eachL lens) : s < lens.length ∧ c < 2147483648 ∧ n ≤ 15 ∧ 1 ≤ n := by
  obtain ⟨h1, h2, h3, h4, h5⟩ := each_mem h
  simp only at h1 h2 h3 h4 h5
  have h6 := nxt_le lens hl (n - 1)
  have h7 := Nat.pow_le_pow_right (n := 2) (by omega) (show n - 1 ≤ 14 by omega)
  have h8 := cntTo_le lens n s
  exact ⟨h1, by omega, h2, h3⟩

/-- What holds while Codes tells its codes. -/
structure ICo (w : World) (A : Option Addr) (n c : Nat) (lens : List Int) (b g m : Nat) (d : List (Nat × Nat × Nat)) (W : World) : Prop where
  blk : W.heap[b]? = some (.cells #[.slice (some ⟨g, 0, none⟩) m m] 32 (0, 0))
  own : Own W 33 1 (.slice (some ⟨g, 0, none⟩) m m) ((d.foldl putCode (List.replicate m 0)).map (Value.int .u16))
  rd : RdI W .u8 (.slice A n c) lens
  kp : Kp (fun _ => False) w W
  gb : w.heap.size ≤ g ∧ w.heap.size ≤ b
  lt : 0 < n → ∀ k, (Value.slice A n c).ownBlock = some k → k < w.heap.size

set_option maxHeartbeats 1000000 in
theorem tell51 (w : World) (A : Option Addr) (n c : Nat) (lens : List Int) (b g m : Nat) (d : List (Nat × Nat × Nat)) (W : World) (s cd q : Nat) (h : ICo w A n c lens b g m d W) (hs : s < m) (hm : m ≤ 320) (hc : cd < 2147483648) (hq : q ≤ 15) :
    Calls Try.prog 51 #[.int .i64 s, .int .i64 cd, .int .i64 q, .pointer (some ⟨b, 0, none⟩)] W fun e W' => e = .returned (.tuple #[]) ∧ ICo w A n c lens b g m (d ++ [(s, cd, q)]) W' := by
  have c0 : W.cell? ⟨b, 0, none⟩ = some (.slice (some ⟨g, 0, none⟩) m m) := (cell_blk h.blk 0).trans rfl
  obtain ⟨z, hz⟩ : ∃ z, (d.foldl putCode (List.replicate m 0))[s]? = some z := ⟨(d.foldl putCode (List.replicate m 0))[s]'(by rw [fold_len]; simpa using hs), List.getElem?_eq_getElem _⟩
  have c1 : W.cell? ⟨g, s, none⟩ = some (.int .u16 z) := by
    have := h.own.cellAt (j := s) (u := .int .u16 z) (by rw [List.getElem?_map, hz]; rfl)
    rwa [Nat.zero_add] at this
  have f1 : ∀ o, W.frozen? ⟨g, o, none⟩ = false := fun o => h.own.frozenAt o
  have hst := h.own.store s (.int .u16 (turnN q cd 0))
  rw [Nat.zero_add, ← List.map_set] at hst
  have H := Lib.hid h
  have HST := Lib.hid hst
  have hgb : g ≠ b := by
    rintro rfl
    obtain ⟨cur, h0, _⟩ := h.own.open
    rw [h.blk] at h0; simp at h0
  have HZ := Lib.hid hz
  clear h hst hz
  go_enter Try.func51, Try.ntmps51
  go_region_with (go_at_call 52; refine (turn_any _ cd q hc hq).mono ?_; rintro e w' ⟨rfl, rfl⟩)
  all_goals
    go_end0
    have h := H.out
    have hk : Kp (fun k => k = g) W (W.setCell ⟨g, s, none⟩ (.int .u16 (turnN q cd 0))).drew := ((Kp.refl (fun k => k = g) W).setCell ⟨g, s, none⟩ _ (fun _ => rfl)).drew
    refine ⟨rfl, hk.heap h.blk (fun e => hgb e.symm), ?_, Rd.kpn h.rd hk (fun h0 k hk1 _ e => by have := h.lt h0 k hk1; have := h.gb.1; omega), h.kp.trans hk (fun k hk1 e => by have := h.gb.1; omega), h.gb, h.lt⟩
    rw [List.foldl_append]
    exact HST.out.drew

def CodesPost (lens : List Int) (w : World) (e : Ending) (w' : World) : Prop :=
  (¬ okL lens ∧ e = .returned (.tuple #[.slice none 0 0, .int .i64 1]) ∧ Kp (fun _ => False) w w') ∨ (okL lens ∧ ¬ Whole lens ∧ e = .returned (.tuple #[.slice none 0 0, .int .i64 60]) ∧ Kp (fun _ => False) w w') ∨
    (okL lens ∧ Whole lens ∧ ∃ A n c, e = .returned (.tuple #[.slice A n c, .int .i64 0]) ∧ Own w' 33 1 (.slice A n c) ((codesOf lens).map (Value.int .u16)) ∧ Kp (fun _ => False) w w' ∧ (∀ k, (Value.slice A n c).ownBlock = some k → w.heap.size ≤ k))

set_option maxRecDepth 100000 in
set_option maxHeartbeats 1000000 in
theorem Codes_any (w : World) (A : Option Addr) (n c : Nat) (lens : List Int) (hr : RdI w .u8 (.slice A n c) lens) (hby : ∀ x ∈ lens, 0 ≤ x ∧ x < 256) :
    Calls Try.prog 25 #[.slice A n c] w (CodesPost lens w) := by
  obtain ⟨hl, hnc, hc⟩ := hr.len
  have HR := Lib.hid hr
  have HBY := Lib.hid hby
  have HL := Lib.hid hl
  clear hr hby hl
  obtain ⟨m, hm⟩ : ∃ m, m = min n 320 := ⟨_, rfl⟩
  have hm320 : m ≤ 320 := by omega
  have HMM := Lib.hid hm
  clear hm
  by_cases hok : okL lens
  · have hmn : m = n := by have := hok.1; have := HL.out; have := HMM.out; omega
    subst hmn
    have HOK := Lib.hid hok
    clear hok
    go_enter Try.func25, Try.ntmps25
    go_wp2_with (at_make; refine wpList_make_Own _ rfl (.tmp 8) (.tmp 8) 32 rfl 33 (.int .u16 0) 1 2 Try.info33 (by kernel_rfl) .i64 .i64 _ _ m rfl rfl (by omega) (by omega) (by omega) (by omega) ?_; intro w1 ho1 hk1 hs1; rw [made_one _ rfl] at ho1; have HO1 := Lib.hid ho1; have HK1 := Lib.hid hk1; clear ho1 hk1)
    all_goals
      have hic : ICo w A m c lens w1.heap.size w.heap.size m [] (w1.alloc (.cells #[.slice (some ⟨w.heap.size, 0, none⟩) m m] 32)) :=
        ⟨alloc_new w1 _, by simpa using HO1.out.kpF ((Kp.refl _ _).alloc _), Rd.kpF HR.out (HK1.out.alloc _), HK1.out.alloc _, ⟨Nat.le_refl _, HK1.out.size⟩, fun h0 => HR.out.lt h0⟩
      have HIC := Lib.hid hic
      clear hic
      refine (each51_any _ A m c lens _ HOK.out (ICo w A m c lens w1.heap.size w.heap.size m) HIC.out (fun d W h => h.rd) (fun d s cd q r W he h => ?_)).mono ?_
      · have hb := each_bd (lens := lens) HOK.out.1 (s := s) (c := cd) (n := q) (by rw [he]; simp)
        exact tell51 w A m c lens _ _ m d W s cd q h (by have := HL.out; omega) hm320 hb.2.1 hb.2.2.1
      · rintro e w2 (⟨hW, rfl, rfl⟩ | ⟨hW, rfl, hI⟩)
        · have HW := Lib.hid hW
          clear hW
          go_wp2_with fail
          go_ret2
          exact .inr (.inl ⟨HOK.out, HW.out, rfl, HIC.out.kp⟩)
        · have HW := Lib.hid hW
          have HI := Lib.hid hI
          have c0 : w2.cell? ⟨w1.heap.size, 0, none⟩ = some (.slice (some ⟨w.heap.size, 0, none⟩) m m) := (cell_blk hI.blk 0).trans rfl
          clear hW hI
          go_wp2_with fail
          go_ret2
          refine .inr (.inr ⟨HOK.out, HW.out, some ⟨w.heap.size, 0, none⟩, m, m, rfl, ?_, HI.out.kp, by simp [Value.ownBlock]⟩)
          unfold codesOf
          rw [HL.out]
          exact HI.out.own
  · have HOK := Lib.hid hok
    clear hok
    go_enter Try.func25, Try.ntmps25
    go_wp2_with (at_make; refine wpList_make_Own _ rfl (.tmp 8) (.tmp 8) 32 rfl 33 (.int .u16 0) 1 2 Try.info33 (by kernel_rfl) .i64 .i64 _ _ m rfl rfl (by have := HMM.out; omega) (by have := HMM.out; omega) (by omega) (by omega) ?_; intro w1 ho1 hk1 hs1; have HK1 := Lib.hid hk1; clear ho1 hk1)
    all_goals
      refine (each51_arg _ A n c lens _ (Rd.kpF HR.out (HK1.out.alloc _)) HBY.out HOK.out).mono ?_
      rintro e w2 ⟨rfl, rfl⟩
      go_wp2_with fail
      go_ret2
      exact .inl ⟨HOK.out, rfl, HK1.out.alloc _⟩
end Go.Proofs.Ytnhinhcgdchdkaa
