/- A page: a message in memory and a pen that goes over it, writing or reading; 'number' and 'field' at it. -/
import Derived.Test.YtmgfiblnbbjjdaaMC
set_option linter.unusedSimpArgs false
set_option linter.unusedVariables false
namespace Go.Proofs.Ytmgfiblnbbjjdaa
open Go Go.Proofs Go.RowKit

def nv (wr bad : Bool) (l : List Int) (v : Int) (n : Nat) : Int := if wr then v else nV bad l n
def nb (wr bad : Bool) (l : List Int) (n : Nat) : Bool := if wr then bad else nB bad l n
def nl (wr bad : Bool) (l : List Int) (v : Int) (n : Nat) : List Int := if wr then l ++ Enc n v else nL bad l n

theorem nv_bd {wr bad : Bool} {l : List Int} {v : Int} {n : Nat} (h : wr = false → Byts l) (h0 : 0 ≤ v) (h1 : v < 256 ^ n) : 0 ≤ nv wr bad l v n ∧ nv wr bad l v n < 256 ^ n := by
  unfold nv
  cases wr
  · exact nV_bd (h rfl)
  · exact ⟨h0, h1⟩

/-- The block that a slice of some elements lies in. -/
def lvB : Value → Option Nat
  | .slice (some a) n _ => if n = 0 then none else some a.block
  | _ => none
theorem lvB_own {v : Value} {k : Nat} (h : lvB v = some k) : v.ownBlock = some k := by
  unfold lvB at h
  split at h
  · split at h
    · simp at h
    · simpa [Value.ownBlock] using h
  · simp at h
theorem lvB_some {a : Addr} {n cap : Nat} (hn : n ≠ 0) : lvB (.slice (some a) n cap) = some a.block := by simp [lvB, hn]
theorem Rd.kpl {S : Nat → Prop} {w w' : World} {v : Value} {xs : List Value} (h : Rd w 1 v xs) (hk : Kp S w w')
    (hn : ∀ g, lvB v = some g → g < w.heap.size → ¬ S g) : Rd w' 1 v xs := by
  obtain ⟨A, n, cap, rfl, h1, h2, h3, h4⟩ := h
  refine ⟨A, n, cap, rfl, h1, h2, h3, fun j u hj => ?_⟩
  obtain ⟨g, off, rfl, hc⟩ := h4 j u hj
  have hn0 : n ≠ 0 := by
    have := (List.getElem?_eq_some_iff.1 hj).1
    omega
  exact ⟨g, off, rfl, hk.cell hc (hn g (lvB_some hn0) (lt_of_cell (a := ⟨g, _, none⟩) hc))⟩
theorem lvB_lt {w : World} {v : Value} {xs : List Value} (h : Rd w 1 v xs) {k : Nat} (hk : lvB v = some k) : k < w.heap.size := by
  obtain ⟨A, n, cap, rfl, h1, h2, h3, h4⟩ := h
  cases A with
  | none => simp [lvB] at hk
  | some a =>
    by_cases hn : n = 0
    · simp [lvB, hn] at hk
    · rw [lvB_some hn] at hk
      cases xs with
      | nil => simp at h1; omega
      | cons x xs =>
        obtain ⟨g, off, ha, hc⟩ := h4 0 x rfl
        simp only [Option.some.injEq] at ha hk
        subst ha; subst hk
        exact lt_of_cell hc


/-- What a page's slices are, and how they lie: B: from there on blocks are the call's own. -/
structure PgR (w : World) (B : Nat → Prop) (g : Nat) (wr : Bool) (l sums body : List Int) (bv sv dv : Value) : Prop where
  own : wr = true → Own w 5 1 bv (l.map (Value.int .u8))
  rd : wr = false → RdI w .u8 bv l
  byts : wr = false → Byts l
  len : wr = true → l.length ≤ 1000000
  sums : Own w 24 1 sv (sums.map (Value.int .u32))
  body : RdI w .u8 dv body
  gB : B g
  bB : wr = true → ∀ k, bv.ownBlock = some k → B k
  sB : ∀ k, sv.ownBlock = some k → B k
  bg : ∀ k, bv.ownBlock = some k → k ≠ g
  sg : ∀ k, sv.ownBlock = some k → k ≠ g
  dg : ∀ k, lvB dv = some k → k ≠ g
  bs : ∀ k, bv.ownBlock = some k → sv.ownBlock ≠ some k
  bd : wr = true → ∀ k, bv.ownBlock = some k → lvB dv ≠ some k
  ds : ∀ k, lvB dv = some k → sv.ownBlock ≠ some k
  blt : ∀ k, bv.ownBlock = some k → k < w.heap.size
  dB : wr = false → ∀ k, lvB dv = some k → B k

/-- A page's block. -/
def PgB (T : TypeId) (w : World) (g : Nat) (wr bad : Bool) (bv : Value) (ms : List Value) : Prop := w.heap[g]? = some (.cells (.bool bad :: .bool wr :: bv :: ms).toArray T (0, 0))

theorem ownBlock_lt {w : World} {size : Nat} {v : Value} {xs : List Value} (h : Rd w size v xs) (hx : xs ≠ []) {k : Nat} (hk : v.ownBlock = some k) : k < w.heap.size := by
  obtain ⟨A, n, cap, rfl, h1, h2, h3, h4⟩ := h
  cases xs with
  | nil => exact absurd rfl hx
  | cons x xs =>
    obtain ⟨g, off, rfl, hc⟩ := h4 0 x rfl
    simp only [Value.ownBlock, Option.some.injEq] at hk
    subst hk
    exact lt_of_cell hc

/-- Steps that keep all blocks but the page's own, its pen's (where it writes) and its sums'. -/
theorem PgR.kp {S : Nat → Prop} {w w' : World} {B : Nat → Prop} {g : Nat} {wr : Bool} {l sums body : List Int} {bv sv dv : Value} (h : PgR w B g wr l sums body bv sv dv) (hk : Kp S w w')
    (hb : ∀ k, bv.ownBlock = some k → ¬ S k) (hs : ∀ k, sv.ownBlock = some k → ¬ S k) (hd : ∀ k, lvB dv = some k → ¬ S k) : PgR w' B g wr l sums body bv sv dv :=
  { h with own := fun e => (h.own e).kp hk (fun k hk' _ => hb k hk'), rd := fun e => (h.rd e).kp hk (fun k hk' _ => hb k hk'), sums := h.sums.kp hk (fun k hk' _ => hs k hk'), body := Rd.kpl h.body hk (fun k hk' _ => hd k hk'), blt := fun k hk' => Nat.lt_of_lt_of_le (h.blt k hk') hk.size }

/-- 'number' at a page. -/
theorem number_pg (T : TypeId) (w : World) (B : Nat → Prop) (g : Nat) (wr bad : Bool) (l sums body : List Int) (bv sv dv : Value) (ms : List Value) (v : Int) (n : Nat) (hn : n ≤ 7) (hn1 : 1 ≤ n)
    (hv0 : 0 ≤ v) (hv1 : v < 18446744073709551616) (hB : ∀ k, w.heap.size ≤ k → B k) (hll : wr = true → l.length ≤ 999990)
    (hdl : ∀ k, lvB dv = some k → k < w.heap.size) (hblk : PgB T w g wr bad bv ms) (h : PgR w B g wr l sums body bv sv dv) :
    Calls Try.prog 13 #[.pointer (some ⟨g, 0, none⟩), .int .u64 v, .int .i64 n] w fun e w' => ∃ bv', e = .returned (.int .u64 (nv wr bad l v n)) ∧ PgB T w' g wr (nb wr bad l n) bv' ms ∧
      PgR w' B g wr (nl wr bad l v n) sums body bv' sv dv ∧ Kp B w w' := by
  cases wr
  · refine (number_rd T g bad bv ms l v n w hn hn1 hblk (h.rd rfl) (h.byts rfl) h.bg).mono ?_
    rintro e w' ⟨bv', rfl, h1, h2, h3, h4, h5⟩
    refine ⟨bv', rfl, h1, ?_, h4.mono (fun b _ hb => by cases (show b = g from hb); exact h.gB)⟩
    have hk := h.kp (w' := w') h4 h.bg h.sg h.dg
    exact { hk with own := (by simp), rd := fun _ => h2, byts := fun _ => nL_byts (h.byts rfl), len := (by simp), bB := (by simp), bg := (by rw [h3]; exact h.bg), bs := (by rw [h3]; exact h.bs), bd := (by simp), blt := (by rw [h3]; exact hk.blt) }
  · refine (number_wr T g bad bv ms l v n w hn hv0 hv1 (by have := hll rfl; omega) hblk (h.own rfl) h.bg).mono ?_
    rintro e w' ⟨bv', rfl, h1, h2, h3, h4⟩
    refine ⟨bv', rfl, h1, ?_, h4.mono (fun b hb hs => hs.elim (fun e => by cases e; exact h.gB) (fun e => h.bB rfl b e))⟩
    have hg := lt_of_blk hblk
    have hsl : ∀ k, sv.ownBlock = some k → k < w.heap.size := fun k hk => h.sums.lt hk
    exact { own := fun _ => h2, rd := (by simp), byts := (by simp), len := fun _ => (by have := hll rfl; simp [nl, Enc_len]; omega),
            sums := h.sums.kp h4 (fun k hk _ hs => hs.elim (h.sg k hk) (fun e => h.bs k e hk)), body := Rd.kpl h.body h4 (fun k hk _ hs => hs.elim (h.dg k hk) (fun e => h.bd rfl k e hk)),
            gB := h.gB, bB := fun _ k hk => (h3 k hk).elim (h.bB rfl k) (fun e => hB k e), sB := h.sB, bg := fun k hk => (h3 k hk).elim (h.bg k) (fun e => by omega), sg := h.sg, dg := h.dg,
            bs := fun k hk hs => (h3 k hk).elim (fun e => h.bs k e hs) (fun e => by have := hsl k hs; omega), bd := fun _ k hk hd => (h3 k hk).elim (fun e => h.bd rfl k e hd) (fun e => by have := hdl k hd; omega), ds := h.ds, blt := fun k hk => h2.lt hk, dB := (by simp) }

theorem wrap_u32_id {x : Int} (h0 : 0 ≤ x) (h1 : x < 4294967296) : IntKind.u32.wrap x = x := by rw [IntKind.wrap_u32']; omega
theorem wrap_u16_id {x : Int} (h0 : 0 ≤ x) (h1 : x < 65536) : IntKind.u16.wrap x = x := by rw [IntKind.wrap_u16]; omega
theorem wrap_u8_id {x : Int} (h0 : 0 ≤ x) (h1 : x < 256) : IntKind.u8.wrap x = x := by rw [IntKind.wrap_u8']; omega

section
variable (T : TypeId) (w : World) (B : Nat → Prop) (g : Nat) (wr bad : Bool) (l sums body : List Int) (bv sv dv : Value) (ms : List Value) (o : Nat) (a : Int)
    (ha0 : 0 ≤ a) (hB : ∀ k, w.heap.size ≤ k → B k) (hll : wr = true → l.length ≤ 999990)
    (hdl : ∀ k, lvB dv = some k → k < w.heap.size) (hblk : PgB T w g wr bad bv ms) (h : PgR w B g wr l sums body bv sv dv)
include ha0 hB hll hdl hblk h

/-- 'field' of four bytes, at a field of the page itself. -/
theorem field32_pg (p : Nat) (hop : 3 + o = p) (ha1 : a < 4294967296) (hms : ms[o]? = some (.int .u32 a)) :
    Calls Try.prog 27 #[.pointer (some ⟨g, 0, none⟩), .pointer (some ⟨g, p, none⟩), .int .i64 4] w fun e w' => ∃ bv', e = .returned (.tuple #[]) ∧
      PgB T w' g wr (nb wr bad l 4) bv' (ms.set o (.int .u32 (nv wr bad l a 4))) ∧ PgR w' B g wr (nl wr bad l a 4) sums body bv' sv dv ∧ Kp B w w' := by
  subst hop
  have c0 : w.cell? ⟨g, 3 + o, none⟩ = some (.int .u32 a) := by rw [cell_blk hblk]; simpa [Nat.add_comm 3 o] using hms
  have hw := nv_bd (bad := bad) (n := 4) h.byts ha0 (by omega : a < 256 ^ 4)
  have HB := Lib.hid hblk
  have H := Lib.hid h
  have HM := Lib.hid hms
  have HD := Lib.hid hdl
  clear hblk h hms hdl
  go_enter Try.func27, Try.ntmps27
  go_wp2_with fail
  refine (number_pg T w B g wr bad l sums body bv sv dv ms a 4 (by omega) (by omega) ha0 (by omega) hB hll HD.out HB.out H.out).mono ?_
  rintro e w' ⟨bv', rfl, h1, h2, h3⟩
  have hms' := HM.out
  have d0 : w'.cell? ⟨g, 3 + o, none⟩ = some (.int .u32 a) := by rw [cell_blk h1]; simpa [Nat.add_comm 3 o] using hms'
  have f0 : w'.frozen? ⟨g, 3 + o, none⟩ = false := frozen_blk h1 _
  have ew : IntKind.u32.wrap (nv wr bad l a 4) = nv wr bad l a 4 := wrap_u32_id hw.1 (by omega)
  have H1 := Lib.hid h1
  have H2 := Lib.hid h2
  have H3 := Lib.hid h3
  clear h1 h2 h3 hms'
  go_wp2
  go_end0
  refine ⟨bv', rfl, ?_, ?_, ?_⟩
  · have := setCell_blk H1.out (3 + o) (.int .u32 (nv wr bad l a 4))
    simpa [PgB, Nat.add_comm 3 o] using this
  · exact H2.out.kp ((Kp.refl (fun b => b = g) _).setCell _ _ (fun _ => rfl)) H2.out.bg H2.out.sg H2.out.dg
  · exact H3.out.setCell _ _ (fun _ => H2.out.gB)

theorem field16_pg (p : Nat) (hop : 3 + o = p) (ha1 : a < 65536) (hms : ms[o]? = some (.int .u16 a)) :
    Calls Try.prog 29 #[.pointer (some ⟨g, 0, none⟩), .pointer (some ⟨g, p, none⟩), .int .i64 2] w fun e w' => ∃ bv', e = .returned (.tuple #[]) ∧
      PgB T w' g wr (nb wr bad l 2) bv' (ms.set o (.int .u16 (nv wr bad l a 2))) ∧ PgR w' B g wr (nl wr bad l a 2) sums body bv' sv dv ∧ Kp B w w' := by
  subst hop
  have c0 : w.cell? ⟨g, 3 + o, none⟩ = some (.int .u16 a) := by rw [cell_blk hblk]; simpa [Nat.add_comm 3 o] using hms
  have hw := nv_bd (bad := bad) (n := 2) h.byts ha0 (by omega : a < 256 ^ 2)
  have HB := Lib.hid hblk
  have H := Lib.hid h
  have HM := Lib.hid hms
  have HD := Lib.hid hdl
  clear hblk h hms hdl
  go_enter Try.func29, Try.ntmps29
  go_wp2_with fail
  refine (number_pg T w B g wr bad l sums body bv sv dv ms a 2 (by omega) (by omega) ha0 (by omega) hB hll HD.out HB.out H.out).mono ?_
  rintro e w' ⟨bv', rfl, h1, h2, h3⟩
  have hms' := HM.out
  have d0 : w'.cell? ⟨g, 3 + o, none⟩ = some (.int .u16 a) := by rw [cell_blk h1]; simpa [Nat.add_comm 3 o] using hms'
  have f0 : w'.frozen? ⟨g, 3 + o, none⟩ = false := frozen_blk h1 _
  have ew : IntKind.u16.wrap (nv wr bad l a 2) = nv wr bad l a 2 := wrap_u16_id hw.1 (by omega)
  have H1 := Lib.hid h1
  have H2 := Lib.hid h2
  have H3 := Lib.hid h3
  clear h1 h2 h3 hms'
  go_wp2
  go_end0
  refine ⟨bv', rfl, ?_, ?_, ?_⟩
  · have := setCell_blk H1.out (3 + o) (.int .u16 (nv wr bad l a 2))
    simpa [PgB, Nat.add_comm 3 o] using this
  · exact H2.out.kp ((Kp.refl (fun b => b = g) _).setCell _ _ (fun _ => rfl)) H2.out.bg H2.out.sg H2.out.dg
  · exact H3.out.setCell _ _ (fun _ => H2.out.gB)

theorem field8_pg (p : Nat) (hop : 3 + o = p) (ha1 : a < 256) (hms : ms[o]? = some (.int .u8 a)) :
    Calls Try.prog 31 #[.pointer (some ⟨g, 0, none⟩), .pointer (some ⟨g, p, none⟩), .int .i64 1] w fun e w' => ∃ bv', e = .returned (.tuple #[]) ∧
      PgB T w' g wr (nb wr bad l 1) bv' (ms.set o (.int .u8 (nv wr bad l a 1))) ∧ PgR w' B g wr (nl wr bad l a 1) sums body bv' sv dv ∧ Kp B w w' := by
  subst hop
  have c0 : w.cell? ⟨g, 3 + o, none⟩ = some (.int .u8 a) := by rw [cell_blk hblk]; simpa [Nat.add_comm 3 o] using hms
  have hw := nv_bd (bad := bad) (n := 1) h.byts ha0 (by omega : a < 256 ^ 1)
  have HB := Lib.hid hblk
  have H := Lib.hid h
  have HM := Lib.hid hms
  have HD := Lib.hid hdl
  clear hblk h hms hdl
  go_enter Try.func31, Try.ntmps31
  go_wp2_with fail
  refine (number_pg T w B g wr bad l sums body bv sv dv ms a 1 (by omega) (by omega) ha0 (by omega) hB hll HD.out HB.out H.out).mono ?_
  rintro e w' ⟨bv', rfl, h1, h2, h3⟩
  have hms' := HM.out
  have d0 : w'.cell? ⟨g, 3 + o, none⟩ = some (.int .u8 a) := by rw [cell_blk h1]; simpa [Nat.add_comm 3 o] using hms'
  have f0 : w'.frozen? ⟨g, 3 + o, none⟩ = false := frozen_blk h1 _
  have ew : IntKind.u8.wrap (nv wr bad l a 1) = nv wr bad l a 1 := wrap_u8_id hw.1 (by omega)
  have H1 := Lib.hid h1
  have H2 := Lib.hid h2
  have H3 := Lib.hid h3
  clear h1 h2 h3 hms'
  go_wp2
  go_end0
  refine ⟨bv', rfl, ?_, ?_, ?_⟩
  · have := setCell_blk H1.out (3 + o) (.int .u8 (nv wr bad l a 1))
    simpa [PgB, Nat.add_comm 3 o] using this
  · exact H2.out.kp ((Kp.refl (fun b => b = g) _).setCell _ _ (fun _ => rfl)) H2.out.bg H2.out.sg H2.out.dg
  · exact H3.out.setCell _ _ (fun _ => H2.out.gB)
end
end Go.Proofs.Ytmgfiblnbbjjdaa
