/- The truths, sums and body of a page. -/
import Derived.Test.YtmgfiblnbbjjdaaME
set_option linter.unusedSimpArgs false
set_option linter.unusedVariables false
namespace Go.Proofs.Ytmgfiblnbbjjdaa
open Go Go.Proofs Go.RowKit

/-- 'truth', at a field of the page. -/
theorem truth_pg (T : TypeId) (w : World) (B : Nat → Prop) (g : Nat) (wr bad : Bool) (l sums body : List Int) (bv sv dv : Value) (ms : List Value) (o p : Nat) (x : Bool) (hop : 3 + o = p)
    (hB : ∀ k, w.heap.size ≤ k → B k) (hll : wr = true → l.length ≤ 999990) (hdl : ∀ k, lvB dv = some k → k < w.heap.size) (hblk : PgB T w g wr bad bv ms) (h : PgR w B g wr l sums body bv sv dv) (hms : ms[o]? = some (.bool x)) :
    Calls Try.prog 28 #[.pointer (some ⟨g, 0, none⟩), .pointer (some ⟨g, p, none⟩)] w fun e w' => ∃ bv', e = .returned (.tuple #[]) ∧
      PgB T w' g wr (nb wr bad l 1 || !decide (nv wr bad l (if x then 1 else 0) 1 < 2)) bv' (ms.set o (.bool (nv wr bad l (if x then 1 else 0) 1 == 1))) ∧
      PgR w' B g wr (nl wr bad l (if x then 1 else 0) 1) sums body bv' sv dv ∧ Kp B w w' := by
  subst hop
  have c0 : w.cell? ⟨g, 3 + o, none⟩ = some (.bool x) := by rw [cell_blk hblk]; simpa [Nat.add_comm 3 o] using hms
  have HB := Lib.hid hblk
  have H := Lib.hid h
  have HM := Lib.hid hms
  have HD := Lib.hid hdl
  clear hblk h hms hdl
  cases x
  · go_enter Try.func28, Try.ntmps28
    go_wp2_with fail
    refine (number_pg T w B g wr bad l sums body bv sv dv ms 0 1 (by omega) (by omega) (by omega) (by omega) hB hll HD.out HB.out H.out).mono ?_
    rintro e w' ⟨bv', rfl, h1, h2, h3⟩
    have hms' := HM.out
    have d0 : w'.cell? ⟨g, 3 + o, none⟩ = some (.bool false) := by rw [cell_blk h1]; simpa [Nat.add_comm 3 o] using hms'
    have d1 : w'.cell? ⟨g, 0, none⟩ = some (.bool (nb wr bad l 1)) := by rw [cell_blk h1]; rfl
    have f0 : ∀ o, w'.frozen? ⟨g, o, none⟩ = false := fun _ => frozen_blk h1 _
    have H1 := Lib.hid h1
    have H2 := Lib.hid h2
    have H3 := Lib.hid h3
    clear h1 h2 h3 hms'
    go_wp2_with (go_at_call 14; refine (must_any _ _ _ _ _ (by assumption) (f0 _)).mono ?_; rintro e w2 ⟨rfl, rfl⟩)
    go_end0
    refine ⟨rfl, bv', ?_, ?_, ?_⟩
    · have := setCell_blk (setCell_blk H1.out 0 (.bool (nb wr bad l 1 || !decide (nv wr bad l 0 1 < 2)))) (3 + o) (.bool (nv wr bad l 0 1 == 1))
      simpa [PgB, Nat.add_comm 3 o] using this
    · exact H2.out.kp (((Kp.refl (fun b => b = g) _).setCell _ _ (fun _ => rfl)).setCell _ _ (fun _ => rfl)) H2.out.bg H2.out.sg H2.out.dg
    · exact (H3.out.setCell _ _ (fun _ => H2.out.gB)).setCell _ _ (fun _ => H2.out.gB)
  · go_enter Try.func28, Try.ntmps28
    go_wp2_with fail
    refine (number_pg T w B g wr bad l sums body bv sv dv ms 1 1 (by omega) (by omega) (by omega) (by omega) hB hll HD.out HB.out H.out).mono ?_
    rintro e w' ⟨bv', rfl, h1, h2, h3⟩
    have hms' := HM.out
    have d0 : w'.cell? ⟨g, 3 + o, none⟩ = some (.bool true) := by rw [cell_blk h1]; simpa [Nat.add_comm 3 o] using hms'
    have d1 : w'.cell? ⟨g, 0, none⟩ = some (.bool (nb wr bad l 1)) := by rw [cell_blk h1]; rfl
    have f0 : ∀ o, w'.frozen? ⟨g, o, none⟩ = false := fun _ => frozen_blk h1 _
    have H1 := Lib.hid h1
    have H2 := Lib.hid h2
    have H3 := Lib.hid h3
    clear h1 h2 h3 hms'
    go_wp2_with (go_at_call 14; refine (must_any _ _ _ _ _ (by assumption) (f0 _)).mono ?_; rintro e w2 ⟨rfl, rfl⟩)
    go_end0
    refine ⟨rfl, bv', ?_, ?_, ?_⟩
    · have := setCell_blk (setCell_blk H1.out 0 (.bool (nb wr bad l 1 || !decide (nv wr bad l 1 1 < 2)))) (3 + o) (.bool (nv wr bad l 1 1 == 1))
      simpa [PgB, Nat.add_comm 3 o] using this
    · exact H2.out.kp (((Kp.refl (fun b => b = g) _).setCell _ _ (fun _ => rfl)).setCell _ _ (fun _ => rfl)) H2.out.bg H2.out.sg H2.out.dg
    · exact (H3.out.setCell _ _ (fun _ => H2.out.gB)).setCell _ _ (fun _ => H2.out.gB)

theorem has_goes (wr : Bool) : Goes 16 wr (St.has wr) := by
  intro w B g s bv sv dv hp hl
  have hl' : wr = true → s.l.length ≤ 999990 := fun e => by have := hl e; omega
  have Hl := Lib.hid hl'
  have HP := Lib.hid hp.drew
  clear hp hl hl'
  go_enter Try.func16, Try.ntmps16
  go_wp2_with fail
  go_still_tail 7, (by kernel_rfl)
  go_wp2_with fail
  refine (truth_pg 46 _ B g wr s.bad s.l s.sums s.body bv sv dv _ 4 7 s.m.has rfl HP.out.hB Hl.out HP.out.dlt HP.out.blk HP.out.r rfl).mono ?_
  rintro e w' ⟨bv', rfl, h1, h2, h3⟩
  go_wp2
  go_end0
  exact ⟨rfl, Kp.ofDrew h3, bv', sv, dv, h1, h2, { HP.out.ok with }, fun k hk => Pg.lt (HP.out.dlt k hk) h3, (fun k hk => HP.out.hB k (Nat.le_trans h3.size hk)), HP.out.s32, HP.out.slen, HP.out.blen⟩

theorem full_goes (wr : Bool) : Goes 22 wr (St.full wr) := by
  intro w B g s bv sv dv hp hl
  have hl' : wr = true → s.l.length ≤ 999990 := fun e => by have := hl e; omega
  have Hl := Lib.hid hl'
  have HP := Lib.hid hp.drew
  clear hp hl hl'
  go_enter Try.func22, Try.ntmps22
  go_wp2_with fail
  go_still_tail 7, (by kernel_rfl)
  go_wp2_with fail
  refine (truth_pg 46 _ B g wr s.bad s.l s.sums s.body bv sv dv _ 5 8 s.m.full rfl HP.out.hB Hl.out HP.out.dlt HP.out.blk HP.out.r rfl).mono ?_
  rintro e w' ⟨bv', rfl, h1, h2, h3⟩
  go_wp2
  go_end0
  exact ⟨rfl, Kp.ofDrew h3, bv', sv, dv, h1, h2, { HP.out.ok with }, fun k hk => Pg.lt (HP.out.dlt k hk) h3, (fun k hk => HP.out.hB k (Nat.le_trans h3.size hk)), HP.out.s32, HP.out.slen, HP.out.blen⟩
end Go.Proofs.Ytmgfiblnbbjjdaa
