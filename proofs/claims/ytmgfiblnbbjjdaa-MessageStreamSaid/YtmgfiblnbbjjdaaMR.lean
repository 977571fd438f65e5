/- A message is written. -/
import Derived.Test.YtmgfiblnbbjjdaaMP
import Derived.Test.YtmgfiblnbbjjdaaMK
set_option linter.unusedSimpArgs false
set_option linter.unusedVariables false
namespace Go.Proofs.Ytmgfiblnbbjjdaa
open Go Go.Proofs Go.RowKit

theorem overs (wr : Bool) {ty : Int} (h : known ty) : Overs wr ty := by
  rcases h with rfl | rfl | rfl | rfl | rfl | rfl
  · exact over_1 wr
  · exact over_2 wr
  · exact over_3 wr
  · exact over_4 wr
  · exact over_5 wr
  · exact over_6 wr

theorem fields_any (w : World) (g : Nat) (ty : Int) (h : known ty) (hc : w.cell? ⟨g, 3, none⟩ = some (.int .u8 ty)) :
    Calls Try.prog 10 #[.pointer (some ⟨g, 0, none⟩)] w fun e w' => ∃ b n, e = .returned (.slice (some ⟨b, 0, none⟩) n n) ∧ Kp (fun _ => False) w w' := by
  rcases h with rfl | rfl | rfl | rfl | rfl | rfl
  · exact (fields_1 w g hc).mono fun e w' ⟨b, he, _, hk, _⟩ => ⟨b, _, he, hk⟩
  · exact (fields_2 w g hc).mono fun e w' ⟨b, he, _, hk, _⟩ => ⟨b, _, he, hk⟩
  · exact (fields_3 w g hc).mono fun e w' ⟨b, he, _, hk, _⟩ => ⟨b, _, he, hk⟩
  · exact (fields_4 w g hc).mono fun e w' ⟨b, he, _, hk, _⟩ => ⟨b, _, he, hk⟩
  · exact (fields_5 w g hc).mono fun e w' ⟨b, he, _, hk, _⟩ => ⟨b, _, he, hk⟩
  · exact (fields_6 w g hc).mono fun e w' ⟨b, he, _, hk, _⟩ => ⟨b, _, he, hk⟩

theorem not_known {ty : Int} (h : ¬ known ty) : ¬ ty = 1 ∧ ¬ ty = 2 ∧ ¬ ty = 3 ∧ ¬ ty = 4 ∧ ¬ ty = 5 ∧ ¬ ty = 6 := by simp only [known, not_or] at h; exact h

set_option maxHeartbeats 1000000 in
theorem Write_none (w : World) (m : Mg) (sA dA : Option Addr) (sn sc dn dc : Nat) (sums : List Int) (hs : RdI w .u32 (.slice sA sn sc) sums) (hsl : sums.length ≤ 1099511627786) (hk : ¬ known m.ty) :
    Calls Try.prog 5 #[.agg (m.cells (.slice sA sn sc) (.slice dA dn dc)).toArray] w fun e w' => e = .returned (.tuple #[.slice none 0 0, .int .i64 230]) ∧ Kp (fun _ => False) w w' := by
  have he := fun (w : World) (a : Option Addr) (n c : Nat) => Lib.run_eql_slice_nil (P := Try.prog) w 48 1 a n c 0 0 Try.underlying48
  have HS : ∀ W, Kp (fun _ => False) w W → Hid (RdI W .u32 (.slice sA sn sc) sums) := fun W hW => Lib.hid (Rd.kp hs hW (fun _ _ _ x => x))
  have HK := Lib.hid hk
  clear hs hk
  unfold Mg.cells
  go_enter Try.func5, Try.ntmps5
  go_wp2_with fail
  refine (clone32 _ _ sums (HS _ (((Kp.refl _ _).alloc _).alloc _)).out hsl).mono ?_
  rintro e w1 ⟨A1, n1, c1, rfl, ho1, hk1, hb1⟩
  have hp1 := hk1.heap (alloc_new (w.alloc _) _) (fun x => x)
  rw [World.size_alloc] at hp1
  have hx1 := hk1.heap (alloc_oth (alloc_new w _) _) (fun x => x)
  have d11 : w1.cell? ⟨w.heap.size + 1, 11, none⟩ = some (.slice sA sn sc) := (cell_blk hp1 11).trans rfl
  have d3 : w1.cell? ⟨w.heap.size + 1, 3, none⟩ = some (.int .u8 m.ty) := (cell_blk hp1 3).trans rfl
  have f11 : w1.frozen? ⟨w.heap.size + 1, 11, none⟩ = false := frozen_blk hp1 11
  have HK1 := Lib.hid ((((Kp.refl (fun _ => False) w).alloc _).alloc _).trans' hk1)
  have HP1 := Lib.hid hp1
  have HX1 := Lib.hid hx1
  have HO1 := Lib.hid ho1
  have HB1 := Lib.hid hb1
  clear hp1 hx1 ho1 hb1 hk1
  go_wp2_with fail
  refine (fields_none _ _ m.ty ((cell_blk (setCell_blk HP1.out 11 (.slice A1 n1 c1)) 3).trans rfl) (not_known HK.out).1 (not_known HK.out).2.1 (not_known HK.out).2.2.1 (not_known HK.out).2.2.2.1 (not_known HK.out).2.2.2.2.1 (not_known HK.out).2.2.2.2.2).mono ?_
  rintro e w2 ⟨rfl, hk2⟩
  have HK2 := Lib.hid hk2
  clear hk2
  go_wp2
  go_ret2
  exact ⟨rfl, ((HK1.out.mono (S' := fun b => False) (fun _ _ x => x)).trans (((Kp.refl (fun b => b = w.heap.size + 1) w1).setCell ⟨w.heap.size + 1, 11, none⟩ (.slice A1 n1 c1) (fun _ => rfl)).trans HK2.out (fun _ _ x => x.elim)) (fun b hb e => by have e' : b = w.heap.size + 1 := e; omega))⟩

set_option maxHeartbeats 2000000 in
theorem Write_ok (w : World) (m : Mg) (sA dA : Option Addr) (sn sc dn dc : Nat) (sums body : List Int) (hs : RdI w .u32 (.slice sA sn sc) sums) (hd : RdI w .u8 (.slice dA dn dc) body)
    (hk : known m.ty) (hok : m.ok) (hsl : sums.length ≤ 256) (hdn : body.length ≤ 524288) (hs32 : ∀ c ∈ sums, 0 ≤ c ∧ c < 4294967296) (hdb : Byts body)
    (hrt : acts false (fns m.ty) ⟨false, (acts true (fns m.ty) ⟨false, [], m, sums, body⟩).l, Mg.bare m.ty, [], []⟩ = ⟨false, [], m, sums, body⟩)
    (hel : (acts true (fns m.ty) ⟨false, [], m, sums, body⟩).l.length ≤ 600000) (heb : Byts (acts true (fns m.ty) ⟨false, [], m, sums, body⟩).l) :
    Calls Try.prog 5 #[.agg (m.cells (.slice sA sn sc) (.slice dA dn dc)).toArray] w fun e w' => ∃ A n c, e = .returned (.tuple #[.slice A n c, .int .i64 0]) ∧
      Own w' 5 1 (.slice A n c) ((Enc 1 m.ty ++ Enc 4 (acts true (fns m.ty) ⟨false, [], m, sums, body⟩).l.length ++ (acts true (fns m.ty) ⟨false, [], m, sums, body⟩).l).map (Value.int .u8)) ∧ Kp (fun _ => False) w w' ∧ (∀ k, (Value.slice A n c).ownBlock = some k → w.heap.size ≤ k) := by
  have hdl : ∀ k, lvB (.slice dA dn dc) = some k → k < w.heap.size := fun k hk => lvB_lt hd hk
  have he := fun (w : World) (a : Option Addr) (n c : Nat) => Lib.run_eql_slice_nil (P := Try.prog) w 48 1 a n c 0 0 Try.underlying48
  have HS : ∀ W, Kp (fun _ => False) w W → Hid (RdI W .u32 (.slice sA sn sc) sums) := fun W hW => Lib.hid (Rd.kp hs hW (fun _ _ _ x => x))
  have HD : ∀ W, Kp (fun _ => False) w W → Hid (RdI W .u8 (.slice dA dn dc) body) := fun W hW => Lib.hid (Rd.kp hd hW (fun _ _ _ x => x))
  have hsn : sn ≤ 256 := by obtain ⟨A, n', c', he, h, _⟩ := hs; simp only [Value.slice.injEq] at he; have := he.2.1; simp at h; omega
  have hdn' : dn ≤ 524288 := by obtain ⟨A, n', c', he, h, _⟩ := hd; simp only [Value.slice.injEq] at he; have := he.2.1; simp at h; omega
  have HK := Lib.hid hk
  have HOK := Lib.hid hok
  have HRT := Lib.hid hrt
  have HEL := Lib.hid hel
  have HEB := Lib.hid heb
  have HS32 := Lib.hid hs32
  have HDB := Lib.hid hdb
  have HDL := Lib.hid hdl
  clear hs hd hk hok hrt hel heb hs32 hdb hdl
  unfold Mg.cells
  go_enter Try.func5, Try.ntmps5
  go_wp2_with fail
  refine (clone32 _ _ sums (HS _ (((Kp.refl _ _).alloc _).alloc _)).out (by omega)).mono ?_
  rintro e w1 ⟨A1, n1, c1, rfl, ho1, hk1, hb1⟩
  have hp1 := hk1.heap (alloc_new (w.alloc _) _) (fun x => x)
  rw [World.size_alloc] at hp1
  have hx1 := hk1.heap (alloc_oth (alloc_new w _) _) (fun x => x)
  have d11 : w1.cell? ⟨w.heap.size + 1, 11, none⟩ = some (.slice sA sn sc) := (cell_blk hp1 11).trans rfl
  have d3 : w1.cell? ⟨w.heap.size + 1, 3, none⟩ = some (.int .u8 m.ty) := (cell_blk hp1 3).trans rfl
  have f11 : w1.frozen? ⟨w.heap.size + 1, 11, none⟩ = false := frozen_blk hp1 11
  have HK1 := Lib.hid ((((Kp.refl (fun _ => False) w).alloc _).alloc _).trans' hk1)
  have HP1 := Lib.hid hp1
  have HX1 := Lib.hid hx1
  have HO1 := Lib.hid ho1
  have HB1 := Lib.hid hb1
  clear hp1 hx1 ho1 hb1 hk1
  go_wp2_with fail
  refine (fields_any _ _ m.ty HK.out ((cell_blk (setCell_blk HP1.out 11 (.slice A1 n1 c1)) 3).trans rfl)).mono ?_
  rintro e w2 ⟨b2, n2, rfl, hk2⟩
  have hkg : Kp (fun b => b = w.heap.size + 1) w1 w2 := ((Kp.refl (fun b => b = w.heap.size + 1) w1).setCell ⟨w.heap.size + 1, 11, none⟩ (.slice A1 n1 c1) (fun _ => rfl)).trans hk2 (fun _ _ x => x.elim)
  have hx2 := hkg.heap HX1.out (by simp)
  have hp2 := hk2.heap (setCell_blk HP1.out 11 (.slice A1 n1 c1)) (fun x => x)
  have hK2 : Kp (fun _ => False) w w2 := HK1.out.trans hkg (fun b hb e => by have e' : b = w.heap.size + 1 := e; omega)
  have k14 : w2.cell? ⟨w.heap.size, 14, none⟩ = some (.slice dA dn dc) := (cell_blk hx2 14).trans rfl
  have k8 : w2.cell? ⟨w.heap.size, 8, none⟩ = some (.slice sA sn sc) := (cell_blk hx2 8).trans rfl
  have hlt2 := lt_of_blk hp2
  have HX2 := Lib.hid hx2
  have HP2 := Lib.hid hp2
  have HK2 := Lib.hid hK2
  have HKG := Lib.hid hkg
  clear hx2 hp2 hK2 hkg hk2 d11 d3 f11
  go_wp2_with fail
  have hB1 : ∀ k, (Value.slice A1 n1 c1).ownBlock = some k → w.heap.size + 2 ≤ k := fun k hk => by have := HB1.out k hk; simp at this; omega
  have HPG : Hid (Pg w2 (fun k => w.heap.size + 1 ≤ k) (w.heap.size + 1) true ⟨false, [], m, sums, body⟩ (.slice none 0 0) (.slice A1 n1 c1) (.slice dA dn dc)) := by
    refine ⟨?_, ?_, HOK.out, fun k hk => Nat.lt_of_lt_of_le (HDL.out k hk) HK2.out.size, fun k hk => by omega, HS32.out, fun _ => hsl, fun _ => hdn⟩
    · have := HP2.out
      simpa [PgB, Mg.cells] using this
    · exact { own := fun _ => .inl ⟨rfl, rfl⟩, rd := (by simp), byts := (by simp), len := fun _ => (by simp), sums := HO1.out.kp HKG.out (fun k hk _ e => by have := hB1 k hk; have e' : k = w.heap.size + 1 := e; omega), body := (HD w2 HK2.out).out,
              gB := Nat.le_refl _, bB := (by simp [Value.ownBlock, lvB]), sB := fun k hk => by have := hB1 k hk; omega, bg := (by simp [Value.ownBlock, lvB]), sg := fun k hk => by have := hB1 k hk; omega, dg := fun k hk => by have := HDL.out k hk; omega,
              bs := (by simp [Value.ownBlock, lvB]), bd := (by simp [Value.ownBlock, lvB]), ds := fun k hk h => by have := HDL.out k hk; have := hB1 k h; omega, blt := (by simp [Value.ownBlock, lvB]), dB := (by simp) }
  refine (overs true HK.out w2 _ _ _ _ _ _ HPG.out rfl ⟨fun _ => ⟨by simp, hsl⟩, by simp⟩).mono ?_
  rintro e w3 ⟨rfl, hk3, bv3, sv3, dv3, hq3⟩
  generalize hE : acts true (fns m.ty) ⟨false, [], m, sums, body⟩ = E at *
  have hb3 := hq3.r.own rfl
  obtain ⟨A3, n3, c3, rfl, hn3, _, _⟩ := hb3.len
  have hn3' : E.l.length = n3 := by simpa using hn3
  have hx3 := hk3.heap HX2.out (by simp)
  have hK3 : Kp (fun _ => False) w w3 := HK2.out.trans hk3 (fun b hb e => by have e' : w.heap.size + 1 ≤ b := e; omega)
  have hp3 := hq3.blk
  have j2 : w3.cell? ⟨w.heap.size + 1, 2, none⟩ = some (.slice A3 n3 c3) := (cell_blk hp3 2).trans rfl
  have j0 : w3.cell? ⟨w.heap.size, 0, none⟩ = some (.int .u8 m.ty) := (cell_blk hx3 0).trans rfl
  have hlt3 := lt_of_blk hp3
  have hlx3 := lt_of_blk hx3
  have HB3 := Lib.hid hb3.rd
  have HN3 := Lib.hid hn3'
  have HX3 := Lib.hid hx3
  have HP3 := Lib.hid hp3
  have HK3 := Lib.hid hK3
  have HE := Lib.hid hE
  have HBLT := Lib.hid hq3.r.blt
  clear hk3 hq3 hb3 hx3 hp3 hK3 hn3 hn3' hE k14 k8 HP2 HP1 HO1 HB1 hB1 HPG HKG HX1
  go_wp2_with fail
  go_still_tail 10, (by kernel_rfl)
  go_wp2_with fail
  have hy := alloc_new w3 (.cells #[.bool false, .bool false, .slice A3 n3 c3, .int .u8 m.ty, .int .u32 0, .int .u32 0, .int .u32 0, .bool false, .bool false, .int .u16 0, .int .u16 0, .slice none 0 0, .int .u32 0, .int .u8 0, .int .u16 0, .int .u16 0, .int .u32 0, .slice none 0 0] 46)
  have hkw : Kp (fun _ => False) w3 (w3.alloc (.cells #[.bool false, .bool false, .slice A3 n3 c3, .int .u8 m.ty, .int .u32 0, .int .u32 0, .int .u32 0, .bool false, .bool false, .int .u16 0, .int .u16 0, .slice none 0 0, .int .u32 0, .int .u8 0, .int .u16 0, .int .u16 0, .int .u32 0, .slice none 0 0] 46)).drew := ((Kp.refl _ w3).alloc _).drew
  have HPY : Hid (Pg (w3.alloc (.cells #[.bool false, .bool false, .slice A3 n3 c3, .int .u8 m.ty, .int .u32 0, .int .u32 0, .int .u32 0, .bool false, .bool false, .int .u16 0, .int .u16 0, .slice none 0 0, .int .u32 0, .int .u8 0, .int .u16 0, .int .u16 0, .int .u32 0, .slice none 0 0] 46)).drew (fun k => w3.heap.size ≤ k) w3.heap.size false ⟨false, E.l, Mg.bare m.ty, [], []⟩ (.slice A3 n3 c3) (.slice none 0 0) (.slice none 0 0)) := by
    have hok := HOK.out
    refine ⟨?_, ?_, ⟨hok.ty, by simp [Mg.bare], by simp [Mg.bare], by simp [Mg.bare], by simp [Mg.bare], by simp [Mg.bare], by simp [Mg.bare], by simp [Mg.bare], by simp [Mg.bare], by simp [Mg.bare], by simp [Mg.bare]⟩, (by simp [Value.ownBlock, lvB]), fun k hk => Nat.le_trans hkw.size hk, (by simp), (by simp), (by simp)⟩
    · exact hy
    · exact { own := (by simp), rd := fun _ => Rd.kp HB3.out hkw (fun _ _ _ x => x), byts := fun _ => HEB.out, len := (by simp), sums := .inl ⟨rfl, rfl⟩, body := ⟨none, 0, 0, rfl, by simp, by omega, by omega, by simp⟩,
              gB := Nat.le_refl _, bB := (by simp), sB := (by simp [Value.ownBlock, lvB]), bg := fun k hk => by have := HBLT.out k hk; omega, sg := (by simp [Value.ownBlock, lvB]), dg := (by simp [Value.ownBlock, lvB]),
              bs := (by simp [Value.ownBlock, lvB]), bd := (by simp), ds := (by simp [Value.ownBlock, lvB]), blt := fun k hk => Nat.lt_of_lt_of_le (HBLT.out k hk) hkw.size, dB := (by simp [Value.ownBlock, lvB]) }
  refine (overs false HK.out _ _ _ _ _ _ _ HPY.out rfl ⟨by simp, fun _ => by have := HEL.out; show E.l.length ≤ _; omega⟩).mono ?_
  rintro e w4 ⟨rfl, hk4, bv4, sv4, dv4, hq4⟩
  have hrt := HRT.out
  rw [hrt] at hq4
  obtain ⟨A4, n4, c4, rfl, hn4, _, _⟩ := hq4.r.sums.len
  obtain ⟨D4, m4, k4, rfl, hm4, _, _, _⟩ := hq4.r.body
  have hn4' : sums.length = n4 := by simpa using hn4
  have hm4' : body.length = m4 := by simpa using hm4
  have hk34 : Kp (fun k => w3.heap.size ≤ k) w3 w4 := (hkw.mono (fun _ _ x => x.elim)).trans' hk4
  have hK4 : Kp (fun _ => False) w w4 := HK3.out.trans hk34 (fun b hb e => by have e' : w3.heap.size ≤ b := e; have := HK3.out.size; omega)
  have hsn4 : n4 = sn := by obtain ⟨A, n', c', he, h, _⟩ := (HS w4 hK4).out; simp only [Value.slice.injEq] at he; have := he.2.1; simp at h; omega
  have hdm4 : m4 = dn := by obtain ⟨A, n', c', he, h, _⟩ := (HD w4 hK4).out; simp only [Value.slice.injEq] at he; have := he.2.1; simp at h; omega
  subst hsn4
  subst hdm4
  have hx4 := hk34.heap HX3.out (by omega)
  have hp4 := hk34.heap HP3.out (by omega)
  have hr4 : RdI w4 .u8 (.slice A3 n3 c3) E.l := Rd.kp HB3.out hk34 (fun k hk hlt => by omega)
  have yc0 : w4.cell? ⟨w3.heap.size, 3, none⟩ = some (.int .u8 m.ty) := (cell_blk hq4.blk 3).trans rfl
  have yc1 : w4.cell? ⟨w3.heap.size, 4, none⟩ = some (.int .u32 m.life) := (cell_blk hq4.blk 4).trans rfl
  have yc2 : w4.cell? ⟨w3.heap.size, 5, none⟩ = some (.int .u32 m.frame) := (cell_blk hq4.blk 5).trans rfl
  have yc3 : w4.cell? ⟨w3.heap.size, 6, none⟩ = some (.int .u32 m.base) := (cell_blk hq4.blk 6).trans rfl
  have yc4 : w4.cell? ⟨w3.heap.size, 7, none⟩ = some (.bool m.has) := (cell_blk hq4.blk 7).trans rfl
  have yc5 : w4.cell? ⟨w3.heap.size, 8, none⟩ = some (.bool m.full) := (cell_blk hq4.blk 8).trans rfl
  have yc6 : w4.cell? ⟨w3.heap.size, 9, none⟩ = some (.int .u16 m.w) := (cell_blk hq4.blk 9).trans rfl
  have yc7 : w4.cell? ⟨w3.heap.size, 10, none⟩ = some (.int .u16 m.h) := (cell_blk hq4.blk 10).trans rfl
  have yc8 : w4.cell? ⟨w3.heap.size, 11, none⟩ = some (.slice A4 n4 c4) := (cell_blk hq4.blk 11).trans rfl
  have yc9 : w4.cell? ⟨w3.heap.size, 12, none⟩ = some (.int .u32 m.seq) := (cell_blk hq4.blk 12).trans rfl
  have yc10 : w4.cell? ⟨w3.heap.size, 13, none⟩ = some (.int .u8 m.ek) := (cell_blk hq4.blk 13).trans rfl
  have yc11 : w4.cell? ⟨w3.heap.size, 14, none⟩ = some (.int .u16 m.ex) := (cell_blk hq4.blk 14).trans rfl
  have yc12 : w4.cell? ⟨w3.heap.size, 15, none⟩ = some (.int .u16 m.ey) := (cell_blk hq4.blk 15).trans rfl
  have yc13 : w4.cell? ⟨w3.heap.size, 16, none⟩ = some (.int .u32 m.ec) := (cell_blk hq4.blk 16).trans rfl
  have yc14 : w4.cell? ⟨w3.heap.size, 17, none⟩ = some (.slice D4 m4 k4) := (cell_blk hq4.blk 17).trans rfl
  have xc0 : w4.cell? ⟨w.heap.size, 0, none⟩ = some (.int .u8 m.ty) := (cell_blk hx4 0).trans rfl
  have xc1 : w4.cell? ⟨w.heap.size, 1, none⟩ = some (.int .u32 m.life) := (cell_blk hx4 1).trans rfl
  have xc2 : w4.cell? ⟨w.heap.size, 2, none⟩ = some (.int .u32 m.frame) := (cell_blk hx4 2).trans rfl
  have xc3 : w4.cell? ⟨w.heap.size, 3, none⟩ = some (.int .u32 m.base) := (cell_blk hx4 3).trans rfl
  have xc4 : w4.cell? ⟨w.heap.size, 4, none⟩ = some (.bool m.has) := (cell_blk hx4 4).trans rfl
  have xc5 : w4.cell? ⟨w.heap.size, 5, none⟩ = some (.bool m.full) := (cell_blk hx4 5).trans rfl
  have xc6 : w4.cell? ⟨w.heap.size, 6, none⟩ = some (.int .u16 m.w) := (cell_blk hx4 6).trans rfl
  have xc7 : w4.cell? ⟨w.heap.size, 7, none⟩ = some (.int .u16 m.h) := (cell_blk hx4 7).trans rfl
  have xc8 : w4.cell? ⟨w.heap.size, 8, none⟩ = some (.slice sA n4 sc) := (cell_blk hx4 8).trans rfl
  have xc9 : w4.cell? ⟨w.heap.size, 9, none⟩ = some (.int .u32 m.seq) := (cell_blk hx4 9).trans rfl
  have xc10 : w4.cell? ⟨w.heap.size, 10, none⟩ = some (.int .u8 m.ek) := (cell_blk hx4 10).trans rfl
  have xc11 : w4.cell? ⟨w.heap.size, 11, none⟩ = some (.int .u16 m.ex) := (cell_blk hx4 11).trans rfl
  have xc12 : w4.cell? ⟨w.heap.size, 12, none⟩ = some (.int .u16 m.ey) := (cell_blk hx4 12).trans rfl
  have xc13 : w4.cell? ⟨w.heap.size, 13, none⟩ = some (.int .u32 m.ec) := (cell_blk hx4 13).trans rfl
  have xc14 : w4.cell? ⟨w.heap.size, 14, none⟩ = some (.slice dA m4 dc) := (cell_blk hx4 14).trans rfl
  have HP4 := Lib.hid hp4
  have HK4 := Lib.hid hK4
  have HR4 := Lib.hid hr4
  have HX4 := Lib.hid hx4
  have HSM := Lib.hid hq4.r.sums.rd
  have HBD := Lib.hid hq4.r.body
  clear hq4 hk34 hx4 hp4 hK4 hr4 hrt hn4 hm4 hy hkw hk4 HPY j0 j2
  go_wp2_with fail
  go_still_tail 5, (by kernel_rfl)
  go_wp2_with fail
  refine (same_eq _ m A4 sA D4 dA n4 c4 sc m4 k4 dc sums body (Rd.kp HSM.out ((Kp.refl (fun _ => False) w4).drew) (fun _ _ _ x => x)) (HS _ HK4.out.drew).out (Rd.kp HBD.out ((Kp.refl (fun _ => False) w4).drew) (fun _ _ _ x => x)) (HD _ HK4.out.drew).out).mono ?_
  rintro e w5 ⟨rfl, hk5'⟩
  have hk5 := Kp.ofDrew hk5'
  have hx5 := hk5.heap HX4.out (fun x => x)
  have hp5 := hk5.heap HP4.out (fun x => x)
  have hr5 : RdI w5 .u8 (.slice A3 n3 c3) E.l := Rd.kp HR4.out hk5 (fun _ _ _ x => x)
  have hK5 := HK4.out.trans' hk5
  have j0 : w5.cell? ⟨w.heap.size, 0, none⟩ = some (.int .u8 m.ty) := (cell_blk hx5 0).trans rfl
  have hlt5 := lt_of_blk hp5
  have hlx5 := lt_of_blk hx5
  have HX5 := Lib.hid hx5
  have HP5 := Lib.hid hp5
  have HR5 := Lib.hid hr5
  have HK5 := Lib.hid hK5
  clear hk5 hk5' hx5 hp5 hr5 hK5 xc0 yc0 xc1 yc1 xc2 yc2 xc3 yc3 xc4 yc4 xc5 yc5 xc6 yc6 xc7 yc7 xc8 yc8 xc9 yc9 xc10 yc10 xc11 yc11 xc12 yc12 xc13 yc13 xc14 yc14
  have ety : IntKind.u64.wrap m.ty = m.ty := by have := HOK.out.ty; rw [IntKind.wrap_u64]; omega
  have hn3 : E.l.length = n3 := HN3.out
  have hn3b : n3 ≤ 600000 := by have := HEL.out; omega
  have en3 : IntKind.u64.wrap (n3 : Int) = n3 := by rw [IntKind.wrap_u64]; omega
  clear hn3
  go_wp2_with fail
  have hz5 := alloc_new w5 (.cells #[.bool false, .bool true, .slice none 0 0] 44)
  refine (number_wr 44 w5.heap.size false (.slice none 0 0) [] [] m.ty 1 _ (by omega) HOK.out.ty.1 (by have := HOK.out.ty; omega) (by simp) hz5 (.inl ⟨rfl, rfl⟩) (by simp [Value.ownBlock, lvB])).mono ?_
  rintro e w6 ⟨bv6, rfl, hz6, ho6, hb6, hk6⟩
  have hk56 : Kp (fun k => k = w5.heap.size) w5 w6 := (((Kp.refl (fun k => k = w5.heap.size) w5).alloc _).trans hk6 (fun b hb e => by rcases e with e | e; exact e; simp [Value.ownBlock] at e))
  have hp6 := hk56.heap HP5.out (by omega)
  have j2 : w6.cell? ⟨w.heap.size + 1, 2, none⟩ = some (.slice A3 n3 c3) := (cell_blk hp6 2).trans rfl
  have HP6 := Lib.hid hp6
  have HZ6 := Lib.hid hz6
  have HO6 := Lib.hid ho6
  have HK6 := Lib.hid hk56
  have HB6 : Hid (∀ k, bv6.ownBlock = some k → w5.heap.size + 1 ≤ k) := fun k hk => by have := hb6 k hk; simp [Value.ownBlock] at this; omega
  clear hz5 hz6 ho6 hb6 hk6 hk56 hp6 j0
  go_wp2_with fail
  refine (number_wr 44 w5.heap.size false bv6 [] ([] ++ Enc 1 m.ty) (n3 : Int) 4 _ (by omega) (by omega) (by omega) (by simp [Enc_len]) HZ6.out HO6.out (fun k hk => by have := HB6.out k hk; omega)).mono ?_
  rintro e w7 ⟨bv7, rfl, hz7, ho7, hb7, hk7⟩
  obtain ⟨A7, n7, c7, rfl, _, _, _⟩ := ho7.len
  have hp7 := hk7.heap HP6.out (fun e => by rcases e with e | e; omega; have := HB6.out _ e; omega)
  have hkx7 : Kp (fun k => w5.heap.size ≤ k) w5 w7 := (HK6.out.mono (fun b hb e => by have e' : b = w5.heap.size := e; show w5.heap.size ≤ b; omega)).trans hk7 (fun b hb e => by rcases e with e | e; show w5.heap.size ≤ b; omega; have := HB6.out _ e; show w5.heap.size ≤ b; omega)
  have hr7 : RdI w7 .u8 (.slice A3 n3 c3) E.l := Rd.kp HR5.out hkx7 (fun k hk hlt => by omega)
  have hK7 : Kp (fun _ => False) w w7 := HK5.out.trans hkx7 (fun b hb e => by have e' : w5.heap.size ≤ b := e; have := HK5.out.size; omega)
  have l2 : w7.cell? ⟨w.heap.size + 1, 2, none⟩ = some (.slice A3 n3 c3) := (cell_blk hp7 2).trans rfl
  have l3 : w7.cell? ⟨w5.heap.size, 2, none⟩ = some (.slice A7 n7 c7) := (cell_blk hz7 2).trans rfl
  have hb7' : ∀ k, (Value.slice A7 n7 c7).ownBlock = some k → w.heap.size ≤ k := fun k hk => by
    have := HK5.out.size; have h6 := HK6.out.size
    rcases hb7 k hk with h | h
    · have := HB6.out k h; omega
    · omega
  have hlen : ([] ++ Enc 1 m.ty ++ Enc 4 (n3 : Int)).length + E.l.length ≤ 1099511627786 := by have := HEL.out; simp [Enc_len]; omega
  have HO7 : ∀ W, Kp (fun _ => False) w7 W → Hid (Own W 5 1 (.slice A7 n7 c7) (([] ++ Enc 1 m.ty ++ Enc 4 (n3 : Int)).map (Value.int .u8))) := fun W hW => Lib.hid (ho7.kp hW (fun _ _ _ x => x))
  have HR7 : ∀ W, Kp (fun _ => False) w7 W → Hid (RdI W .u8 (.slice A3 n3 c3) E.l) := fun W hW => Lib.hid (Rd.kp hr7 hW (fun _ _ _ x => x))
  have HK7 := Lib.hid hK7
  have HB7 := Lib.hid hb7'
  clear hz7 ho7 hb7 hk7 hp7 hkx7 hr7 hK7 hb7' j2
  go_wp2_with fail
  go_region_law (
    refine step_appB _ rfl (.tmp 77) (.tmp 82) rfl _ _ rfl (HO7 _ ((Kp.refl _ w7).drew)).out _ _ rfl (HR7 _ ((Kp.refl _ w7).drew)).out hlen ?_
    intro A8 n8 m8 w8 ho8 hk8 hb8
    have HO8 := Lib.hid ho8
    have HK8 := Lib.hid hk8
    have HB8 := Lib.hid hb8
    clear ho8 hk8 hb8)
  all_goals
    go_wp2
    go_ret2
    refine ⟨A8, n8, m8, rfl, ?_, HK7.out.trans (Kp.ofDrew HK8.out) (fun b hb e => by have := HB7.out b e; omega), fun k hk => ?_⟩
    · have h := HO8.out
      rw [HE.out, HN3.out]
      simpa using h
    · rcases HB8.out k hk with h | h
      · exact HB7.out k h
      · exact Nat.le_trans HK7.out.size h
end Go.Proofs.Ytmgfiblnbbjjdaa
