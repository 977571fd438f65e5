/- A message is read, whole. -/
import Derived.Test.YtmgfiblnbbjjdaaMS
set_option linter.unusedSimpArgs false
set_option linter.unusedVariables false
namespace Go.Proofs.Ytmgfiblnbbjjdaa
open Go Go.Proofs Go.RowKit

set_option maxHeartbeats 4000000 in
theorem Read_full (w : World) (g off n c : Nat) (ty : Int) (l : List Int) (m : Mg) (sums body : List Int) (N : Nat) (hk : known ty) (hr : RdI w .u8 (.slice (some ⟨g, off, none⟩) n c) l) (hhd : l.headD 0 = ty) (hby : Byts l) (hn5 : 5 + N ≤ n)
    (hN : N ≤ 524297) (hNe : Num ((l.drop 1).take 4) = (N : Int)) (hty : 0 ≤ ty ∧ ty < 256)
    (hrt : acts false (fns ty) ⟨false, (l.drop 5).take N, Mg.bare ty, [], []⟩ = ⟨false, [], m, sums, body⟩) :
    Calls Try.prog 6 #[.slice (some ⟨g, off, none⟩) n c] w fun e w' => ∃ S sn sc D dn dc, e = .returned (.tuple #[.agg (m.cells (.slice S sn sc) (.slice D dn dc)).toArray, .int .i64 (5 + N), .int .i64 0]) ∧
      RdI w' .u32 (.slice S sn sc) sums ∧ RdI w' .u8 (.slice D dn dc) body ∧ Kp (fun _ => False) w w' := by
  have he := fun (w : World) (a : Option Addr) (n c : Nat) => Lib.run_eql_slice_nil (P := Try.prog) w 48 1 a n c 0 0 Try.underlying48
  obtain ⟨hln, hnc, hc63⟩ := hr.n
  have hne : l ≠ [] := by intro e; subst e; simp at hln; omega
  have hc : w.cell? ⟨g, off, none⟩ = some (.int .u8 ty) := by
    obtain ⟨g', o', he, h⟩ := hr.first hne
    cases he
    rw [← hhd]; exact h
  have hgl := lt_of_cell hc
  have hgl' : g < w.heap.size := hgl
  have hsub := Rd.sub hr 1 5 (by omega) (by omega)
  rw [if_neg (by omega)] at hsub
  have hsub2 := Rd.sub hr 5 (5 + N) (by omega) (by omega)
  rw [show 5 + N - 5 = N from by omega] at hsub2
  obtain ⟨A5', hA5⟩ : ∃ A, (if c = 5 then some (⟨g, off, none⟩ : Addr) else some ⟨g, off + 5, none⟩) = A := ⟨_, rfl⟩
  rw [hA5] at hsub2
  have hA5g : ∀ k, (Value.slice A5' N (c - 5)).ownBlock = some k → k = g := fun k hk => by
    subst hA5
    by_cases h : c = 5 <;> simp [Value.ownBlock, h] at hk <;> omega
  have HA5G := Lib.hid hA5g
  have hl4 : ((l.drop 1).take 4).length = 4 := by simp; omega
  have hlN : ((l.drop 5).take N).length = N := by simp; omega
  have HS := fun W (hW : Kp (fun _ => False) w W) => Lib.hid (Rd.kp hsub hW (fun _ _ _ x => x))
  have HS2 := fun W (hW : Kp (fun _ => False) w W) => Lib.hid (Rd.kp hsub2 hW (fun _ _ _ x => x))
  have HK := Lib.hid hk
  have HB4 := Lib.hid ((hby.drop 1).take 4)
  have HBN := Lib.hid ((hby.drop 5).take N)
  have HL4 := Lib.hid hl4
  have HLN := Lib.hid hlN
  have HNE := Lib.hid hNe
  have HRT := Lib.hid hrt
  have HTY := Lib.hid hty
  have eN : IntKind.i64.wrap (N : Int) = N := IntWalk.i64_in _ (by omega)
  clear hk hgl hr hhd hby hln hne hsub hsub2 hl4 hlN hNe hrt hty hA5g
  go_enter Try.func6, Try.ntmps6
  go_wp2_with fail
  have hx := alloc_new (w.alloc (.cells #[.int .u8 0, .int .u32 0, .int .u32 0, .int .u32 0, .bool false, .bool false, .int .u16 0, .int .u16 0, .slice none 0 0, .int .u32 0, .int .u8 0, .int .u16 0, .int .u16 0, .int .u32 0, .slice none 0 0] 30)) (.cells #[.bool false, .bool false, .slice none 0 0, .int .u8 ty, .int .u32 0, .int .u32 0, .int .u32 0, .bool false, .bool false, .int .u16 0, .int .u16 0, .slice none 0 0, .int .u32 0, .int .u8 0, .int .u16 0, .int .u16 0, .int .u32 0, .slice none 0 0] 46)
  rw [World.size_alloc] at hx
  refine (fields_any _ _ ty HK.out ((cell_blk hx 3).trans rfl)).mono ?_
  rintro e w2 ⟨b2, n2, rfl, hk2⟩
  have hr2 := hk2.heap (alloc_oth (alloc_new w _) _) (fun x => x)
  have HKK2 := Lib.hid ((((Kp.refl (fun _ => False) w).alloc _).alloc _).trans' hk2)
  have HX2 := Lib.hid (hk2.heap hx (fun x => x))
  have HR2 := Lib.hid hr2
  have hlr := lt_of_blk hr2
  have hlx := lt_of_blk HX2.out
  clear hr2 hx hk2
  go_wp2_with fail
  have hh := alloc_new w2 (.cells #[.bool false, .bool false, .slice (some ⟨g, off + 1, none⟩) 4 (c - 1)] 44)
  have hw2 := ((Kp.refl (fun _ => False) w2).alloc (.cells #[.bool false, .bool false, .slice (some ⟨g, off + 1, none⟩) 4 (c - 1)] 44))
  have hgl2 : g < w2.heap.size := Nat.lt_of_lt_of_le hgl' HKK2.out.size
  refine (number_rd 44 w2.heap.size false (.slice (some ⟨g, off + 1, none⟩) 4 (c - 1)) [] ((l.drop 1).take 4) 0 4 _ (by omega) (by omega) hh (HS _ (HKK2.out.trans' hw2)).out HB4.out (fun k hk => by simp [Value.ownBlock] at hk; omega)).mono ?_
  rintro e w3 ⟨bv3, rfl, _, _, _, hk3, _⟩
  have hv : nV false ((l.drop 1).take 4) 4 = (N : Int) := by
    unfold nV nB
    rw [HL4.out]
    simp only [Bool.false_or, Nat.le_refl, decide_true, Bool.not_true, Bool.false_eq_true, if_false]
    rw [List.take_of_length_le (by rw [HL4.out]; exact Nat.le_refl _)]; exact HNE.out
  rw [hv]
  have hk23 : Kp (fun k => k = w2.heap.size) w2 w3 := (hw2.mono (fun _ _ x => x.elim)).trans' hk3
  have hr3 := hk23.heap HR2.out (by omega)
  have hx3 := hk23.heap HX2.out (by omega)
  have HK3 : Hid (Kp (fun _ => False) w w3) := HKK2.out.trans hk23 (fun b hb e => by have e' : b = w2.heap.size := e; have := HKK2.out.size; omega)
  have x2 : w3.cell? ⟨w.heap.size + 1, 2, none⟩ = some (.slice none 0 0) := (cell_blk hx3 2).trans rfl
  have fx2 : w3.frozen? ⟨w.heap.size + 1, 2, none⟩ = false := frozen_blk hx3 2
  have hlx3 := lt_of_blk hx3
  have HR3 := Lib.hid hr3
  have HX3 := Lib.hid hx3
  have hgl3 : g < w3.heap.size := Nat.lt_of_lt_of_le hgl' HK3.out.size
  clear hv hh hw2 hk3 hk23 hr3 hx3 hlr hlx
  go_wp2_with fail
  have hx4 := setCell_blk HX3.out 2 (.slice A5' N (c - 5))
  have hk4 : Kp (fun k => k = w.heap.size + 1) w3 (w3.setCell ⟨w.heap.size + 1, 2, none⟩ (.slice A5' N (c - 5))) := (Kp.refl (fun k => k = w.heap.size + 1) w3).setCell ⟨w.heap.size + 1, 2, none⟩ _ (fun _ => rfl)
  have hK4 : Kp (fun _ => False) w (w3.setCell ⟨w.heap.size + 1, 2, none⟩ (.slice A5' N (c - 5))) := HK3.out.trans hk4 (fun b hb e => by have e' : b = w.heap.size + 1 := e; omega)
  have hr4 := hk4.heap HR3.out (by simp)
  have HPG : Hid (Pg (w3.setCell ⟨w.heap.size + 1, 2, none⟩ (.slice A5' N (c - 5))) (fun k => w.heap.size + 1 ≤ k) (w.heap.size + 1) false ⟨false, (l.drop 5).take N, Mg.bare ty, [], []⟩ (.slice A5' N (c - 5)) (.slice none 0 0) (.slice none 0 0)) := by
    refine ⟨?_, ?_, ⟨HTY.out, by simp [Mg.bare], by simp [Mg.bare], by simp [Mg.bare], by simp [Mg.bare], by simp [Mg.bare], by simp [Mg.bare], by simp [Mg.bare], by simp [Mg.bare], by simp [Mg.bare], by simp [Mg.bare]⟩, (by simp [Value.ownBlock, lvB]), fun k hk => by have := hK4.size; have := lt_of_blk hx4; omega, (by simp), (by simp), (by simp)⟩
    · simpa [PgB, Mg.cells, Mg.bare] using hx4
    · exact { own := (by simp), rd := fun _ => (HS2 _ hK4).out, byts := fun _ => HBN.out, len := (by simp), sums := .inl ⟨rfl, rfl⟩, body := ⟨none, 0, 0, rfl, by simp, by omega, by omega, by simp⟩,
              gB := Nat.le_refl _, bB := (by simp), sB := (by simp [Value.ownBlock, lvB]), bg := fun k hk => by have := HA5G.out k hk; omega, sg := (by simp [Value.ownBlock, lvB]), dg := (by simp [Value.ownBlock, lvB]),
              bs := (by simp [Value.ownBlock, lvB]), bd := (by simp), ds := (by simp [Value.ownBlock, lvB]), blt := fun k hk => by have := HA5G.out k hk; have := hK4.size; omega, dB := (by simp [Value.ownBlock, lvB]) }
  refine (overs false HK.out _ _ _ _ _ _ _ HPG.out rfl ⟨by simp, fun _ => by have := HLN.out; show ((l.drop 5).take N).length ≤ _; omega⟩).mono ?_
  rintro e w5 ⟨rfl, hk5, bv5, sv5, dv5, hq5⟩
  rw [HRT.out] at hq5
  obtain ⟨A5, n5, c5, rfl, hn5', _, _⟩ := hq5.r.sums.len
  obtain ⟨D5, m5, d5, rfl, hm5, _, _, _⟩ := hq5.r.body
  obtain ⟨A6, n6, c6, rfl, hn6, _, _, _⟩ := hq5.r.rd rfl
  have hn60 : n6 = 0 := by simpa using hn6.symm
  subst hn60
  have hr5 := hk5.heap hr4 (by omega)
  have hK5 : Kp (fun _ => False) w w5 := hK4.trans hk5 (fun b hb e => by have e' : w.heap.size + 1 ≤ b := e; omega)
  have z0 : w5.cell? ⟨w.heap.size + 1, 0, none⟩ = some (.bool false) := (cell_blk hq5.blk 0).trans rfl
  have z2 : w5.cell? ⟨w.heap.size + 1, 2, none⟩ = some (.slice A6 0 c6) := (cell_blk hq5.blk 2).trans rfl
  have hx5 := hq5.blk
  have HSM := Lib.hid hq5.r.sums.rd
  have HBD := Lib.hid hq5.r.body
  have HSG := Lib.hid hq5.r.sg
  have HDG := Lib.hid hq5.r.dg
  have HSB := Lib.hid hq5.r.sB
  have HDB := Lib.hid (hq5.r.dB rfl)
  have HX5 := Lib.hid hx5
  have HR5 := Lib.hid hr5
  have HK5 := Lib.hid hK5
  clear hk4 hK4 hr4 hx4 hk5 hq5 hx5 hr5 hK5 hn5' hm5 hn6 HPG x2 fx2
  have fz : w5.drew.frozen? ⟨w.heap.size + 1, 0, none⟩ = false := frozen_blk (w := w5.drew) HX5.out 0
  have zz : w5.drew.cell? ⟨w.heap.size + 1, 0, none⟩ = some (.bool false) := z0
  go_wp2_with fail
  go_still_tail 11, (by kernel_rfl)
  go_wp2_with fail
  refine (must_any (w.heap.size + 1) 0 false _ _ zz fz).mono ?_
  rintro e w6 ⟨rfl, hw6⟩
  have hk6 : Kp (fun k => k = w.heap.size + 1) w5 w6 := by rw [hw6]; exact ((Kp.refl (fun k => k = w.heap.size + 1) w5).drew).setCell ⟨w.heap.size + 1, 0, none⟩ _ (fun _ => rfl)
  have hx6 : w6.heap[w.heap.size + 1]? = some (.cells (.bool false :: .bool false :: .slice A6 0 c6 :: m.cells (.slice A5 n5 c5) (.slice D5 m5 d5)).toArray 46 (0, 0)) := by
    rw [hw6]; have := setCell_blk (w := w5.drew) HX5.out 0 (.bool (false || !true)); simpa using this
  have hr6 := hk6.heap HR5.out (by simp)
  have hK6 : Kp (fun _ => False) w w6 := HK5.out.trans hk6 (fun b hb e => by have e' : b = w.heap.size + 1 := e; omega)
  have hsm6 : RdI w6 .u32 (.slice A5 n5 c5) sums := Rd.kp HSM.out hk6 (fun k hk _ => HSG.out k hk)
  have hbd6 : RdI w6 .u8 (.slice D5 m5 d5) body := Rd.kpl HBD.out hk6 (fun k hk _ => HDG.out k hk)
  have zb : w6.cell? ⟨w.heap.size + 1, 0, none⟩ = some (.bool false) := (cell_blk hx6 0).trans rfl
  have q : ∀ o, w6.frozen? ⟨w.heap.size, o, none⟩ = false := fun o => frozen_blk hr6 o
  have q0 : w6.cell? ⟨w.heap.size, 0, none⟩ = some (.int .u8 0) := (cell_blk hr6 0).trans rfl
  have q1 : w6.cell? ⟨w.heap.size, 1, none⟩ = some (.int .u32 0) := (cell_blk hr6 1).trans rfl
  have q2 : w6.cell? ⟨w.heap.size, 2, none⟩ = some (.int .u32 0) := (cell_blk hr6 2).trans rfl
  have q3 : w6.cell? ⟨w.heap.size, 3, none⟩ = some (.int .u32 0) := (cell_blk hr6 3).trans rfl
  have q4 : w6.cell? ⟨w.heap.size, 4, none⟩ = some (.bool false) := (cell_blk hr6 4).trans rfl
  have q5 : w6.cell? ⟨w.heap.size, 5, none⟩ = some (.bool false) := (cell_blk hr6 5).trans rfl
  have q6 : w6.cell? ⟨w.heap.size, 6, none⟩ = some (.int .u16 0) := (cell_blk hr6 6).trans rfl
  have q7 : w6.cell? ⟨w.heap.size, 7, none⟩ = some (.int .u16 0) := (cell_blk hr6 7).trans rfl
  have q8 : w6.cell? ⟨w.heap.size, 8, none⟩ = some (.slice none 0 0) := (cell_blk hr6 8).trans rfl
  have q9 : w6.cell? ⟨w.heap.size, 9, none⟩ = some (.int .u32 0) := (cell_blk hr6 9).trans rfl
  have q10 : w6.cell? ⟨w.heap.size, 10, none⟩ = some (.int .u8 0) := (cell_blk hr6 10).trans rfl
  have q11 : w6.cell? ⟨w.heap.size, 11, none⟩ = some (.int .u16 0) := (cell_blk hr6 11).trans rfl
  have q12 : w6.cell? ⟨w.heap.size, 12, none⟩ = some (.int .u16 0) := (cell_blk hr6 12).trans rfl
  have q13 : w6.cell? ⟨w.heap.size, 13, none⟩ = some (.int .u32 0) := (cell_blk hr6 13).trans rfl
  have q14 : w6.cell? ⟨w.heap.size, 14, none⟩ = some (.slice none 0 0) := (cell_blk hr6 14).trans rfl
  have y0 : w6.cell? ⟨w.heap.size + 1, 3, none⟩ = some (.int .u8 m.ty) := (cell_blk hx6 3).trans rfl
  have y1 : w6.cell? ⟨w.heap.size + 1, 4, none⟩ = some (.int .u32 m.life) := (cell_blk hx6 4).trans rfl
  have y2 : w6.cell? ⟨w.heap.size + 1, 5, none⟩ = some (.int .u32 m.frame) := (cell_blk hx6 5).trans rfl
  have y3 : w6.cell? ⟨w.heap.size + 1, 6, none⟩ = some (.int .u32 m.base) := (cell_blk hx6 6).trans rfl
  have y4 : w6.cell? ⟨w.heap.size + 1, 7, none⟩ = some (.bool m.has) := (cell_blk hx6 7).trans rfl
  have y5 : w6.cell? ⟨w.heap.size + 1, 8, none⟩ = some (.bool m.full) := (cell_blk hx6 8).trans rfl
  have y6 : w6.cell? ⟨w.heap.size + 1, 9, none⟩ = some (.int .u16 m.w) := (cell_blk hx6 9).trans rfl
  have y7 : w6.cell? ⟨w.heap.size + 1, 10, none⟩ = some (.int .u16 m.h) := (cell_blk hx6 10).trans rfl
  have y8 : w6.cell? ⟨w.heap.size + 1, 11, none⟩ = some (.slice A5 n5 c5) := (cell_blk hx6 11).trans rfl
  have y9 : w6.cell? ⟨w.heap.size + 1, 12, none⟩ = some (.int .u32 m.seq) := (cell_blk hx6 12).trans rfl
  have y10 : w6.cell? ⟨w.heap.size + 1, 13, none⟩ = some (.int .u8 m.ek) := (cell_blk hx6 13).trans rfl
  have y11 : w6.cell? ⟨w.heap.size + 1, 14, none⟩ = some (.int .u16 m.ex) := (cell_blk hx6 14).trans rfl
  have y12 : w6.cell? ⟨w.heap.size + 1, 15, none⟩ = some (.int .u16 m.ey) := (cell_blk hx6 15).trans rfl
  have y13 : w6.cell? ⟨w.heap.size + 1, 16, none⟩ = some (.int .u32 m.ec) := (cell_blk hx6 16).trans rfl
  have y14 : w6.cell? ⟨w.heap.size + 1, 17, none⟩ = some (.slice D5 m5 d5) := (cell_blk hx6 17).trans rfl
  have HR6 := Lib.hid hr6
  have HK6 := Lib.hid hK6
  have HS6 := Lib.hid hsm6
  have HB6 := Lib.hid hbd6
  clear hr6 hK6 hsm6 hbd6 hk6 hx6 hw6 zz fz z0 z2
  go_wp2
  refine bodyPost_ret (results_read _ _ w.heap.size _ _ _ _ _ _ _ _ _ _ _ _ _ _ _ _ _ rfl rfl rfl (store15 HR6.out)) rfl ?_
  have hkf := store15_kp w6 w.heap.size (.int .u8 m.ty) (.int .u32 m.life) (.int .u32 m.frame) (.int .u32 m.base) (.bool m.has) (.bool m.full) (.int .u16 m.w) (.int .u16 m.h) (.slice A5 n5 c5) (.int .u32 m.seq) (.int .u8 m.ek) (.int .u16 m.ex) (.int .u16 m.ey) (.int .u32 m.ec) (.slice D5 m5 d5)
  refine ⟨A5, n5, c5, D5, m5, d5, ?_, Rd.kp HS6.out hkf (fun k hk _ e => ?_), Rd.kpl HB6.out hkf (fun k hk _ e => ?_), HK6.out.trans hkf (fun b hb e => by have e' : b = w.heap.size := e; omega)⟩
  · rfl
  · have h1 : w.heap.size + 1 ≤ k := HSB.out k hk
    have e' : k = w.heap.size := e
    omega
  · have h1 : w.heap.size + 1 ≤ k := HDB.out k hk
    have e' : k = w.heap.size := e
    omega
end Go.Proofs.Ytmgfiblnbbjjdaa
