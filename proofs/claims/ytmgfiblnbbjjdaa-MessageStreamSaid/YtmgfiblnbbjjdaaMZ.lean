/- The walk of the statement: the loops. -/
import Derived.Test.YtmgfiblnbbjjdaaMX
import Derived.Deep.Cut
import Derived.Deep.CutRange
set_option linter.unusedSimpArgs false
set_option linter.unusedVariables false
namespace Go.Proofs.Ytmgfiblnbbjjdaa
open Go Go.Proofs Go.RowKit

set_option maxRecDepth 20000 in
set_option maxHeartbeats 2000000 in
theorem Stream_walk (w : World) (A : Option Addr) (n c : Nat) (cA : Option Addr) (cn cc : Nat) (l : List Src) (cuts : List Int) (hg : Given w A n l) (hc : RdI w .u8 (.slice cA cn cc) cuts) (hcb : Byts cuts) (hn : n ≤ 20) (hcn : cn ≤ 300) :
    Calls Try.prog 3 #[.slice A n c, .slice cA cn cc] w fun e w' => e = .returned (.bool true) ∧ Kp (fun b => w.heap.size ≤ b) w w' := by
  have HG := Lib.hid hg
  have HC := Lib.hid hc
  have HCB := Lib.hid hcb
  clear hg hc hcb
  go_enter Try.func3, Try.ntmps3
  go_wp2_with fail
  go_loopw [5, 6, 7] (fun a b i W' => ∃ (k : Nat) (ys : List Src) (A5 : Option Addr) (n5 c5 : Nat) (A6 : Option Addr) (n6 c6 : Nat), k ≤ n ∧ i = .int .i64 k ∧ a = .slice A5 n5 c5 ∧ b = .slice A6 n6 c6 ∧ L1 w l k a b W' ys) (fun _ _ i _ => n - (intOf i).toNat)
  case atStart => exact ⟨0, [], none, 0, 0, none, 0, 0, by omega, rfl, rfl, rfl, ⟨Kp.refl _ _, Own.nil _ _ _, Own.nil _ _ _, by simp, by simp, by simp [Value.ownBlock], by simp [Value.ownBlock], by simp [wby]⟩⟩
  case round =>
    obtain ⟨k, ys, A5, n5, c5, A6, n6, c6, hk, rfl, rfl, rfl, hL⟩ := hrel
    have HL := Lib.hid hL
    clear hL
    by_cases hlt : k < n
    · obtain ⟨x, hx⟩ : ∃ x, l[k]? = some x := ⟨l[k]'(by rw [HG.out.len]; exact hlt), List.getElem?_eq_getElem _⟩
      obtain ⟨hin, g, off, hA, hgs, hcell⟩ := HG.out.at' k x hx
      obtain rfl := hA
      have hcw : ∀ j u, x.cells[j]? = some u → wr.cell? ⟨g, off + k * 15 + j, none⟩ = some u := fun j u hj => HL.out.kp.cell (hcell j u hj) (by simp; omega)
      have c0 : wr.cell? ⟨g, off + k * 15, none⟩ = _ := hcw 0 _ rfl
      have c1 := hcw 1 _ rfl
      have c2 := hcw 2 _ rfl
      have c3 := hcw 3 _ rfl
      have c4 := hcw 4 _ rfl
      have c5 := hcw 5 _ rfl
      have c6 := hcw 6 _ rfl
      have c7 := hcw 7 _ rfl
      have c8 := hcw 8 _ rfl
      have c9 := hcw 9 _ rfl
      have c10 := hcw 10 _ rfl
      have c11 := hcw 11 _ rfl
      have c12 := hcw 12 _ rfl
      have c13 := hcw 13 _ rfl
      have c14 := hcw 14 _ rfl
      have hin1 := hin.kp HL.out.kp
      have hsn := hin.s.len
      have hdn := hin.d.len
      have HX := Lib.hid hx
      have HIN := Lib.hid hin
      have HIN1 := Lib.hid hin1
      have HCW := Lib.hid hcw
      clear hx hin hcell hcw hin1
      by_cases hd5 : 500 < x.dn
      · go_wp2_with fail
        go_ret
        exact ⟨rfl, HL.out.kp⟩
      by_cases hs2 : 256 < x.sn
      · go_wp2_with fail
        go_ret
        exact ⟨rfl, HL.out.kp⟩
      by_cases hkn : known x.m.ty
      · go_wp2_with fail
        refine (Of_known w.heap.size wr x HIN1.out hkn (by omega) (by omega)).mono ?_
        rintro e w1 ⟨y, rfl, hwinf, hk1⟩
        have hwin := hwinf wr HIN1.out
        have HWIN0 := Lib.hid (hwinf w HIN.out)
        clear hwinf
        have hK1 : Kp (fun b => w.heap.size ≤ b) w (w1.alloc (.cells y.wcells.toArray 30)) := (HL.out.kp.trans' (hk1.mono (fun b _ x => x.elim))).alloc _
        have hwin1 := hwin.kp ((hk1.alloc (.cells y.wcells.toArray 30)).mono (S' := fun b => w.heap.size ≤ b) (fun b _ x => x.elim))
        have HK1 := Lib.hid hk1
        have HWIN := Lib.hid hwin1
        have HKK1 := Lib.hid hK1
        clear hk1 hwin hwin1 hK1 c0 c1 c2 c3 c4 c5 c6 c7 c8 c9 c10 c11 c12 c13 c14
        unfold Src.wcells Mg.cells
        go_wp2_with fail
        refine (Write_of HWIN.out.mok _ y.sA y.dA y.sn y.sc y.dn y.dc HWIN.out.s HWIN.out.d).mono ?_
        rintro e w2 ⟨A2, n2, c2, rfl, ho2, hk2, hb2⟩
        have hk02 : Kp (fun _ => False) wr w2 := ((HK1.out.alloc _).trans' hk2)
        have hoa : Own w2 5 1 (.slice A5 n5 c5) ((wby ys).map (Value.int .u8)) := HL.out.all.kp hk02 (fun _ _ _ x => x)
        have hob : Own w2 30 15 (.slice A6 n6 c6) (wcs ys) := HL.out.want.kp hk02 (fun _ _ _ x => x)
        have hbk2 : w2.heap[w1.heap.size]? = some (.cells y.wcells.toArray 30) := hk2.heap (alloc_new w1 _) (fun x => x)
        have hKK2 : Kp (fun b => w.heap.size ≤ b) w w2 := HL.out.kp.trans' (hk02.mono (fun b _ x => x.elim))
        have hal : ∀ k', (Value.slice A5 n5 c5).ownBlock = some k' → k' ≠ w1.heap.size := fun k' e => by have := HL.out.all.lt e; have := HK1.out.size; omega
        have hnn : ((wby ys).map (Value.int .u8)).length + (y.fr.map (Value.int .u8)).length ≤ 60000 * 1 := by
          have h1 := HL.out.byl; have h2 := fr_le HWIN.out.mok; have h3 := HL.out.len; simp; omega
        have hone : ∀ u ∈ y.fr.map (Value.int .u8), u.oneCell' = true := by intro u hu; simp at hu; obtain ⟨z, _, rfl⟩ := hu; rfl
        have hwn : (wcs ys).length + y.wcells.length ≤ 1000 * 15 := by have h3 := HL.out.len; rw [wcs_len, wcells_len]; omega
        have hw1 := wcells_one y
        have HO2 := Lib.hid ho2
        have HB2 := Lib.hid hb2
        have HOA := Lib.hid hoa
        have HOB := Lib.hid hob
        have HBK2 := Lib.hid hbk2
        have HKK2 := Lib.hid hKK2
        have HAL := Lib.hid hal
        have HNN := Lib.hid hnn
        have HONE := Lib.hid hone
        have HWN := Lib.hid hwn
        have HW1 := Lib.hid hw1
        clear ho2 hk2 hb2 hk02 hoa hob hbk2 hKK2 hal hnn hone hwn hw1
        go_wp2_with (first | (at_builtin; refine wpList_append_Own _ rfl (.tmp 61) (.tmp 62) 23 rfl 5 (.int .u8 0) 1 1 Try.info5 (by kernel_rfl) rfl (by omega) (.slice A5 n5 c5) _ rfl HOA.out (.slice A2 n2 c2) (y.fr.map (Value.int .u8)) rfl HO2.out.rd HONE.out 60000 HNN.out (by omega) (by omega) ?_; intro A3 n3 c3 w3 ho3 hk3 hb3; have hbk3 := hk3.heap HBK2.out (fun e => HAL.out _ e rfl); obtain ⟨d0, d1, d2, d3, d4, d5, d6, d7, d8, d9, d10, d11, d12, d13, d14⟩ := blk15 hbk3; have HO3 := Lib.hid ho3; have HK3 := Lib.hid hk3; have HB3 := Lib.hid hb3; have HOB3 := Lib.hid ((HOB.out.kp hk3 (fun k' e _ e2 => HOA.out.ne HOB.out (by decide) e2 e)).kp ((Kp.refl (fun _ => False) w3).alloc (.cells #[.int .u8 (ofM y.m).ty, .int .u32 (ofM y.m).life, .int .u32 (ofM y.m).frame, .int .u32 (ofM y.m).base, .bool (ofM y.m).has, .bool (ofM y.m).full, .int .u16 (ofM y.m).w, .int .u16 (ofM y.m).h, .slice y.sA y.sn y.sc, .int .u32 (ofM y.m).seq, .int .u8 (ofM y.m).ek, .int .u16 (ofM y.m).ex, .int .u16 (ofM y.m).ey, .int .u32 (ofM y.m).ec, .slice y.dA y.dn y.dc] 30)) (fun _ _ _ x => x)); clear ho3 hk3 hb3 hbk3) | (at_builtin; refine wpList_append_Own _ rfl (.tmp 64) (.tmp 66) 22 rfl 30 (.agg zeroM) 15 88 Try.info30 (by kernel_rfl) rfl (by omega) (.slice A6 n6 c6) _ rfl HOB3.out _ _ rfl (Rd.lit (n := 1) (alloc_new w3 _) rfl (by omega)) HW1.out 1000 HWN.out (by omega) (by omega) ?_; intro A4 n4 c4 w4 ho4 hk4 hb4; have HO4 := Lib.hid ho4; have HK4 := Lib.hid hk4; have HB4 := Lib.hid hb4; clear ho4 hk4 hb4))
        go_roundw
        case rel =>
          have ho3 := HO3.out.kp ((Kp.refl (fun _ => False) w3).alloc (.cells #[.int .u8 (ofM y.m).ty, .int .u32 (ofM y.m).life, .int .u32 (ofM y.m).frame, .int .u32 (ofM y.m).base, .bool (ofM y.m).has, .bool (ofM y.m).full, .int .u16 (ofM y.m).w, .int .u16 (ofM y.m).h, .slice y.sA y.sn y.sc, .int .u32 (ofM y.m).seq, .int .u8 (ofM y.m).ek, .int .u16 (ofM y.m).ex, .int .u16 (ofM y.m).ey, .int .u32 (ofM y.m).ec, .slice y.dA y.dn y.dc] 30)) (fun _ _ _ x => x)
          have hk3 : Kp (fun b => w.heap.size ≤ b) w (w3.alloc (.cells #[.int .u8 (ofM y.m).ty, .int .u32 (ofM y.m).life, .int .u32 (ofM y.m).frame, .int .u32 (ofM y.m).base, .bool (ofM y.m).has, .bool (ofM y.m).full, .int .u16 (ofM y.m).w, .int .u16 (ofM y.m).h, .slice y.sA y.sn y.sc, .int .u32 (ofM y.m).seq, .int .u8 (ofM y.m).ek, .int .u16 (ofM y.m).ex, .int .u16 (ofM y.m).ey, .int .u32 (ofM y.m).ec, .slice y.dA y.dn y.dc] 30)) := (HKK2.out.trans' (HK3.out.mono (fun g _ e => HL.out.ab g e))).alloc _
          have hs3 := hk3.size
          refine ⟨k + 1, ys ++ [y], A3, n3, c3, A4, n4, c4, by omega, by simp, rfl, rfl, HL.out.add HWIN0.out (hk3.trans' (HK4.out.mono (fun g _ e => HL.out.wb g e))) (ho3.kp HK4.out (fun g hg _ hs => ho3.ne HOB3.out (by decide) hg hs)) HO4.out (fun g hg => (HB3.out g hg).elim (HL.out.ab g) (fun e => Nat.le_trans HKK2.out.size e)) (fun g hg => (HB4.out g hg).elim (HL.out.wb g) (fun e => Nat.le_trans hs3 e))⟩
        case measure => simp [intOf]; omega
      · go_wp2_with fail
        refine (Of_0 wr x.m x.sA x.dA x.sn x.sc x.dn x.dc hkn).mono ?_
        rintro e w1 ⟨rfl, hk1⟩
        have HK1 := Lib.hid hk1
        clear hk1 c0 c1 c2 c3 c4 c5 c6 c7 c8 c9 c10 c11 c12 c13 c14
        unfold Mg.cells nilS
        go_wp2_with fail
        refine (Write_none _ (ofM x.m) none none 0 0 0 0 [] (RdI.nil _ .u32) (by simp) (by rw [ofM_ty]; exact hkn)).mono ?_
        rintro e w2 ⟨rfl, hk2⟩
        have HK2 : Hid (Kp (fun _ => False) wr w2) := (HK1.out.alloc _).trans' hk2
        clear hk2
        go_wp2_with fail
        go_roundw
        case rel => exact ⟨k + 1, ys, A5, n5, c5, A6, n6, c6, by omega, by simp, rfl, rfl, HL.out.skip HK2.out⟩
        case measure => simp [intOf]; omega
    · go_wp2_with fail
      have HWS := Lib.hid HL.out.win
      have hylen := HL.out.len
      have hbyl := HL.out.byl
      have hal := HL.out.all.len
      have hL2 : L2 w (.slice A5 n5 c5) (.slice A6 n6 c6) (.slice none 0 0) ys wr 0 0 [] := ⟨HL.out.kp, HL.out.all, HL.out.want, Own.nil _ _ _, by simp [Value.ownBlock], by simp [Value.ownBlock], by omega, by omega, by simp⟩
      have h5 : (wby ys).length = n5 := by obtain ⟨_, n', _, he, h1, _⟩ := hal; simp only [Value.slice.injEq] at he; obtain ⟨_, rfl, _⟩ := he; simp at h1; omega
      have h6 : ys.length = n6 := by obtain ⟨_, n', _, he, h1, _⟩ := HL.out.want.len; simp only [Value.slice.injEq] at he; obtain ⟨_, rfl, _⟩ := he; rw [wcs_len] at h1; omega
      have HL2 := Lib.hid hL2
      have H5 := Lib.hid h5
      have H6 := Lib.hid h6
      clear HL hal hL2 h5 h6
      go_loopw [11, 12, 13, 14] (fun a b i j W' => ∃ (At K N : Nat) (A7 : Option Addr) (n7 c7 : Nat) (p : List Int), a = .slice A7 n7 c7 ∧ b = .int .i64 At ∧ i = .int .i64 K ∧ j = .int .i64 N ∧ K ≤ At ∧ L2 w (.slice A5 n5 c5) (.slice A6 n6 c6) (.slice A7 n7 c7) ys W' At N p ∧ Part ys N p) (fun _ b _ _ _ => n5 - (intOf b).toNat)
      case atStart => exact ⟨0, 0, 0, none, 0, 0, [], rfl, rfl, rfl, rfl, Nat.le_refl _, HL2.out, fun y hy => by have := fr_len y.m y.sums y.body; simp only [Src.fr, List.length_nil]; omega⟩
      case round =>
        obtain ⟨At, K, N, A7, n7, c7, p, rfl, rfl, rfl, rfl, hKA, hL2, hpart⟩ := hrel
        have hAt := hL2.hA
        have h5 := H5.out
        rw [h5] at hAt
        have hNy := hL2.hN
        have HM2 := Lib.hid hL2
        have HPA := Lib.hid hpart
        clear hL2 hpart HL2 h5
        by_cases hmore : At < n5
        · have hcu : K < cn → ∃ gc oc, cA = some ⟨gc, oc, none⟩ ∧ wr.cell? ⟨gc, oc + K, none⟩ = some (.int .u8 (cuts.getD K 0)) := fun hlt => by
            have hc1 := Rd.kp HC.out HM2.out.kp (fun g _ hg hb => by have : w.heap.size ≤ g := hb; omega)
            have hcl := HC.out.len.1
            obtain ⟨A', n', c', he, _, _, _, hh⟩ := hc1
            simp only [Value.slice.injEq] at he
            obtain ⟨rfl, rfl, rfl⟩ := he
            obtain ⟨gc, oc, rfl, hcc⟩ := hh K (.int .u8 (cuts.getD K 0)) (by rw [List.getElem?_map, List.getD_eq_getElem?_getD, List.getElem?_eq_getElem (by omega)]; rfl)
            exact ⟨gc, oc, rfl, hcc⟩
          have hcb2 : 0 ≤ cuts.getD K 0 ∧ cuts.getD K 0 < 256 := by
            rw [List.getD_eq_getElem?_getD]
            by_cases h : K < cuts.length
            · rw [List.getElem?_eq_getElem h]; exact HCB.out _ (List.getElem_mem h)
            · rw [List.getElem?_eq_none (by omega)]; simp
          generalize cuts.getD K 0 = z at hcu hcb2
          have HCU := Lib.hid hcu
          clear hcu
          have hn5 : n5 ≤ 60000 := by have := H5.out; omega
          go_upto_if 79 with (fail)
          go_cut [15] from 68 to 134 (fun sz wc => ∃ S : Nat, sz = .int .i64 S ∧ 1 ≤ S ∧ S ≤ n5 - At ∧ wc = wr)
          case first =>
            by_cases hKc : K < cn
            · obtain ⟨gc, oc, hcA, hcc⟩ := HCU.out hKc
              obtain rfl := hcA
              go_wp2_with fail
              all_goals go_meet
              all_goals first
                | exact ⟨(1 + z).toNat, by congr 1; omega, by omega, by omega, rfl⟩
                | exact ⟨n5 - At, by congr 1; omega, by omega, by omega, rfl⟩
            · go_wp2_with fail
              go_meet
              exact ⟨n5 - At, by congr 1; omega, by omega, by omega, rfl⟩
          case rest =>
            obtain ⟨S, rfl, hS1, hS2, rfl⟩ := hcut
            obtain ⟨g5, o5, hA5⟩ := HM2.out.all.isSome (by omega)
            obtain rfl := hA5
            have hc5 : n5 ≤ c5 := by obtain ⟨_, _, _, he, _, h1, _⟩ := HM2.out.all.len; simp only [Value.slice.injEq] at he; omega
            have hsub : RdI wc .u8 (.slice (some ⟨g5, o5 + At, none⟩) S (c5 - At)) (((wby ys).drop At).take S) := by
              have h := Rd.sub (k := .u8) (l := wby ys) HM2.out.all.rd At (At + S) (by omega) (by omega)
              rwa [if_neg (by omega), Nat.add_sub_cancel_left] at h
            have hone : ∀ u ∈ (((wby ys).drop At).take S).map (Value.int .u8), u.oneCell' = true := by intro u hu; simp only [List.mem_map] at hu; obtain ⟨z, _, rfl⟩ := hu; rfl
            have hlen : (p.map (Value.int .u8)).length + ((((wby ys).drop At).take S).map (Value.int .u8)).length ≤ 120000 * 1 := by
              have h1 := HM2.out.plen; have h2 := H5.out; simp; omega
            have HSUB := Lib.hid hsub
            have HONE := Lib.hid hone
            have HLEN := Lib.hid hlen
            clear hsub hone hlen
            go_wp2_with (first | (at_builtin; go_loud (refine wpList_append_Own _ rfl (.tmp 90) (.tmp 96) 23 rfl 5 (.int .u8 0) 1 1 Try.info5 (by kernel_rfl) rfl (by omega) (.slice A7 n7 c7) _ rfl HM2.out.came _ ((((wby ys).drop At).take S).map (Value.int .u8)) rfl (by first | exact HSUB.out | (have h : Rd wc 1 (.slice (some ⟨g5, o5 + At, none⟩) (At + S - At) (c5 - At)) _ := (by rw [Nat.add_sub_cancel_left]; exact HSUB.out); exact h) | (simp [Act.eval]; exact HSUB.out)) HONE.out 120000 HLEN.out (by omega) (by omega) ?_); intro A8 n8 c8 w8 ho8 hk8 hb8; have HO8 := Lib.hid ho8; have HK8 := Lib.hid hk8; have HB8 := Lib.hid hb8; clear ho8 hk8 hb8))
            have hM3 := HM2.out.more HK8.out HO8.out HB8.out (by have := H5.out; omega)
            have HM3 := Lib.hid hM3
            clear hM3 HO8 HK8 HB8 HM2 HPA HSUB HONE HLEN
            obtain ⟨p3, hp3⟩ : ∃ p3, p3 = p ++ ((wby ys).drop At).take S := ⟨_, rfl⟩
            rw [← hp3] at HM3
            clear hp3
            go_loopw [11, 14] (fun a j W' => ∃ (N : Nat) (A7 : Option Addr) (n7 c7 : Nat) (p : List Int), a = .slice A7 n7 c7 ∧ j = .int .i64 N ∧ L2 w (.slice (some ⟨g5, o5, none⟩) n5 c5) (.slice A6 n6 c6) (.slice A7 n7 c7) ys W' (At + S) N p) (fun _ j _ => n6 - (intOf j).toNat)
            case atStart => exact ⟨N, A8, n8, c8, p3, rfl, rfl, HM3.out⟩
            case round =>
              obtain ⟨N', A9, n9, c9, p9, rfl, rfl, hM4⟩ := hrel
              have HM4 := Lib.hid hM4
              clear hM4 HM3
              have hN9 := HM4.out.hN
              have hby9 := HM4.out.byts HWS.out
              have hr9 : RdI wr .u8 (.slice A9 n9 c9) p9 := HM4.out.came.rd
              have HR9 := Lib.hid hr9
              have HBY9 := Lib.hid hby9
              clear hr9 hby9
              have hl9 := HR9.out.len.1
              have hcs : (Part ys N' p9 ∧ (∀ W, Kp (fun _ => False) wr W → Calls Try.prog 6 #[.slice A9 n9 c9] W fun e w' => e = .returned (.tuple #[.agg zeroM, .int .i64 0, .int .i64 0]) ∧ Kp (fun _ => False) W w')) ∨ ∃ y p', ys[N']? = some y ∧ p9 = y.fr ++ p' := by
                rcases HM4.out.cases with ⟨hNe, hp0⟩ | ⟨y, hy, ⟨rest, hr0, hr1⟩ | ⟨p', hp'⟩⟩
                · left
                  refine ⟨fun y hy => ?_, fun W _ => ?_⟩
                  · rw [hNe] at hy; simp at hy
                  · subst hp0; simp at hl9; subst hl9; exact Read_nil W A9 c9
                · left
                  refine ⟨fun y' hy' => ?_, fun W hW => ?_⟩
                  · rw [hy] at hy'; cases hy'
                    rw [← hr1]
                    cases rest with
                    | nil => exact absurd rfl hr0
                    | cons _ _ => simp
                  · exact Read_part (HWS.out y (List.mem_of_getElem? hy)).mok W A9 n9 c9 (Rd.kp HR9.out hW (fun _ _ _ x => x)) hr0 hr1
                · right; exact ⟨y, p', hy, hp'⟩
              rcases hcs with ⟨hpt, hrd⟩ | ⟨y, p', hy, hp'⟩
              · have HPT := Lib.hid hpt
                have HRD := Lib.hid hrd
                clear hpt hrd
                go_wp2_with fail
                refine (HRD.out _ (Kp.refl _ _)).mono ?_
                rintro e w10 ⟨rfl, hk10⟩
                have HK10 := Lib.hid hk10
                clear hk10
                unfold zeroM
                go_wp2_with fail
                go_roundw
                case rel =>
                  refine ⟨At + S, K + 1, N', A9, n9, c9, p9, rfl, by go_num, by go_num, rfl, by omega, HM4.out.same (HK10.out.alloc _), HPT.out⟩
                case measure => simp [intOf]; omega
              · as_aux_lemma =>
                  have HY := Lib.hid hy
                  have HP := Lib.hid hp'
                  have hmok := (HWS.out y (List.mem_of_getElem? hy)).mok
                  have hbr : Byts p' := fun x hx => HBY9.out x (by rw [hp']; simp [hx])
                  have hNl : N' < n6 := by have := (List.getElem?_eq_some_iff.1 hy).1; have := H6.out; omega
                  have hfl : (fr y.m y.sums y.body).length ≤ n9 := by rw [← hl9, hp']; simp [Src.fr]
                  have hf5 : 5 ≤ (fr y.m y.sums y.body).length := by rw [fr_len]; omega
                  have hwy := HWS.out y (List.mem_of_getElem? hy)
                  obtain ⟨g6, o6, hA6⟩ := HM4.out.want.isSome (by omega)
                  obtain rfl := hA6
                  obtain ⟨g9, o9, hA9⟩ := HM4.out.came.isSome (by omega)
                  obtain rfl := hA9
                  have HMOK := Lib.hid hmok
                  have HBR := Lib.hid hbr
                  have HWY := Lib.hid hwy
                  have hc9 : n9 ≤ c9 := HR9.out.len.2.1
                  clear hy hp' hmok hbr hwy
                  go_wp2_with fail
                  refine (Read_msg HMOK.out wr _ n9 c9 HR9.out HP.out HBR.out).mono ?_
                  rintro e w10 ⟨S1, sn1, sc1, D1, dn1, dc1, rfl, hs10, hd10, hk10⟩
                  have hwin := HWY.out.kp (HM4.out.kp.trans' (hk10.mono (S' := fun b => w.heap.size ≤ b) (fun b _ x => x.elim)))
                  have hsy : sn1 = y.sn := by have h1 := hs10.len.1; have h2 := hwin.s.len.1; omega
                  have hdy : dn1 = y.dn := by have h1 := hd10.len.1; have h2 := hwin.d.len.1; omega
                  subst hsy hdy
                  have hwc : ∀ j u, y.wcells[j]? = some u → w10.cell? ⟨g6, o6 + N' * 15 + j, none⟩ = some u := fun j u hj => by
                    have hj15 : j < 15 := (List.getElem?_eq_some_iff.1 hj).1
                    have h1 := wcs_get HY.out j hj15
                    rw [hj] at h1
                    have h2 := (HM4.out.want.kp hk10 (fun _ _ _ x => x)).cellAt h1
                    rwa [← Nat.add_assoc] at h2
                  have hL := HM4.out.next (hk10.alloc (.cells #[.int .u8 (ofM y.m).ty, .int .u32 (ofM y.m).life, .int .u32 (ofM y.m).frame, .int .u32 (ofM y.m).base, .bool (ofM y.m).has, .bool (ofM y.m).full, .int .u16 (ofM y.m).w, .int .u16 (ofM y.m).h, .slice S1 y.sn sc1, .int .u32 (ofM y.m).seq, .int .u8 (ofM y.m).ek, .int .u16 (ofM y.m).ex, .int .u16 (ofM y.m).ey, .int .u32 (ofM y.m).ec, .slice D1 y.dn dc1] 30)) HY.out HP.out
                  have HK10 := Lib.hid hk10
                  have HS10 := Lib.hid hs10
                  have HD10 := Lib.hid hd10
                  have HWIN := Lib.hid hwin
                  have HWC := Lib.hid hwc
                  have HL := Lib.hid hL
                  clear hk10 hs10 hd10 hwin hwc hL
                  unfold Mg.cells
                  have hfe : y.fr.length = (fr y.m y.sums y.body).length := rfl
                  rw [hfe] at HL
                  clear hfe
                  generalize (fr y.m y.sums y.body).length = fl at *
                  go_wp2_with fail
                  have hka := (Kp.refl (fun _ => False) w10).alloc (.cells #[.int .u8 (ofM y.m).ty, .int .u32 (ofM y.m).life, .int .u32 (ofM y.m).frame, .int .u32 (ofM y.m).base, .bool (ofM y.m).has, .bool (ofM y.m).full, .int .u16 (ofM y.m).w, .int .u16 (ofM y.m).h, .slice S1 y.sn sc1, .int .u32 (ofM y.m).seq, .int .u8 (ofM y.m).ek, .int .u16 (ofM y.m).ex, .int .u16 (ofM y.m).ey, .int .u32 (ofM y.m).ec, .slice D1 y.dn dc1] 30)
                  have hba := alloc_new w10 (.cells #[.int .u8 (ofM y.m).ty, .int .u32 (ofM y.m).life, .int .u32 (ofM y.m).frame, .int .u32 (ofM y.m).base, .bool (ofM y.m).has, .bool (ofM y.m).full, .int .u16 (ofM y.m).w, .int .u16 (ofM y.m).h, .slice S1 y.sn sc1, .int .u32 (ofM y.m).seq, .int .u8 (ofM y.m).ek, .int .u16 (ofM y.m).ex, .int .u16 (ofM y.m).ey, .int .u32 (ofM y.m).ec, .slice D1 y.dn dc1] 30)
                  generalize hwa : w10.alloc (.cells #[.int .u8 (ofM y.m).ty, .int .u32 (ofM y.m).life, .int .u32 (ofM y.m).frame, .int .u32 (ofM y.m).base, .bool (ofM y.m).has, .bool (ofM y.m).full, .int .u16 (ofM y.m).w, .int .u16 (ofM y.m).h, .slice S1 y.sn sc1, .int .u32 (ofM y.m).seq, .int .u8 (ofM y.m).ek, .int .u16 (ofM y.m).ex, .int .u16 (ofM y.m).ey, .int .u32 (ofM y.m).ec, .slice D1 y.dn dc1] 30) = wa at *
                  have hwc2 : ∀ j u, y.wcells[j]? = some u → wa.cell? ⟨g6, o6 + N' * 15 + j, none⟩ = some u := fun j u hj => hka.cell (HWC.out j u hj) (fun x => x)
                  obtain ⟨d0, d1, d2, d3, d4, d5, d6, d7, d8, d9, d10, d11, d12, d13, d14⟩ := blk15 hba
                  have c0 : wa.cell? ⟨g6, o6 + N' * 15, none⟩ = _ := hwc2 0 _ rfl
                  have c1 := hwc2 1 _ rfl
                  have c2 := hwc2 2 _ rfl
                  have c3 := hwc2 3 _ rfl
                  have c4 := hwc2 4 _ rfl
                  have c5_1 := hwc2 5 _ rfl
                  have c6_1 := hwc2 6 _ rfl
                  have c7 := hwc2 7 _ rfl
                  have c8 := hwc2 8 _ rfl
                  have c9_1 := hwc2 9 _ rfl
                  have c10 := hwc2 10 _ rfl
                  have c11 := hwc2 11 _ rfl
                  have c12 := hwc2 12 _ rfl
                  have c13 := hwc2 13 _ rfl
                  have c14 := hwc2 14 _ rfl
                  have HKA := Lib.hid hka
                  clear hka hba hwa hwc2
                  go_still_tail 10, (by kernel_rfl)
                  clear c0 c1 c2 c3 c4 c5_1 c6_1 c7 c8 c9_1 c10 c11 c12 c13 c14 d0 d1 d2 d3 d4 d5 d6 d7 d8 d9 d10 d11 d12 d13 d14
                  go_wp2_with fail
                  refine (Same_eq _ (ofM y.m) S1 y.sA D1 y.dA y.sn sc1 y.sc y.dn dc1 y.dc (ofS y.m y.sums) (ofB y.m y.body) (Rd.kp HS10.out HKA.out.drew (fun _ _ _ x => x)) (Rd.kp HWIN.out.s HKA.out.drew (fun _ _ _ x => x)) (Rd.kp HD10.out HKA.out.drew (fun _ _ _ x => x)) (Rd.kp HWIN.out.d HKA.out.drew (fun _ _ _ x => x))).mono ?_
                  rintro e w12 ⟨rfl, hk12⟩
                  have HM5 := Lib.hid (HL.out.same hk12.ofDrew)
                  clear hk12 HL HM4 HKA HWIN HS10 HD10 HK10 HWC HP
                  by_cases hcap : c9 = fl
                  · obtain rfl : c9 = n9 := by omega
                    obtain rfl : c9 = fl := by omega
                    go_wp2_with fail
                    go_roundw
                    case rel =>
                      have h := HM5.out
                      rw [if_pos trivial, Nat.sub_self] at h
                      exact ⟨N' + 1, _, _, _, p', rfl, by go_num, h⟩
                    case measure => simp [intOf]; omega
                  · go_wp2_with fail
                    go_roundw
                    case rel =>
                      have h := HM5.out
                      rw [if_neg hcap] at h
                      exact ⟨N' + 1, _, _, _, p', rfl, by go_num, h⟩
                    case measure => simp [intOf]; omega
        · have hd := HM2.out.done (by have := H5.out; omega) HPA.out
          obtain ⟨hNe, hp0⟩ := hd
          obtain rfl : N = n6 := by have := H6.out; omega
          have hl7 : n7 = 0 := by
            obtain ⟨_, n', _, he, h1, _⟩ := HM2.out.came.len
            simp only [Value.slice.injEq] at he
            obtain ⟨_, rfl, _⟩ := he
            rw [hp0] at h1
            simp at h1; omega
          subst hl7
          clear hNe hp0
          go_wp2_with fail
          refine (writes_any _).mono ?_
          rintro e w11 ⟨rfl, hk11⟩
          have HK11 := Lib.hid (HM2.out.kp.trans' (hk11.mono (S' := fun b => w.heap.size ≤ b) (fun b _ x => x.elim)))
          clear hk11
          go_wp2_with fail
          go_ret
          exact ⟨rfl, HK11.out⟩
end Go.Proofs.Ytmgfiblnbbjjdaa
