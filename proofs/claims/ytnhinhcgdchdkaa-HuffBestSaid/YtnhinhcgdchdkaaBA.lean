/- HuffBest: the walk. -/
import Derived.Test.YtnhinhcgdchdkaaHQ
set_option linter.unusedSimpArgs false
set_option linter.unusedVariables false
namespace Go.Proofs.Ytnhinhcgdchdkaa
open Go Go.Proofs Go.RowKit

section
variable {l : List Int} (hp : ∀ x ∈ l, 0 < x)
include hp
theorem pos_getD {k : Nat} (h : k < l.length) : 0 < l.getD k 0 := by
  rw [List.getD_eq_getElem?_getD, List.getElem?_eq_getElem h]; exact hp _ (List.getElem_mem h)
theorem usedL_all : usedL l = List.range l.length := by
  unfold usedL usedTo
  exact List.filter_eq_self.2 (fun k hk => by simpa using pos_getD hp (by simpa using hk))
theorem usedL_all_len : (usedL l).length = l.length := by rw [usedL_all hp]; simp
theorem wtOf_all {k : Nat} (h : k < l.length) : wtOf l k = l.getD k 0 := by
  rw [wtOf_eq (by rw [usedL_all_len hp]; exact h)]
  congr 1
  simp [usedL_all hp]
theorem outOf_all (c : Nat → Int) : outOf l c = (List.range l.length).map c := by
  unfold outOf
  apply List.map_congr_left
  intro s hs
  have hs' : s < l.length := by simpa using hs
  rw [if_pos (pos_getD hp hs'), usedL_all hp]
  congr 1
  have h := (List.nodup_range (n := l.length)).idxOf_getElem s (by simpa using hs')
  simpa using h
end

/-- The frequencies that HuffBest makes. -/
def fB (fr : List Int) (k : Nat) : List Int := (fr.take k).map (fun x => 1 + x % 1000)
theorem fB_succ {fr : List Int} {k : Nat} {x : Int} (h : fr[k]? = some x) : fB fr (k + 1) = fB fr k ++ [1 + x % 1000] := by
  unfold fB; rw [List.take_add_one, h]; simp
theorem fB_len (fr : List Int) (k : Nat) : (fB fr k).length = min k fr.length := by simp [fB]
theorem fB_bd {fr : List Int} {k : Nat} : ∀ x ∈ fB fr k, 1 ≤ x ∧ x ≤ 1000 := by
  intro x hx
  simp only [fB, List.mem_map] at hx
  obtain ⟨y, _, rfl⟩ := hx
  omega

/-- A row's length of symbol i. -/
def dg (M row i : Nat) : Nat := 1 + row / M ^ i % M
theorem dg_le {M row i : Nat} (h : 1 ≤ M) : 1 ≤ dg M row i ∧ dg M row i ≤ M := by
  unfold dg
  have := Nat.mod_lt (row / M ^ i) (show M > 0 by omega)
  omega
def costB (l : List Int) (d : Nat → Int) (i : Nat) : Int := sumK i (fun k => l.getD k 0 * d k)
theorem costB_succ (l : List Int) (d : Nat → Int) (i : Nat) : costB l d (i + 1) = costB l d i + l.getD i 0 * d i := sumK_succ _ _
theorem costB_bd {l : List Int} {d : Nat → Int} (hl : ∀ x ∈ l, 1 ≤ x ∧ x ≤ 1000) (hd : ∀ k, 0 ≤ d k ∧ d k ≤ 4) : ∀ i, i ≤ l.length → 0 ≤ costB l d i ∧ costB l d i ≤ i * 4000 ∧ ∀ j, j < l.length → 0 ≤ l.getD j 0 * d j ∧ l.getD j 0 * d j ≤ 4000 := by
  have hj : ∀ j, j < l.length → 0 ≤ l.getD j 0 * d j ∧ l.getD j 0 * d j ≤ 4000 := fun j hj => by
    have h1 := hl (l[j]) (List.getElem_mem hj)
    have h2 := hd j
    rw [List.getD_eq_getElem?_getD, List.getElem?_eq_getElem hj]
    simp only [Option.getD_some]
    refine ⟨Int.mul_nonneg (by omega) h2.1, ?_⟩
    have := Int.mul_le_mul h1.2 h2.2 h2.1 (by omega)
    omega
  intro i
  induction i with
  | zero => intro _; exact ⟨by simp [costB, sumK], by simp [costB, sumK], hj⟩
  | succ i ih =>
    intro hi
    have h1 := ih (by omega)
    have h2 := hj i (by omega)
    rw [costB_succ]
    exact ⟨by omega, by omega, hj⟩

theorem sumK_bd16 (M row : Nat) (hM : 1 ≤ M) (x : Nat) : 0 ≤ sumK x (fun z => (16 : Int) / 2 ^ dg M row z) ∧ sumK x (fun z => (16 : Int) / 2 ^ dg M row z) ≤ x * 16 := by
  induction x with
  | zero => simp [sumK]
  | succ x ih =>
    rw [sumK_succ]
    have h1 := pow_pos' (dg M row x)
    have h2 : 0 ≤ (16 : Int) / 2 ^ dg M row x := Int.ediv_nonneg (by omega) (by omega)
    have h3 : (16 : Int) / 2 ^ dg M row x ≤ 16 := Int.ediv_le_self _ (by omega)
    omega

/-- No row is better. -/
theorem best_row {l : List Int} (hl : ∀ x ∈ l, 1 ≤ x ∧ x ≤ 1000) {M row : Nat} (hM : 1 ≤ M ∧ M ≤ 4) (h2 : 2 ≤ l.length) (hs : sumK l.length (fun j => 16 / 2 ^ dg M row j) = 16) :
    costB l (cntOf l M) l.length ≤ costB l (fun j => dg M row j) l.length := by
  have hp : ∀ x ∈ l, 0 < x := fun x hx => by have := hl x hx; omega
  have hok : ∀ x ∈ l, okF x := fun x hx => by have := hl x hx; unfold okF; omega
  have hlen := usedL_all_len hp
  have h := lens_best (l := l) (lim := M) hok (by omega) (dg M row) (fun k _ => (dg_le hM.1).2) ?_
  · rw [hlen] at h
    have e : ∀ d : Nat → Int, sumK l.length (fun k => wtOf l k * d k) = costB l d l.length := fun d => sumK_congr (fun k hk => by rw [wtOf_all hp hk])
    rw [e, e] at h
    exact h
  · rw [hlen]
    have e : sumK l.length (fun j => (16 : Int) / 2 ^ dg M row j) = sumK l.length (fun k => 2 ^ (4 - M) * 2 ^ (M - dg M row k)) := sumK_congr (fun k _ => by
      have h1 := dg_le (M := M) (row := row) (i := k) hM.1
      generalize dg M row k = q at *
      have h3 : (M = 1 ∨ M = 2 ∨ M = 3 ∨ M = 4) ∧ (q = 1 ∨ q = 2 ∨ q = 3 ∨ q = 4) := by omega
      rcases h3 with ⟨rfl | rfl | rfl | rfl, rfl | rfl | rfl | rfl⟩ <;> first | omega | rfl)
    rw [e, sumK_mul] at hs
    generalize sumK l.length (fun k => (2 : Int) ^ (M - dg M row k)) = K at *
    rcases (show M = 1 ∨ M = 2 ∨ M = 3 ∨ M = 4 by omega) with rfl | rfl | rfl | rfl
    · simp at hs ⊢; omega
    · simp at hs ⊢; omega
    · simp at hs ⊢; omega
    · simp at hs ⊢; omega

set_option maxRecDepth 100000 in
set_option maxHeartbeats 2000000 in
theorem Best_walk (w : World) (A : Option Addr) (n c : Nat) (fr : List Int) (y : Nat) (hr : RdI w .u16 (.slice A n c) fr) (hfr : ∀ x ∈ fr, 0 ≤ x ∧ x < 65536) (hy : y < 256) :
    Calls Try.prog 4 #[.slice A n c, .int .u8 y] w fun e w' => e = .returned (.bool true) ∧ Kp (fun _ => False) w w' := by
  obtain ⟨hl, hnc, hc⟩ := hr.len
  have HR := Lib.hid hr
  have HL := Lib.hid hl
  have HFR := Lib.hid hfr
  clear hr hl hfr
  go_enter Try.func4, Try.ntmps4
  go_wp2_with fail
  have hM0 : (1 + (y : Int) % 4) = ((1 + y % 4 : Nat) : Int) := by omega
  have hM1 : 1 ≤ 1 + y % 4 ∧ 1 + y % 4 ≤ 4 := by omega
  rw [hM0]
  generalize hMd : 1 + y % 4 = M at *
  clear hM0 hMd
  obtain ⟨hMa, hMb⟩ := hM1
  go_loopw [6, 7] (fun v i W => ∃ (k : Nat) (A6 : Option Addr) (n6 c6 : Nat), i = .int .i64 k ∧ k ≤ n ∧ k ≤ 5 ∧ v = .slice A6 n6 c6 ∧ Own W 3 1 (.slice A6 n6 c6) ((fB fr k).map (Value.int .i64)) ∧ Kp (fun _ => False) w W ∧ (∀ q, (Value.slice A6 n6 c6).ownBlock = some q → w.heap.size ≤ q)) (fun _ i _ => n - (intOf i).toNat)
  case atStart => exact ⟨0, none, 0, 0, rfl, by omega, by omega, rfl, by simpa [fB] using Own.nil _ _ _, Kp.refl _ _, by simp [Value.ownBlock]⟩
  case round =>
    obtain ⟨k, A6, n6, c6, rfl, hk, hk5, rfl, ho, hkp, hob⟩ := hrel
    have HO := Lib.hid ho
    have HKP := Lib.hid hkp
    have HOB := Lib.hid hob
    by_cases hlt : k < n ∧ k < 5
    · obtain ⟨hlt1, hlt2⟩ := hlt
      obtain ⟨g, off, hA⟩ := HR.out.some (by omega)
      subst hA
      obtain ⟨x, hx⟩ : ∃ x, fr[k]? = some x := ⟨fr[k]'(by have := HL.out; omega), List.getElem?_eq_getElem _⟩
      have hcell := RdI.at (Rd.kpF HR.out hkp) hx
      have hxb := HFR.out x (List.mem_of_getElem? hx)
      obtain ⟨hx0, hx1⟩ := hxb
      have hfs := fB_succ hx
      have hnl : ((fB fr k).map (Value.int .i64)).length + 1 ≤ 1000 * 1 := by rw [List.length_map, fB_len]; omega
      have HFS := Lib.hid hfs
      have HNL := Lib.hid hnl
      clear hx hfs hnl ho hkp hob
      go_wp2_with (first | (at_builtin; refine wpList_append_Own _ rfl (.tmp 34) (.tmp 42) 22 rfl 3 (.int .i64 0) 1 8 Try.info3 (by kernel_rfl) rfl (by omega) (.slice A6 n6 c6) _ rfl (HO.out.kpF ((Kp.refl _ _).alloc _)) _ [.int .i64 (1 + x % 1000)] rfl (Rd.lit (n := 1) (alloc_new wr _) rfl (by omega)) (by simp [Value.oneCell']) 1000 (by have := HNL.out; simpa using this) (by omega) (by omega) ?_; intro A2 n2 c2 w2 ho2 hk2 hb2; have HO2 := Lib.hid ho2; have HK2 := Lib.hid hk2; have HB2 := Lib.hid hb2; clear ho2 hk2 hb2))
      go_roundw
      case rel =>
        refine ⟨k + 1, A2, n2, c2, by go_num, by omega, by omega, rfl, by rw [HFS.out]; simpa using HO2.out, HKP.out.trans (((Kp.refl (fun b => (Value.slice A6 n6 c6).ownBlock = some b) wr).alloc _).trans' HK2.out) (fun q hq e => by have := HOB.out q e; omega), fun q hq => ?_⟩
        rcases HB2.out q hq with e | e
        · exact HOB.out q e
        · have := HKP.out.size; simp at e; omega
      case measure => simp [intOf]; omega
    · have hkm : k = min n 5 := by omega
      obtain ⟨q, hq⟩ : ∃ q, q = fB fr k := ⟨_, rfl⟩
      rw [← hq] at ho
      have hqb : ∀ x ∈ q, 1 ≤ x ∧ x ≤ 1000 := by rw [hq]; exact fB_bd
      have hql : q.length = n6 := by
        obtain ⟨_, n1, _, he, h1, _⟩ := ho.len
        simp only [Value.slice.injEq] at he
        obtain ⟨_, rfl, _⟩ := he
        simpa using h1
      have hn6 : n6 = k := by rw [← hql, hq, fB_len]; have := HL.out; omega
      have hn65 : n6 ≤ 5 := by omega
      have HO := Lib.hid ho
      have HQB := Lib.hid hqb
      have HQL := Lib.hid hql
      have hP : 2 ^ M ≤ 32768 := pow15 (by omega)
      have hw := wrap_pow (lim := M) (by omega)
      have HPM : Hid (∃ P, P = 2 ^ M) := ⟨_, rfl⟩
      clear ho hqb hql hq hkm hn6
      generalize hPe : 2 ^ M = P at *
      have HPE := Lib.hid hPe
      clear hPe HPM
      have HKP := Lib.hid hkp
      clear hkp hob
      have HW := Lib.hid hw
      clear hw
      by_cases hk1 : k < n
      all_goals
        go_upto_region 7 with (fail)
        go_cut [4, 53] from 24 to 52 (fun _ v wc => wc = wr ∧ ((v = .bool true ∧ (n6 < 2 ∨ P < n6)) ∨ (v = .bool false ∧ ¬ n6 < 2 ∧ ¬ P < n6)))
        case first =>
          have hw := HW.out
          go_wp2_with fail
          all_goals
            go_meet
            refine ⟨rfl, ?_⟩
            by_cases hbb : n6 < 2 ∨ P < n6
            · first
                | exact .inl ⟨rfl, hbb⟩
                | exact .inl ⟨by congr 1; simp; omega, hbb⟩
                | (exfalso; omega)
            · first
                | exact .inr ⟨rfl, by omega, by omega⟩
                | exact .inr ⟨by congr 1; simp; omega, by omega, by omega⟩
                | (exfalso; omega)
        case rest =>
          obtain ⟨hwc, ⟨rfl, hbad⟩ | ⟨rfl, hb1, hb2⟩⟩ := hcut
          · subst hwc
            go_wp2_with fail
            refine (codes_any _).mono ?_
            rintro e w9 ⟨rfl, hk9⟩
            have HK9 := Lib.hid (HKP.out.trans' hk9)
            clear hk9
            go_wp2_with fail
            go_ret
            exact ⟨rfl, HK9.out⟩
          subst hwc
          obtain ⟨g6, o6, hA6⟩ := HO.out.isSome (by omega)
          subst hA6
          have hqp : ∀ x ∈ q, 0 < x := fun x hx => by have := HQB.out x hx; omega
          have hull := usedL_all_len hqp
          have hlo := outOf_all hqp (cntOf q M)
          rw [HQL.out] at hull hlo
          have HULL := Lib.hid hull
          have HLO := Lib.hid hlo
          have HQP := Lib.hid hqp
          clear hqp hull hlo
          go_wp2_with fail
          refine (Lengths_any wc _ n6 c6 q M HO.out.rd (by omega) (by omega) (fun x hx => by have := HQB.out x hx; unfold okF; omega)).mono ?_
          rintro e w2 (⟨h, _⟩ | ⟨_, h, _⟩ | ⟨_, _, A8, n8, c8, rfl, ho8, hk8, hb8⟩)
          · exfalso; rw [HULL.out, HPE.out] at h; omega
          · exfalso; rw [HULL.out] at h; omega
          unfold lensOf at ho8
          rw [HLO.out] at ho8
          have hn8 : n6 = n8 := by
            obtain ⟨_, n1, _, he, h1, _⟩ := ho8.len
            simp only [Value.slice.injEq] at he
            obtain ⟨_, rfl, _⟩ := he
            simpa using h1
          subst hn8
          obtain ⟨g8, o8, hA8⟩ := ho8.isSome (by omega)
          subst hA8
          have HO8 := Lib.hid ho8
          have HO62 := Lib.hid (HO.out.kpF hk8)
          have HK2 := Lib.hid (HKP.out.trans' hk8)
          clear ho8 hk8 hb8
          have hcb := fun i hi => costB_bd (l := q) (d := cntOf q M) HQB.out (fun k => by have := lens_bd (l := q) (lim := M) k; omega) i hi
          rw [HQL.out] at hcb
          have HCB := Lib.hid hcb
          clear hcb
          have hc68 : n6 ≤ c6 ∧ n6 ≤ c8 := by
            obtain ⟨_, n1, _, he, _, h2, _⟩ := HO8.out.len
            simp only [Value.slice.injEq] at he
            obtain ⟨_, rfl, rfl⟩ := he
            obtain ⟨_, n1, _, he, _, h3, _⟩ := HO62.out.len
            simp only [Value.slice.injEq] at he
            obtain ⟨_, rfl, rfl⟩ := he
            exact ⟨h3, h2⟩
          go_wp2_with fail
          go_loopw [10, 11] (fun a i W => ∃ j : Nat, i = .int .i64 j ∧ j ≤ n6 ∧ a = .int .i64 (costB q (cntOf q M) j) ∧ Kp (fun _ => False) w2 W) (fun _ i _ => n6 - (intOf i).toNat)
          case atStart => exact ⟨0, rfl, by omega, by simp [costB, sumK], Kp.refl _ _⟩
          case round =>
            obtain ⟨j, rfl, hj, rfl, hkj⟩ := hrel
            obtain ⟨hc0, hc1, hcj⟩ := HCB.out j hj
            by_cases hjn : j < n6
            · have hcs := costB_succ q (cntOf q M) j
              have hpj := hcj j hjn
              have hq1 : q[j]? = some (q.getD j 0) := by rw [List.getD_eq_getElem?_getD, List.getElem?_eq_getElem (by rw [HQL.out]; exact hjn)]; rfl
              have hqj := HQB.out (q.getD j 0) (List.mem_of_getElem? hq1)
              have e1 : wr.cell? ⟨g6, o6 + j, none⟩ = some (.int .i64 (q.getD j 0)) := RdI.at (Rd.kpF HO62.out.rd hkj) hq1
              have e2 : wr.cell? ⟨g8, o8 + j, none⟩ = some (.int .u8 (cntOf q M j)) := (HO8.out.kpF hkj).cellAt (by rw [List.getElem?_map, List.getElem?_map, List.getElem?_range hjn]; rfl)
              have hd := lens_bd (l := q) (lim := M) j
              have HCS := Lib.hid hcs
              have HKJ := Lib.hid hkj
              clear hcs hcj hkj hq1
              generalize costB q (cntOf q M) j = cb at *
              generalize q.getD j 0 = u at *
              generalize cntOf q M j = v at *
              obtain ⟨hp0, hp1⟩ := hpj
              have hm1 : IntKind.i64.wrap (u * v) = u * v := IntWalk.i64_in _ (by omega)
              have hm2 : IntKind.i64.wrap (cb + u * v) = cb + u * v := IntWalk.i64_in _ (by omega)
              go_wp2_with fail
              go_quiet (fail)
              go_wp2_with fail
              go_roundw
              case rel => exact ⟨j + 1, by go_num, by omega, by rw [HCS.out], HKJ.out.drewN _⟩
              case measure => simp [intOf]; omega
            · have hjn2 : j = n6 := by omega
              subst hjn2
              have HK3 := Lib.hid (HK2.out.trans' hkj)
              have HO63 := Lib.hid (Own.kpF HO62.out hkj)
              clear hkj hcj HO62 HK2 HO8
              obtain ⟨cb, hcb⟩ : ∃ cb, cb = costB q (cntOf q M) j := ⟨_, rfl⟩
              rw [← hcb] at hc0 hc1 ⊢
              have HCBE := Lib.hid hcb
              clear hcb
              go_wp2_with fail
              go_loop [12, 13] (fun a i => ∃ t : Nat, i = .int .i64 t ∧ t ≤ j ∧ a = .int .i64 ((M ^ t : Nat) : Int)) (fun _ i => j - (intOf i).toNat)
              case atStart => exact ⟨0, rfl, by omega, rfl⟩
              case round =>
                obtain ⟨t, rfl, ht, rfl⟩ := hrel
                have hpw : M ^ t ≤ 1024 := by
                  have h1 := Nat.pow_le_pow_left hMb t
                  have h2 := Nat.pow_le_pow_right (n := 4) (by omega) (show t ≤ 5 by omega)
                  omega
                have hp0 : 1 ≤ M ^ t := Nat.one_le_pow _ _ (by omega)
                by_cases htj : t < j
                · have hpe := Nat.pow_succ (n := M) (m := t)
                  have hpm : M ^ t * M ≤ 1024 * 4 := Nat.mul_le_mul hpw hMb
                  have hwm : wrap64 (((M ^ t : Nat) : Int) * (M : Int)) = ((M ^ t * M : Nat) : Int) := by rw [← Int.natCast_mul]; generalize M ^ t * M = z at *; unfold wrap64; omega
                  generalize M ^ t = pt at *
                  have HPE2 := Lib.hid hpe
                  have HWM := Lib.hid hwm
                  clear hpe hwm
                  go_wp2_with fail
                  go_round
                  case rel => exact ⟨t + 1, by go_num, by omega, by rw [HPE2.out, Int.natCast_mul]⟩
                  case measure => simp [intOf]; omega
                · have htj2 : t = j := by omega
                  subst htj2
                  obtain ⟨R, hR⟩ : ∃ R, R = M ^ t := ⟨_, rfl⟩
                  rw [← hR] at hpw hp0 ⊢
                  clear hR
                  go_wp2_with fail
                  go_loop [14] (fun a => ∃ row : Nat, a = .int .i64 row ∧ row ≤ R) (fun a => R - (intOf a).toNat)
                  case atStart => exact ⟨0, rfl, by omega⟩
                  case round =>
                    obtain ⟨row, rfl, hrow⟩ := hrel
                    by_cases hrr : row < R
                    · go_wp2_with fail
                      go_loop [15, 16, 17, 18] (fun a b k i => ∃ x : Nat, i = .int .i64 x ∧ x ≤ t ∧ a = .int .i64 (sumK x (fun z => 16 / 2 ^ dg M row z)) ∧ b = .int .i64 (costB q (fun z => dg M row z) x) ∧ k = .int .i64 ((row / M ^ x : Nat) : Int)) (fun _ _ _ i => t - (intOf i).toNat)
                      case atStart => exact ⟨0, rfl, by omega, rfl, by simp [costB, sumK], by simp⟩
                      case round =>
                        obtain ⟨x, rfl, hx, rfl, rfl, rfl⟩ := hrel
                        have hcb2 := costB_bd (l := q) (d := fun z => (dg M row z : Int)) HQB.out (fun z => by have := dg_le (M := M) (row := row) (i := z) hMa; show 0 ≤ ((dg M row z : Nat) : Int) ∧ ((dg M row z : Nat) : Int) ≤ 4; omega) x (by rw [HQL.out]; exact hx)
                        obtain ⟨ha0, ha1, haj⟩ := hcb2
                        have hss := sumK_bd16 M row hMa x
                        by_cases hxt : x < t
                        · have hq1 : q[x]? = some (q.getD x 0) := by rw [List.getD_eq_getElem?_getD, List.getElem?_eq_getElem (by rw [HQL.out]; exact hxt)]; rfl
                          have e1 : wr.cell? ⟨g6, o6 + x, none⟩ = some (.int .i64 (q.getD x 0)) := RdI.at HO63.out.rd hq1
                          have hxj := haj x (by rw [HQL.out]; exact hxt)
                          have hcs := costB_succ q (fun z => (dg M row z : Int)) x
                          have hsk := sumK_succ x (fun z => (16 : Int) / 2 ^ dg M row z)
                          have hdg := dg_le (M := M) (row := row) (i := x) hMa
                          have hdv : row / M ^ (x + 1) = row / M ^ x / M := by rw [Nat.pow_succ, Nat.div_div_eq_div_mul]
                          have hdd : dg M row x = 1 + row / M ^ x % M := rfl
                          have hrx : row / M ^ x ≤ 1024 := by have := Nat.div_le_self row (M ^ x); omega
                          generalize row / M ^ x = kk at *
                          generalize dg M row x = v at *
                          generalize q.getD x 0 = u at *
                          have hqd : wrap64 ((kk : Int) / (M : Int)) = ((kk / M : Nat) : Int) := by
                            have := Nat.div_le_self kk M
                            rw [← Int.natCast_ediv]; generalize kk / M = z at *; unfold wrap64; omega
                          have hqm : wrap64 (1 + (kk : Int) % (M : Int)) = (v : Int) := by
                            rw [← Int.natCast_emod, hdd]; have := Nat.mod_lt kk (show M > 0 by omega); generalize kk % M = z at *; unfold wrap64; omega
                          obtain ⟨hxj0, hxj1⟩ := hxj
                          obtain ⟨hdg0, hdg1⟩ := hdg
                          have hp16 : 0 ≤ (16 : Int) / 2 ^ v ∧ (16 : Int) / 2 ^ v ≤ 16 := ⟨Int.ediv_nonneg (by omega) (by have := pow_pos' v; omega), Int.ediv_le_self _ (by omega)⟩
                          have hm3 : wrap64 (u * v) = u * v := by generalize u * (v : Int) = z at *; unfold wrap64; omega
                          have hm4 : wrap64 (costB q (fun z => (dg M row z : Int)) x + u * v) = costB q (fun z => (dg M row z : Int)) x + u * v := by generalize u * (v : Int) = z at *; unfold wrap64; omega
                          have hm5 : wrap64 (sumK x (fun z => (16 : Int) / 2 ^ dg M row z) + 16 / 2 ^ v) = sumK x (fun z => (16 : Int) / 2 ^ dg M row z) + 16 / 2 ^ v := by generalize (16 : Int) / 2 ^ v = z at *; unfold wrap64; omega
                          have HCS := Lib.hid hcs
                          have HSK := Lib.hid hsk
                          have HDV := Lib.hid hdv
                          have HQD := Lib.hid hqd
                          clear hcs hsk hdv hdd haj hq1 hqd
                          go_wp2_with fail
                          go_round
                          case rel => exact ⟨x + 1, by go_num, by omega, by rw [HSK.out], by rw [HCS.out], by rw [HDV.out]; exact congrArg (Value.int .i64) HQD.out⟩
                          case measure => simp [intOf]; omega
                        · have hxt2 : x = t := by omega
                          subst hxt2
                          have hbr : sumK x (fun z => (16 : Int) / 2 ^ dg M row z) = 16 → cb ≤ costB q (fun z => (dg M row z : Int)) x := fun h => by
                            have hql := HQL.out
                            have := best_row (l := q) (M := M) (row := row) HQB.out ⟨hMa, hMb⟩ (by omega) (by rw [hql]; exact h)
                            rw [hql] at this
                            rw [HCBE.out]; exact this
                          generalize sumK x (fun z => (16 : Int) / 2 ^ dg M row z) = ss at *
                          generalize costB q (fun z => (dg M row z : Int)) x = cc at *
                          clear haj
                          by_cases h16 : ss = 16
                          · have hge := hbr h16
                            have d5 : decide (cc < cb) = false := by simp; omega
                            clear hbr
                            subst h16
                            go_wp2_with fail
                            go_round
                            case rel => exact ⟨row + 1, by go_num, by omega⟩
                            case measure => simp [intOf]; omega
                          · clear hbr
                            have d5 : (ss == 16) = false := by simpa using h16
                            go_wp2_with fail
                            go_round
                            case rel => exact ⟨row + 1, by go_num, by omega⟩
                            case measure => simp [intOf]; omega
                    · go_wp2_with fail
                      refine (codes_any _).mono ?_
                      rintro e w9 ⟨rfl, hk9⟩
                      have HK9 := Lib.hid (HK3.out.trans' hk9)
                      clear hk9
                      go_wp2_with fail
                      go_ret
                      exact ⟨rfl, HK9.out⟩
end Go.Proofs.Ytnhinhcgdchdkaa
