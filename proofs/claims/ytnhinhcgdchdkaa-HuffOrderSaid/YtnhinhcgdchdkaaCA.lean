/- HuffOrder: the walk. -/
import Derived.Test.YtnhinhcgdchdkaaHR
set_option linter.unusedSimpArgs false
set_option linter.unusedVariables false
namespace Go.Proofs.Ytnhinhcgdchdkaa
open Go Go.Proofs Go.RowKit

def twoTo (l : List Int) (k : Nat) : List Int := (l.take k).map (2 * ·)
theorem twoTo_succ {l : List Int} {k : Nat} {x : Int} (h : l[k]? = some x) : twoTo l (k + 1) = twoTo l k ++ [2 * x] := by
  unfold twoTo; rw [List.take_add_one, h]; simp
theorem twoTo_all {l : List Int} {k : Nat} (h : l.length ≤ k) : twoTo l k = two l := by unfold twoTo two; rw [List.take_of_length_le h]
theorem twoTo_len (l : List Int) (k : Nat) : (twoTo l k).length = min k l.length := by simp [twoTo]

/-- The cost of the first i. -/
def costR (l R : List Int) (i : Nat) : Int := sumK i (fun k => l.getD k 0 * R.getD k 0)
theorem costR_succ (l R : List Int) (i : Nat) : costR l R (i + 1) = costR l R i + l.getD i 0 * R.getD i 0 := sumK_succ _ _
theorem getD_bd {l : List Int} {B : Int} (h : ∀ x ∈ l, 0 ≤ x ∧ x ≤ B) (hB : 0 ≤ B) (k : Nat) : 0 ≤ l.getD k 0 ∧ l.getD k 0 ≤ B := by
  rw [List.getD_eq_getElem?_getD]
  cases e : l[k]? with
  | none => simp; exact hB
  | some x => exact h x (List.mem_of_getElem? e)
theorem costR_bd {l R : List Int} (hl : ∀ x ∈ l, 0 ≤ x ∧ x ≤ 1099511627776) (hR : ∀ x ∈ R, 0 ≤ x ∧ x ≤ 15) (i : Nat) : 0 ≤ costR l R i ∧ costR l R i ≤ i * 16492674416640 ∧ 0 ≤ l.getD i 0 * R.getD i 0 ∧ l.getD i 0 * R.getD i 0 ≤ 16492674416640 := by
  have hj : ∀ j, 0 ≤ l.getD j 0 * R.getD j 0 ∧ l.getD j 0 * R.getD j 0 ≤ 16492674416640 := fun j => by
    have h1 := getD_bd hl (by omega) j
    have h2 := getD_bd hR (by omega) j
    refine ⟨Int.mul_nonneg h1.1 h2.1, ?_⟩
    have := Int.mul_le_mul h1.2 h2.2 h2.1 (by omega)
    omega
  refine ⟨?_, ?_, hj i⟩
  · induction i with
    | zero => simp [costR, sumK]
    | succ i ih => rw [costR_succ]; have := hj i; omega
  · induction i with
    | zero => simp [costR, sumK]
    | succ i ih => rw [costR_succ]; have := hj i; omega
theorem costR_two (l R : List Int) (i : Nat) : costR (two l) R i = 2 * costR l R i := by
  unfold costR
  rw [← sumK_mul]
  exact sumK_congr (fun k _ => by rw [two_getD, Int.mul_assoc])

set_option maxRecDepth 100000 in
set_option maxHeartbeats 2000000 in
theorem Order_walk (w : World) (A : Option Addr) (n c : Nat) (l : List Int) (z : Int) (hr : RdI w .i64 (.slice A n c) l) :
    Calls Try.prog 5 #[.slice A n c, .int .i64 z] w fun e w' => e = .returned (.bool true) ∧ Kp (fun _ => False) w w' := by
  obtain ⟨hl, hnc, hc⟩ := hr.len
  have HR := Lib.hid hr
  have HL := Lib.hid hl
  clear hr hl
  by_cases hn60 : 60 < n
  · go_enter Try.func5, Try.ntmps5
    go_wp2
    go_ret
    exact ⟨rfl, Kp.refl _ _⟩
  have dn : decide (60 < (n : Int)) = false := by simp; omega
  go_enter Try.func5, Try.ntmps5
  go_wp2_with fail
  clear dn
  go_loopw [5, 6] (fun v i W => ∃ (k : Nat) (A5 : Option Addr) (n5 c5 : Nat), i = .int .i64 k ∧ k ≤ n ∧ v = .slice A5 n5 c5 ∧ Own W 3 1 (.slice A5 n5 c5) ((twoTo l k).map (Value.int .i64)) ∧ Kp (fun _ => False) w W ∧ (∀ q, (Value.slice A5 n5 c5).ownBlock = some q → w.heap.size ≤ q) ∧ ∀ j x, j < k → l[j]? = some x → 0 ≤ x ∧ x ≤ 549755813888) (fun _ i _ => n - (intOf i).toNat)
  case atStart => exact ⟨0, none, 0, 0, rfl, by omega, rfl, by simpa [twoTo] using Own.nil _ _ _, Kp.refl _ _, by simp [Value.ownBlock], by omega⟩
  case round =>
    obtain ⟨k, A5, n5, c5, rfl, hk, rfl, ho, hkp, hob, hall⟩ := hrel
    have HO := Lib.hid ho
    have HKP := Lib.hid hkp
    have HOB := Lib.hid hob
    have HALL := Lib.hid hall
    by_cases hlt : k < n
    · obtain ⟨g, off, hA⟩ := HR.out.some (by omega)
      subst hA
      obtain ⟨x, hx⟩ : ∃ x, l[k]? = some x := ⟨l[k]'(by have := HL.out; omega), List.getElem?_eq_getElem _⟩
      have hcell := RdI.at (Rd.kpF HR.out hkp) hx
      have hts := twoTo_succ hx
      have hnl : ((twoTo l k).map (Value.int .i64)).length + 1 ≤ 1000 * 1 := by rw [List.length_map, twoTo_len]; omega
      have HX := Lib.hid hx
      have HTS := Lib.hid hts
      have HNL := Lib.hid hnl
      clear hx hts hnl ho hkp hob hall
      by_cases hbd : 0 ≤ x ∧ x ≤ 549755813888
      · obtain ⟨hb0, hb1⟩ := hbd
        have d1 : decide (x < 0) = false := by simp; omega
        have d2 : decide (549755813888 < x) = false := by simp; omega
        go_wp2_with (first | (at_builtin; refine wpList_append_Own _ rfl (.tmp 37) (.tmp 43) 22 rfl 3 (.int .i64 0) 1 8 Try.info3 (by kernel_rfl) rfl (by omega) (.slice A5 n5 c5) _ rfl (HO.out.kpF ((Kp.refl _ _).alloc _)) _ [.int .i64 (2 * x)] rfl (Rd.lit (n := 1) (alloc_new wr _) rfl (by omega)) (by simp [Value.oneCell']) 1000 (by have := HNL.out; simpa using this) (by omega) (by omega) ?_; intro A2 n2 c2 w2 ho2 hk2 hb2; have HO2 := Lib.hid ho2; have HK2 := Lib.hid hk2; have HB2 := Lib.hid hb2; clear ho2 hk2 hb2))
        go_roundw
        case rel =>
          refine ⟨k + 1, A2, n2, c2, by go_num, by omega, rfl, by rw [HTS.out]; simpa using HO2.out, HKP.out.trans (((Kp.refl (fun b => (Value.slice A5 n5 c5).ownBlock = some b) wr).alloc _).trans' HK2.out) (fun q hq e => by have := HOB.out q e; omega), fun q hq => ?_, fun j y hj hy => ?_⟩
          · rcases HB2.out q hq with e | e
            · exact HOB.out q e
            · have := HKP.out.size; simp at e; omega
          · by_cases e : j = k
            · subst e; rw [HX.out] at hy; simp only [Option.some.injEq] at hy; omega
            · exact HALL.out j y (by omega) hy
        case measure => simp [intOf]; omega
      · have hbd2 : x < 0 ∨ 549755813888 < x := by omega
        rcases hbd2 with hb | hb
        · go_wp2_with fail
          refine (codes_any _).mono ?_
          rintro e w9 ⟨rfl, hk9⟩
          have HK9 := Lib.hid (HKP.out.trans' hk9)
          clear hk9
          go_wp2_with fail
          go_ret
          exact ⟨rfl, HK9.out⟩
        · have d1 : decide (x < 0) = false := by simp; omega
          go_wp2_with fail
          refine (codes_any _).mono ?_
          rintro e w9 ⟨rfl, hk9⟩
          have HK9 := Lib.hid (HKP.out.trans' hk9)
          clear hk9
          go_wp2_with fail
          go_ret
          exact ⟨rfl, HK9.out⟩
    · have hlb : ∀ x ∈ l, 0 ≤ x ∧ x ≤ 549755813888 := fun x hx => by
        obtain ⟨j, hj⟩ := List.getElem?_of_mem hx
        exact hall j x (by have := (List.getElem?_eq_some_iff.1 hj).1; have := HL.out; omega) hj
      rw [twoTo_all (by have := HL.out; omega)] at ho
      have hlt2 := lenRes_two z hlb
      have HLB := Lib.hid hlb
      have HO2 := Lib.hid ho
      have HLT := Lib.hid hlt2
      clear hlb ho hall hkp hob hlt2 HALL HO
      go_wp2_with fail
      refine (Lengths_tot wr A n c l z (Rd.kpF HR.out HKP.out)).mono ?_
      rintro e w2 ⟨A7, n7, c7, rfl, ho7, hk7, hb7⟩
      have HO7 := Lib.hid ho7
      have HK7 := Lib.hid hk7
      clear ho7 hk7 hb7
      go_wp2_with fail
      refine (Lengths_tot w2 A5 n5 c5 (two l) z (HO2.out.rd.kpF HK7.out)).mono ?_
      rintro e w3 ⟨A9, n9, c9, rfl, ho9, hk9, hb9⟩
      rw [HLT.out] at ho9 ⊢
      have hn7 : (lenRes l z).2.length = n7 := by
        obtain ⟨_, n1, _, he, h1, _⟩ := HO7.out.len
        simp only [Value.slice.injEq] at he
        obtain ⟨_, rfl, _⟩ := he
        simpa using h1
      have hn9 : n7 = n9 := by
        obtain ⟨_, n1, _, he, h1, _⟩ := ho9.len
        simp only [Value.slice.injEq] at he
        obtain ⟨_, rfl, _⟩ := he
        rw [← hn7]; simpa using h1
      subst hn9
      have hn7n : n7 ≤ n := by rcases lenRes_len l z with h | h <;> have := HL.out <;> omega
      have hrb := lenRes_bd l z
      have hro := fun i k ri rk => lenRes_order (l := l) (z := z) (i := i) (k := k) (ri := ri) (rk := rk)
      have HO9 := Lib.hid ho9
      have HK9 := Lib.hid hk9
      clear ho9 hk9 hb9 HLT
      generalize lenRes l z = res at *
      obtain ⟨er, Rl⟩ := res
      simp only at hn7 hrb hro
      have HRB := Lib.hid hrb
      have HRO := Lib.hid hro
      have HN7 := Lib.hid hn7
      clear hrb hro hn7
      have HKW := Lib.hid ((HKP.out.trans' HK7.out).trans' HK9.out)
      have HR3 := Lib.hid (Rd.kpF HR.out HKW.out : RdI w3 .i64 (.slice A n c) l)
      have HT3 := Lib.hid ((HO2.out.kpF HK7.out).kpF HK9.out)
      have HL3 := Lib.hid (HO7.out.kpF HK9.out)
      clear HO7 HO2 HK7 HK9 HKP HOB
      have hn5 : n5 = n := by
        obtain ⟨_, n1, _, he, h1, _⟩ := HT3.out.len
        simp only [Value.slice.injEq] at he
        obtain ⟨_, rfl, _⟩ := he
        have := HL.out
        simp [two_len] at h1; omega
      go_wp2_with fail
      go_loopw [11, 12, 13] (fun a b i W => ∃ j : Nat, i = .int .i64 j ∧ j ≤ n7 ∧ a = .int .i64 (costR l Rl j) ∧ b = .int .i64 (2 * costR l Rl j) ∧ Kp (fun _ => False) w3 W) (fun _ _ i _ => n7 - (intOf i).toNat)
      case atStart => exact ⟨0, rfl, by omega, by simp [costR, sumK], by simp [costR, sumK], Kp.refl _ _⟩
      case round =>
        obtain ⟨j, rfl, hj, rfl, rfl, hkj⟩ := hrel
        obtain ⟨ha0, ha1, hp0, hp1⟩ := costR_bd (l := l) (R := Rl) (fun x hx => by have := HLB.out x hx; omega) HRB.out j
        have hcs := costR_succ l Rl j
        by_cases hjn : j < n7
        · obtain ⟨g, off, hA⟩ := RdI.some HR3.out (by omega)
          subst hA
          obtain ⟨g5, o5, hA5⟩ := HT3.out.isSome (by omega)
          subst hA5
          obtain ⟨g7, o7, hA7⟩ := HL3.out.isSome (by omega)
          subst hA7
          obtain ⟨g9, o9, hA9⟩ := HO9.out.isSome (by omega)
          subst hA9
          have hbs : n ≤ c5 ∧ n7 ≤ c7 ∧ n7 ≤ c9 := by
            have q1 := HT3.out.rd
            have q2 := HL3.out.rd
            have q3 := HO9.out.rd
            obtain ⟨_, _, _, e1, _, h1, _⟩ := q1
            obtain ⟨_, _, _, e2, _, h2, _⟩ := q2
            obtain ⟨_, _, _, e3, _, h3, _⟩ := q3
            simp only [Value.slice.injEq] at e1 e2 e3
            omega
          obtain ⟨hbs1, hbs2, hbs3⟩ := hbs
          have hl1 : l[j]? = some (l.getD j 0) := by rw [List.getD_eq_getElem?_getD, List.getElem?_eq_getElem (by rw [HL.out]; omega)]; rfl
          have hr1 : Rl[j]? = some (Rl.getD j 0) := by rw [List.getD_eq_getElem?_getD, List.getElem?_eq_getElem (by rw [HN7.out]; omega)]; rfl
          have ht1 : (two l)[j]? = some (2 * l.getD j 0) := by rw [two, List.getElem?_map, hl1]; rfl
          have hub := HLB.out _ (List.mem_of_getElem? hl1)
          have hvb := HRB.out _ (List.mem_of_getElem? hr1)
          have e1 : wr.cell? ⟨g, off + j, none⟩ = some (.int .i64 (l.getD j 0)) := RdI.at (Rd.kpF HR3.out hkj) hl1
          have e2 : wr.cell? ⟨g7, o7 + j, none⟩ = some (.int .u8 (Rl.getD j 0)) := (HL3.out.kpF hkj).cellAt (by rw [List.getElem?_map, hr1]; rfl)
          have e3 : wr.cell? ⟨g5, o5 + j, none⟩ = some (.int .i64 (2 * l.getD j 0)) := (HT3.out.kpF hkj).cellAt (by rw [List.getElem?_map, ht1]; rfl)
          have e4 : wr.cell? ⟨g9, o9 + j, none⟩ = some (.int .u8 (Rl.getD j 0)) := (HO9.out.kpF hkj).cellAt (by rw [List.getElem?_map, hr1]; rfl)
          have HL1 := Lib.hid hl1
          have HR1 := Lib.hid hr1
          have HKJ := Lib.hid hkj
          have HRO1 := Lib.hid (fun k rk => HRO.out j k (Rl.getD j 0) rk hr1)
          have HGU : Hid (∃ u v, u = l.getD j 0 ∧ v = Rl.getD j 0) := Lib.hid ⟨_, _, rfl, rfl⟩
          clear hl1 hr1 ht1 hkj
          obtain ⟨cj, hcj⟩ : ∃ cj, cj = costR l Rl j := ⟨_, rfl⟩
          rw [← hcj] at hcs ha0 ha1 ⊢
          obtain ⟨u, hu⟩ : ∃ u, u = l.getD j 0 := ⟨_, rfl⟩
          obtain ⟨v, hv⟩ : ∃ v, v = Rl.getD j 0 := ⟨_, rfl⟩
          rw [← hu, ← hv] at hcs hp0 hp1
          rw [← hu] at hub e1 e3
          rw [← hv] at hvb e2 e4
          have HU := Lib.hid hu
          have HV := Lib.hid hv
          have HCS := Lib.hid hcs
          clear hu hv hcs hcj HGU
          obtain ⟨hu0, hu1⟩ := hub
          obtain ⟨hv0, hv1⟩ := hvb
          have hm0 : 2 * u * v = 2 * (u * v) := Int.mul_assoc _ _ _
          have HM0 := Lib.hid hm0
          have hm1 : IntKind.i64.wrap (u * v) = u * v := IntWalk.i64_in _ (by omega)
          have hm2 : IntKind.i64.wrap (cj + u * v) = cj + u * v := IntWalk.i64_in _ (by omega)
          have hm3 : IntKind.i64.wrap (2 * u * v) = 2 * u * v := IntWalk.i64_in _ (by omega)
          have hm4 : IntKind.i64.wrap (2 * cj + 2 * u * v) = 2 * cj + 2 * u * v := IntWalk.i64_in _ (by omega)
          clear hm0
          go_wp2_with fail
          go_quiet (fail)
          go_wp2_with fail
          go_quiet (fail)
          clear hm1 hm2 hm3 hm4 e1 e2 e3 e4
          go_wp2_with fail
          go_loopw [14] (fun i W => ∃ k : Nat, i = .int .i64 k ∧ k ≤ n7 ∧ Kp (fun _ => False) w3 W) (fun i _ => n7 - (intOf i).toNat)
          case atStart => exact ⟨0, rfl, by omega, by repeat (first | exact HKJ.out | refine Kp.drewN ?_ _ | refine Kp.drew ?_)⟩
          case round =>
            obtain ⟨k, rfl, hk, hkk⟩ := hrel
            by_cases hkn : k < n7
            · have hl2 : l[k]? = some (l.getD k 0) := by rw [List.getD_eq_getElem?_getD, List.getElem?_eq_getElem (by rw [HL.out]; omega)]; rfl
              have hr2 : Rl[k]? = some (Rl.getD k 0) := by rw [List.getD_eq_getElem?_getD, List.getElem?_eq_getElem (by rw [HN7.out]; omega)]; rfl
              have e1 : wr.cell? ⟨g, off + j, none⟩ = some (.int .i64 u) := by rw [HU.out]; exact RdI.at (Rd.kpF HR3.out hkk) HL1.out
              have e2 : wr.cell? ⟨g7, o7 + j, none⟩ = some (.int .u8 v) := by rw [HV.out]; exact (HL3.out.kpF hkk).cellAt (by rw [List.getElem?_map, HR1.out]; rfl)
              have e3 : wr.cell? ⟨g, off + k, none⟩ = some (.int .i64 (l.getD k 0)) := RdI.at (Rd.kpF HR3.out hkk) hl2
              have e4 : wr.cell? ⟨g7, o7 + k, none⟩ = some (.int .u8 (Rl.getD k 0)) := (HL3.out.kpF hkk).cellAt (by rw [List.getElem?_map, hr2]; rfl)
              have hord : l.getD k 0 < u → 0 < l.getD k 0 → v ≤ Rl.getD k 0 := fun h1 h2 => by rw [HU.out] at h1; rw [HV.out]; exact HRO1.out k _ hr2 h1 h2
              have hxb := HLB.out _ (List.mem_of_getElem? hl2)
              have htb := HRB.out _ (List.mem_of_getElem? hr2)
              generalize l.getD k 0 = x at *
              generalize Rl.getD k 0 = t at *
              have HKK := Lib.hid hkk
              have HORD := Lib.hid hord
              clear hl2 hr2 hkk hord
              obtain ⟨hx0, hx1⟩ := hxb
              obtain ⟨ht0, ht1⟩ := htb
              by_cases c1 : x < u
              · by_cases c2 : 0 < x
                · have c3 := HORD.out c1 c2
                  have b1 : decide (x < u) = true := by simpa using c1
                  have b2 : decide (0 < x) = true := by simpa using c2
                  have b3 : decide (t < v) = false := by simp; omega
                  go_wp2_with fail
                  go_quiet (fail)
                  go_wp2_with fail
                  go_roundw
                  case rel => exact ⟨k + 1, by go_num, by omega, by repeat (first | exact HKK.out | refine Kp.drewN ?_ _ | refine Kp.drew ?_)⟩
                  case measure => simp [intOf]; omega
                · have b1 : decide (x < u) = true := by simpa using c1
                  have b2 : decide (0 < x) = false := by simpa using c2
                  go_wp2_with fail
                  go_quiet (fail)
                  go_wp2_with fail
                  go_roundw
                  case rel => exact ⟨k + 1, by go_num, by omega, by repeat (first | exact HKK.out | refine Kp.drewN ?_ _ | refine Kp.drew ?_)⟩
                  case measure => simp [intOf]; omega
              · have b1 : decide (x < u) = false := by simpa using c1
                go_wp2_with fail
                go_quiet (fail)
                go_wp2_with fail
                go_roundw
                case rel => exact ⟨k + 1, by go_num, by omega, by repeat (first | exact HKK.out | refine Kp.drewN ?_ _ | refine Kp.drew ?_)⟩
                case measure => simp [intOf]; omega
            · go_wp2_with fail
              go_roundw
              case rel => exact ⟨j + 1, by go_num, by omega, by rw [HCS.out], by rw [HCS.out]; congr 1; rw [HM0.out]; omega, hkk⟩
              case measure => simp [intOf]; omega
        · have hjn2 : j = n7 := by omega
          subst hjn2
          have HKJ := Lib.hid (HKW.out.trans' hkj)
          clear hkj hcs hp0 hp1
          generalize costR l Rl j = cj at *
          go_wp2_with fail
          refine (codes_any _).mono ?_
          rintro e w9 ⟨rfl, hk9⟩
          have HK9 := Lib.hid (HKJ.out.trans' hk9)
          clear hk9
          go_wp2_with fail
          go_ret
          exact ⟨rfl, HK9.out⟩
end Go.Proofs.Ytnhinhcgdchdkaa
