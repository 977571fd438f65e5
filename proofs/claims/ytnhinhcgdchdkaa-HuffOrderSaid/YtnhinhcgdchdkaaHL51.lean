/- each: with the function value that function 51 makes. -/
import Derived.Test.YtnhinhcgdchdkaaHLP
set_option linter.unusedSimpArgs false
set_option linter.unusedVariables false
namespace Go.Proofs.Ytnhinhcgdchdkaa
open Go Go.Proofs Go.RowKit

set_option maxRecDepth 100000 in
theorem each51_arg (w : World) (A : Option Addr) (n c : Nat) (lens : List Int) (cap : Value) (hr : RdI w .u8 (.slice A n c) lens) (hby : ∀ x ∈ lens, 0 ≤ x ∧ x < 256) (h : ¬ okL lens) :
    Calls Try.prog 44 #[.slice A n c, .func (.func 51) #[] #[cap]] w fun e w' => e = .returned (.int .i64 1) ∧ w = w' := by
  have hl := hr.len.1
  by_cases h1 : 320 < n
  · clear h hl hr hby
    have d1 : decide (320 < (n : Int)) = true := by simp; omega
    go_enter Try.func44, Try.ntmps44
    go_wp2
    go_ret
    exact ⟨rfl, rfl⟩
  · have hx : ∃ x ∈ lens, ¬ ok15 x := by
      unfold okL at h
      simp only [not_and, Classical.not_forall] at h
      obtain ⟨x, hx, h2⟩ := h (by omega)
      exact ⟨x, hx, h2⟩
    have HR := Lib.hid hr
    have HX := Lib.hid hx
    have HBY := Lib.hid hby
    have d1 : decide (320 < (n : Int)) = false := by simp; omega
    clear h hl hr hby hx
    go_enter Try.func44, Try.ntmps44
    go_wp2_with fail
    refine (contains84_yes w A n c lens HR.out HBY.out HX.out).mono ?_
    rintro e w1 ⟨rfl, rfl⟩
    go_wp2_with fail
    go_ret
    exact ⟨rfl, rfl⟩

def Each51 (lens : List Int) (I : List (Nat × Nat × Nat) → World → Prop) (w : World) (e : Ending) (w' : World) : Prop :=
  (¬ Whole lens ∧ e = .returned (.int .i64 60) ∧ w = w') ∨ (Whole lens ∧ e = .returned (.int .i64 0) ∧ I (eachL lens) w')

set_option maxRecDepth 100000 in
set_option maxHeartbeats 1000000 in
theorem each51_any (w : World) (A : Option Addr) (n c : Nat) (lens : List Int) (cap : Value) (hok : okL lens) (I : List (Nat × Nat × Nat) → World → Prop) (h0 : I [] w) (hI : ∀ d W, I d W → RdI W .u8 (.slice A n c) lens)
    (hcall : ∀ d s cd m r W, eachL lens = d ++ (s, cd, m) :: r → I d W → Calls Try.prog 51 #[.int .i64 (s : Nat), .int .i64 (cd : Nat), .int .i64 (m : Nat), cap] W fun e W' => e = .returned (.tuple #[]) ∧ I (d ++ [(s, cd, m)]) W') :
    Calls Try.prog 44 #[.slice A n c, .func (.func 51) #[] #[cap]] w (Each51 lens I w) := by
  have hr := hI _ _ h0
  obtain ⟨hl, hnc, hc⟩ := hr.len
  have hn : n ≤ 320 := by have := hok.1; omega
  have hby : ∀ x ∈ lens, 0 ≤ x ∧ x < 256 := fun x hx => by have := hok.2 x hx; unfold ok15 at this; omega
  have HR := Lib.hid hr
  have HL := Lib.hid hl
  have HOK := Lib.hid hok
  have HBY := Lib.hid hby
  have HI := Lib.hid hI
  have H0 := Lib.hid h0
  have HC := Lib.hid hcall
  have d1 : decide (320 < (n : Int)) = false := by simp; omega
  clear hr hl hok hby hI h0 hcall
  go_enter Try.func44, Try.ntmps44
  go_wp2_with fail
  refine (contains84_no w A n c lens HR.out HBY.out HOK.out.2).mono ?_
  rintro e w1 ⟨rfl, rfl⟩
  go_wp2_with fail
  clear d1
  go_loop [5, 6, 22] (fun a b i => ∃ k : Nat, k ≤ n ∧ i = .int .i64 k ∧ a = .int .i64 (32768 - krTo lens k) ∧ b = .int .i64 (posTo lens k)) (fun _ _ i => n - (intOf i).toNat)
  case atStart => exact ⟨0, by omega, rfl, by simp [krTo], by simp [posTo]⟩
  case round =>
    obtain ⟨k, hk, rfl, rfl, rfl⟩ := hrel
    have hkb := krTo_bd lens k
    have hpb := posTo_bd lens k
    by_cases hlt : k < n
    · obtain ⟨g, off, hA⟩ := HR.out.some (by omega)
      subst hA
      obtain ⟨z, hz⟩ : ∃ z, lens[k]? = some z := ⟨lens[k]'(by have := HL.out; omega), List.getElem?_eq_getElem _⟩
      have hcell := HR.out.at hz
      have hgd : lens.getD k 0 = z := by rw [List.getD_eq_getElem?_getD, hz]; rfl
      have hzb : 0 ≤ z ∧ z ≤ 15 := HOK.out.2 z (List.mem_of_getElem? hz)
      obtain ⟨hz0, hz1⟩ := hzb
      obtain ⟨y, rfl⟩ : ∃ y : Nat, z = y := ⟨z.toNat, by omega⟩
      have hs1 : krTo lens (k + 1) = krTo lens k + if 0 < (y : Int) then 2 ^ (15 - y) else 0 := by simp only [krTo, hgd, Int.toNat_natCast]
      have hs2 : posTo lens (k + 1) = posTo lens k + if 0 < (y : Int) then 1 else 0 := by simp only [posTo, hgd]
      have hp := pow2_le (15 - y) (by omega)
      have hws : wrap64 ((2 : Int) ^ (15 - y)) = 2 ^ (15 - y) := by unfold wrap64; omega
      have hkb2 := krTo_bd lens (k + 1)
      by_cases hpos : 0 < (y : Int)
      · rw [if_pos hpos] at hs1 hs2
        generalize krTo lens k = kr at *
        generalize posTo lens k = ps at *
        have hwd : wrap64 (32768 - kr - 2 ^ (15 - y)) = 32768 - kr - 2 ^ (15 - y) := by generalize (2 : Int) ^ (15 - y) = pw at *; unfold wrap64; omega
        have HS1 := Lib.hid hs1
        have HS2 := Lib.hid hs2
        clear hz hgd hs1 hs2
        go_wp2
        go_round
        case rel => exact ⟨k + 1, by omega, by go_num, by rw [HS1.out]; congr 1; exact Int.sub_sub _ _ _, by rw [HS2.out]⟩
        case measure => simp [intOf]; omega
      · rw [if_neg hpos, Int.add_zero] at hs1 hs2
        rw [← hs1, ← hs2]
        have hpb2 := posTo_bd lens (k + 1)
        clear hs1 hs2 hkb hpb hp hws hz hgd
        go_wp2
        go_round
        case rel => exact ⟨k + 1, by omega, by go_num, rfl, rfl⟩
        case measure => simp [intOf]; omega
    · have hk2 : k = lens.length := by have := HL.out; omega
      have hkr : krTo lens k = krL lens := by rw [hk2]; rfl
      have hps : posTo lens k = posL lens := by rw [hk2]; rfl
      rw [hkr] at hkb ⊢
      rw [hps] at hpb ⊢
      have HE : Hid (∀ e w', Each51 lens I w e w' ↔ (¬ (krL lens = 32768 ∨ posL lens = 0 ∨ (posL lens = 1 ∧ krL lens = 16384)) ∧ e = .returned (.int .i64 60) ∧ w = w') ∨ ((krL lens = 32768 ∨ posL lens = 0 ∨ (posL lens = 1 ∧ krL lens = 16384)) ∧ e = .returned (.int .i64 0) ∧ I (eachL lens) w')) := Lib.hid (fun _ _ => Iff.rfl)
      clear hkr hps hk2
      generalize krL lens = kr at *
      generalize posL lens = ps at *
      go_upto_region 11 with (fail)
      go_cut [5, 6, 49] from 36 to 48 (fun _ _ v wc => wc = w ∧ ((v = .bool true ∧ ¬ (kr = 32768 ∨ ps = 0 ∨ (ps = 1 ∧ kr = 16384))) ∨ (v = .bool false ∧ (kr = 32768 ∨ ps = 0 ∨ (ps = 1 ∧ kr = 16384)))))
      case first =>
        go_wp2_with fail
        all_goals go_meet
        all_goals
          refine ⟨rfl, ?_⟩
          by_cases hW : (kr = 32768 ∨ ps = 0 ∨ (ps = 1 ∧ kr = 16384))
          · exact .inr ⟨by first | rfl | (congr 1; simp; omega), hW⟩
          · first
              | exact .inl ⟨by first | rfl | (congr 1; simp; omega), hW⟩
              | (exfalso; omega)
      case rest =>
        obtain ⟨rfl, ⟨rfl, hW⟩ | ⟨rfl, hW⟩⟩ := hcut
        · have HW := Lib.hid hW
          clear hW
          go_wp2_with fail
          go_ret
          exact (HE.out _ _).2 (.inl ⟨HW.out, rfl, rfl⟩)
        have HW := Lib.hid hW
        clear hW hkb hpb
        go_wp2_with fail
        go_loopw [9, 10] (fun a b W => ∃ m : Nat, m ≤ 15 ∧ a = .int .i64 (nxt lens m) ∧ b = .int .i64 (m + 1) ∧ I (eachTo lens m) W) (fun _ b _ => 17 - (intOf b).toNat)
        case atStart => exact ⟨0, by omega, rfl, rfl, H0.out⟩
        case round =>
          obtain ⟨m, hm, rfl, rfl, hIm⟩ := hrel
          have hnx : nxt lens m ≤ 10485760 := by
            have h1 := nxt_le lens (by have := HOK.out.1; exact this) m
            have h2 := Nat.pow_le_pow_right (n := 2) (by omega) hm
            omega
          have HIM := Lib.hid hIm
          clear hIm
          by_cases hm15 : m < 15
          · have b15 : decide ((m : Int) + 1 ≤ 15) = true := by simp; omega
            go_wp2_with fail
            go_loopw [9, 58] (fun a i W => ∃ k : Nat, k ≤ n ∧ i = .int .i64 k ∧ a = .int .i64 ((2 * nxt lens m + cntTo lens (m + 1) k : Nat) : Int) ∧ I (eachTo lens m ++ scanL lens (m + 1) (2 * nxt lens m) k) W) (fun _ i _ => n - (intOf i).toNat)
            case atStart => exact ⟨0, by omega, rfl, by congr 1; simp [cntTo]; omega, by simp [scanL]; exact HIM.out⟩
            case round =>
              obtain ⟨k, hk, rfl, rfl, hIk⟩ := hrel
              have hcl := cntTo_le lens (m + 1) k
              have hrk := HI.out _ _ hIk
              have HIK := Lib.hid hIk
              have HRK := Lib.hid hrk
              clear hIk hrk
              by_cases hlt : k < n
              · obtain ⟨g, off, hA⟩ := HR.out.some (by omega)
                subst hA
                obtain ⟨z, hz⟩ : ∃ z, lens[k]? = some z := ⟨lens[k]'(by have := HL.out; omega), List.getElem?_eq_getElem _⟩
                have hcell := HRK.out.at hz
                have hgd : lens.getD k 0 = z := by rw [List.getD_eq_getElem?_getD, hz]; rfl
                have hzb : 0 ≤ z ∧ z ≤ 15 := HOK.out.2 z (List.mem_of_getElem? hz)
                obtain ⟨hz0, hz1⟩ := hzb
                obtain ⟨y, rfl⟩ : ∃ y : Nat, z = y := ⟨z.toNat, by omega⟩
                have HGD := Lib.hid hgd
                clear hz hgd
                by_cases hy : y = m + 1
                · have hat := each_at (lens := lens) (n := m) (k := k) hm15 (by have := HL.out; omega) (by rw [HGD.out, hy])
                  obtain ⟨r, hat⟩ := hat
                  have hca := HC.out _ _ _ _ r wr hat HIK.out
                  have hsc : scanL lens (m + 1) (2 * nxt lens m) (k + 1) = _ := scanL_eq (by rw [HGD.out, hy])
                  have hct : cntTo lens (m + 1) (k + 1) = _ := cntTo_eq (by rw [HGD.out, hy])
                  generalize hcd : 2 * nxt lens m + cntTo lens (m + 1) k = cd at *
                  have HCA := Lib.hid hca
                  have HSC := Lib.hid hsc
                  have HCT := Lib.hid hct
                  have HCD := Lib.hid hcd
                  clear hca hsc hct hat
                  have hcdb : cd ≤ 30000000 := by omega
                  clear hcd
                  subst hy
                  have e1 : (((m + 1 : Nat) : Int)) = (m : Int) + 1 := by omega
                  have eb : ((m : Int) + 1 == (m : Int) + 1) = true := by simp
                  rw [e1] at hcell HCA
                  have HE1 := Lib.hid e1
                  clear e1
                  go_wp2_with fail
                  refine (HCA.out).mono ?_
                  rintro e w2 ⟨rfl, hI2⟩
                  have HI2 := Lib.hid hI2
                  clear hI2
                  go_wp2_with fail
                  go_roundw
                  case rel =>
                    exact ⟨k + 1, by omega, by go_num, by congr 1; have := HCT.out; have := HCD.out; omega, by rw [HSC.out, ← List.append_assoc]; exact HI2.out⟩
                  case measure => simp [intOf]; omega
                · have hsc := scanL_ne (lens := lens) (n := m + 1) (c := 2 * nxt lens m) (k := k) (by rw [HGD.out]; omega)
                  have hct := cntTo_ne (lens := lens) (n := m + 1) (k := k) (by rw [HGD.out]; omega)
                  have HSC := Lib.hid hsc
                  have HCT := Lib.hid hct
                  have eb : ((y : Int) == (m : Int) + 1) = false := by simp; omega
                  clear hsc hct
                  go_wp2_with fail
                  go_roundw
                  case rel => exact ⟨k + 1, by omega, by go_num, by rw [HCT.out], by rw [HSC.out]; exact HIK.out⟩
                  case measure => simp [intOf]; omega
              · have hk2 : k = lens.length := by have := HL.out; omega
                have HK2 := Lib.hid hk2
                clear hk2
                go_wp2_with fail
                go_roundw
                case rel => exact ⟨m + 1, by omega, by rw [HK2.out]; rfl, by go_num, by have h := HIK.out; rw [HK2.out] at h; exact h⟩
                case measure => simp [intOf]; omega
          · have hm2 : m = 15 := by omega
            subst hm2
            go_wp2_with fail
            go_ret
            exact (HE.out _ _).2 (.inr ⟨HW.out, rfl, HIM.out⟩)
end Go.Proofs.Ytnhinhcgdchdkaa
