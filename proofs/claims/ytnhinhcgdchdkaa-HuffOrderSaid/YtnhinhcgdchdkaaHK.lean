/- each: is a length out of bounds? turn. -/
import Derived.Test.YtnhinhcgdchdkaaHH
import Derived.Laws.BitsAllLaws
import Derived.Laws.BitsLemmas
set_option linter.unusedSimpArgs false
set_option linter.unusedVariables false
namespace Go.Proofs.Ytnhinhcgdchdkaa
open Go Go.Proofs Go.RowKit

def ok15 (z : Int) : Prop := 0 ≤ z ∧ z ≤ 15
instance (z : Int) : Decidable (ok15 z) := inferInstanceAs (Decidable (_ ∧ _))

theorem long_no (w : World) (z : Int) (hz : 0 ≤ z ∧ z < 256) (h : ok15 z) : Calls Try.prog 85 #[.int .u8 z] w fun e w' => e = .returned (.bool false) ∧ w = w' := by
  have d : decide (15 < z) = false := by unfold ok15 at h; simp; omega
  clear h hz
  go_enter Try.func85, Try.ntmps85
  go_wp2
  go_ret
  exact ⟨rfl, rfl⟩
theorem long_yes (w : World) (z : Int) (hz : 0 ≤ z ∧ z < 256) (h : ¬ ok15 z) : Calls Try.prog 85 #[.int .u8 z] w fun e w' => e = .returned (.bool true) ∧ w = w' := by
  have d : decide (15 < z) = true := by unfold ok15 at h; simp; omega
  clear h hz
  go_enter Try.func85, Try.ntmps85
  go_wp2
  go_ret
  exact ⟨rfl, rfl⟩

def Idx85 (l : List Int) (w : World) (e : Ending) (w' : World) : Prop := (∃ z : Int, e = .returned (.int .i64 z) ∧ (0 ≤ z ↔ ∃ x ∈ l, ¬ ok15 x) ∧ -1 ≤ z ∧ z ≤ 9223372036854775807) ∧ w = w'

set_option maxHeartbeats 1000000 in
theorem index85 (w : World) (A : Option Addr) (n c : Nat) (l : List Int) (hr : RdI w .u8 (.slice A n c) l) (hby : ∀ x ∈ l, 0 ≤ x ∧ x < 256) :
    Calls Try.prog 108 #[.slice A n c, .func (.func 85) #[] #[]] w (Idx85 l w) := by
  obtain ⟨hl, hn, hc⟩ := hr.len
  have HR := Lib.hid hr
  have HL := Lib.hid hl
  have HBY := Lib.hid hby
  clear hr hl hby
  go_enter Try.func108, Try.ntmps108
  go_wp2
  go_loop [5, 8] (fun _ i => ∃ k : Nat, k ≤ n ∧ i = .int .i64 k ∧ ∀ j x, j < k → l[j]? = some x → ok15 x) (fun _ i => n - (intOf i).toNat)
  case atStart => exact ⟨0, by omega, rfl, by omega⟩
  case round =>
    obtain ⟨k, hk, rfl, hall⟩ := hrel
    have HA := Lib.hid hall
    clear hall
    by_cases hlt : k < n
    · obtain ⟨g, off, hA⟩ := HR.out.some (by omega)
      subst hA
      obtain ⟨z, hz⟩ : ∃ z, l[k]? = some z := ⟨l[k]'(by have := HL.out; omega), List.getElem?_eq_getElem _⟩
      have hcell := HR.out.at hz
      have HZ := Lib.hid hz
      clear hz
      by_cases hok : ok15 z
      · have HOK := Lib.hid hok
        clear hok
        go_wp2_with fail
        refine (long_no w z (HBY.out z (List.mem_of_getElem? HZ.out)) HOK.out).mono ?_
        rintro e w1 ⟨rfl, rfl⟩
        go_wp2_with fail
        go_round
        case rel =>
          refine ⟨k + 1, by omega, by go_num, fun j x hj hx => ?_⟩
          by_cases e : j = k
          · subst e; rw [HZ.out] at hx; simp only [Option.some.injEq] at hx; subst hx; exact HOK.out
          · exact HA.out j x (by omega) hx
        case measure => simp [intOf]; omega
      · have HOK := Lib.hid hok
        clear hok
        go_wp2_with fail
        refine (long_yes w z (HBY.out z (List.mem_of_getElem? HZ.out)) HOK.out).mono ?_
        rintro e w1 ⟨rfl, rfl⟩
        go_wp2_with fail
        go_ret
        exact ⟨⟨_, rfl, ⟨fun _ => ⟨z, List.mem_of_getElem? HZ.out, HOK.out⟩, fun _ => by omega⟩, by omega, by omega⟩, rfl⟩
    · go_wp2_with fail
      go_ret
      refine ⟨⟨_, rfl, ⟨fun h => by omega, fun ⟨x, hx, hb⟩ => ?_⟩, by omega, by omega⟩, rfl⟩
      obtain ⟨j, hj⟩ := List.getElem?_of_mem hx
      exact absurd (HA.out j x (by have := (List.getElem?_eq_some_iff.1 hj).1; have := HL.out; omega) hj) hb

theorem contains84_yes (w : World) (A : Option Addr) (n c : Nat) (l : List Int) (hr : RdI w .u8 (.slice A n c) l) (hby : ∀ x ∈ l, 0 ≤ x ∧ x < 256) (h : ∃ x ∈ l, ¬ ok15 x) :
    Calls Try.prog 84 #[.slice A n c, .func (.func 85) #[] #[]] w fun e w' => e = .returned (.bool true) ∧ w = w' := by
  have HR := Lib.hid hr
  have H := Lib.hid h
  have HBY := Lib.hid hby
  clear hr h hby
  go_enter Try.func84, Try.ntmps84
  go_wp2_with fail
  refine (index85 w A n c l HR.out HBY.out).mono ?_
  rintro e w1 ⟨⟨z, rfl, h1, h2, h3⟩, rfl⟩
  have h4 := h1.2 H.out
  clear h1
  go_wp2
  go_ret
  exact ⟨rfl, rfl⟩
theorem contains84_no (w : World) (A : Option Addr) (n c : Nat) (l : List Int) (hr : RdI w .u8 (.slice A n c) l) (hby : ∀ x ∈ l, 0 ≤ x ∧ x < 256) (h : ∀ x ∈ l, ok15 x) :
    Calls Try.prog 84 #[.slice A n c, .func (.func 85) #[] #[]] w fun e w' => e = .returned (.bool false) ∧ w = w' := by
  have HR := Lib.hid hr
  have H := Lib.hid h
  have HBY := Lib.hid hby
  clear hr h hby
  go_enter Try.func84, Try.ntmps84
  go_wp2_with fail
  refine (index85 w A n c l HR.out HBY.out).mono ?_
  rintro e w1 ⟨⟨z, rfl, h1, h2, h3⟩, rfl⟩
  have h4 : z < 0 := by
    by_cases hz : 0 ≤ z
    · obtain ⟨x, hx, hb⟩ := h1.1 hz
      exact absurd (H.out x hx) hb
    · omega
  clear h1
  go_wp2
  go_ret
  refine ⟨?_, rfl⟩
  show Ending.returned (.bool (decide (0 ≤ z))) = _
  rw [decide_eq_false (by omega)]

/-- A code's bits, the other way round. -/
def turnN : Nat → Nat → Nat → Nat
  | 0, _, o => o
  | n + 1, c, o => turnN n (c / 2) (2 * o + c % 2)

theorem ofInt_i64 (a : Nat) (ha : a < 9223372036854775808) : (BitVec.ofInt 64 (a : Int)).toNat = a := by
  rw [BitVec.ofInt_natCast, BitVec.toNat_ofNat]; exact Nat.mod_eq_of_lt (by omega)
theorem i64_and_nat (a b : Nat) (ha : a < 9223372036854775808) (hb : b < 9223372036854775808) : bits .and .i64 (a : Int) (b : Int) = ((a &&& b : Nat) : Int) := by
  have hx : a &&& b < 2 ^ 63 := Nat.and_lt_two_pow _ (by omega)
  show IntKind.i64.wrap ((BitVec.ofInt 64 (a : Int) &&& BitVec.ofInt 64 (b : Int)).toNat : Int) = _
  rw [BitVec.toNat_and, ofInt_i64 a ha, ofInt_i64 b hb, IntKind.wrap_i64]
  omega
theorem i64_or_nat (a b : Nat) (ha : a < 9223372036854775808) (hb : b < 9223372036854775808) : bits .or .i64 (a : Int) (b : Int) = ((a ||| b : Nat) : Int) := by
  have hx : a ||| b < 2 ^ 63 := Nat.or_lt_two_pow (by omega) (by omega)
  show IntKind.i64.wrap ((BitVec.ofInt 64 (a : Int) ||| BitVec.ofInt 64 (b : Int)).toNat : Int) = _
  rw [BitVec.toNat_or, ofInt_i64 a ha, ofInt_i64 b hb, IntKind.wrap_i64]
  omega
theorem or_low (a b k : Nat) (h : b < 2 ^ k) : (a * 2 ^ k) ||| b = a * 2 ^ k + b := by
  rw [← Nat.shiftLeft_eq, Nat.shiftLeft_add_eq_or_of_lt h]
theorem i64_bit (o c : Nat) (ho : o < 4611686018427387904) (hc : c < 9223372036854775808) : bits .or .i64 ((o : Int) * 2) (bits .and .i64 (c : Int) 1) = ((2 * o + c % 2 : Nat) : Int) := by
  have h1 := i64_and_nat c 1 hc (by omega)
  rw [Nat.and_one_is_mod] at h1
  rw [show (1 : Int) = ((1 : Nat) : Int) from rfl, h1, show ((o : Int) * 2) = ((o * 2 : Nat) : Int) from by omega, i64_or_nat _ _ (by omega) (by omega)]
  have h2 := or_low o (c % 2) 1 (by omega)
  rw [Nat.pow_one] at h2
  rw [h2]; congr 1; omega
theorem turnN_lt : ∀ (n c o k : Nat), o < 2 ^ k → turnN n c o < 2 ^ (k + n)
  | 0, c, o, k, h => by simpa [turnN] using h
  | n + 1, c, o, k, h => by
    have h1 := turnN_lt n (c / 2) (2 * o + c % 2) (k + 1) (by rw [Nat.pow_succ]; omega)
    rw [show k + (n + 1) = k + 1 + n from by omega]
    exact h1

set_option maxHeartbeats 1000000 in
theorem turn_any (w : World) (c n : Nat) (hc : c < 2147483648) (hn : n ≤ 15) :
    Calls Try.prog 52 #[.int .i64 c, .int .i64 n] w fun e w' => e = .returned (.int .u16 (turnN n c 0)) ∧ w = w' := by
  go_enter Try.func52, Try.ntmps52
  go_wp2
  go_loop [0, 5, 7] (fun a o i => ∃ k cc oo : Nat, k ≤ n ∧ i = .int .i64 k ∧ a = .int .i64 cc ∧ o = .int .i64 oo ∧ cc < 2147483648 ∧ oo < 2 ^ k ∧ turnN (n - k) cc oo = turnN n c 0) (fun _ _ i => n - (intOf i).toNat)
  case atStart => exact ⟨0, c, 0, by omega, rfl, rfl, rfl, hc, by simp, by simp⟩
  case round =>
    obtain ⟨k, cc, oo, hk, rfl, rfl, rfl, hcc, hoo, heq⟩ := hrel
    have hp : 2 ^ k ≤ 32768 := by have := Nat.pow_le_pow_right (n := 2) (by omega) (show k ≤ 15 by omega); omega
    have HOO := Lib.hid hoo
    have HEQ := Lib.hid heq
    have ho2 : oo < 32768 := by omega
    clear hoo heq hp
    by_cases hlt : k < n
    · go_wp2
      go_round
      case rel =>
        refine ⟨k + 1, cc / 2, 2 * oo + cc % 2, by omega, by go_num, by congr 1, ?_, by omega, ?_, ?_⟩
        · rw [i64_bit oo cc (by omega) (by omega)]
        · have := HOO.out; rw [Nat.pow_succ]; omega
        · have h := HEQ.out
          rw [show n - k = (n - (k + 1)) + 1 from by omega] at h
          exact h
      case measure => simp [intOf]; omega
    · have he : oo = turnN n c 0 := by have h := HEQ.out; rwa [show n - k = 0 from by omega] at h
      have HE := Lib.hid he
      clear he
      go_wp2
      go_ret
      exact ⟨by show Ending.returned (.int .u16 (oo : Int)) = _; rw [HE.out], rfl⟩
end Go.Proofs.Ytnhinhcgdchdkaa
