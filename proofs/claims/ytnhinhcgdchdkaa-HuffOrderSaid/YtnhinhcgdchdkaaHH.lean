/- Lengths: is a frequency out of bounds? -/
import Derived.Test.YtnhinhcgdchdkaaHG
set_option linter.unusedSimpArgs false
set_option linter.unusedVariables false
namespace Go.Proofs.Ytnhinhcgdchdkaa
open Go Go.Proofs Go.RowKit

def okF (z : Int) : Prop := 0 ≤ z ∧ z ≤ 1099511627776
instance (z : Int) : Decidable (okF z) := inferInstanceAs (Decidable (_ ∧ _))

theorem bad_no (w : World) (z : Int) (h : okF z) : Calls Try.prog 39 #[.int .i64 z] w fun e w' => e = .returned (.bool false) ∧ w = w' := by
  obtain ⟨h1, h2⟩ := h
  have d1 : decide (z < 0) = false := by simp; omega
  have d2 : decide (1099511627776 < z) = false := by simp; omega
  go_enter Try.func39, Try.ntmps39
  go_wp2
  go_ret
  exact ⟨rfl, rfl⟩
theorem bad_yes (w : World) (z : Int) (h : ¬ okF z) : Calls Try.prog 39 #[.int .i64 z] w fun e w' => e = .returned (.bool true) ∧ w = w' := by
  unfold okF at h
  by_cases h0 : z < 0
  · clear h
    go_enter Try.func39, Try.ntmps39
    go_wp2
    go_ret
    exact ⟨rfl, rfl⟩
  · have h2 : 1099511627776 < z := by omega
    clear h
    go_enter Try.func39, Try.ntmps39
    go_wp2
    go_ret
    exact ⟨rfl, rfl⟩

def Idx39 (l : List Int) (w : World) (e : Ending) (w' : World) : Prop := (∃ z : Int, e = .returned (.int .i64 z) ∧ (0 ≤ z ↔ ∃ x ∈ l, ¬ okF x) ∧ -1 ≤ z ∧ z ≤ 9223372036854775807) ∧ w = w'

set_option maxHeartbeats 1000000 in
theorem index39 (w : World) (A : Option Addr) (n c : Nat) (l : List Int) (hr : RdI w .i64 (.slice A n c) l) :
    Calls Try.prog 78 #[.slice A n c, .func (.func 39) #[] #[]] w (Idx39 l w) := by
  obtain ⟨hl, hn, hc⟩ := hr.len
  have HR := Lib.hid hr
  have HL := Lib.hid hl
  clear hr hl
  go_enter Try.func78, Try.ntmps78
  go_wp2
  go_loop [5, 8] (fun _ i => ∃ k : Nat, k ≤ n ∧ i = .int .i64 k ∧ ∀ j x, j < k → l[j]? = some x → okF x) (fun _ i => n - (intOf i).toNat)
  case atStart => exact ⟨0, by omega, rfl, by omega⟩
  case round =>
    obtain ⟨k, hk, rfl, hall⟩ := hrel
    have HA := Lib.hid hall
    clear hall
    by_cases hlt : k < n
    · obtain ⟨g, off, hA⟩ := HR.out.some (by omega)
      subst hA
      obtain ⟨z, hz⟩ : ∃ z, l[k]? = some z := ⟨l[k]'(by have := HL.out; omega), List.getElem?_eq_getElem _⟩
      have hcell := HR.out.at hz
      have HZ := Lib.hid hz
      clear hz
      by_cases hok : okF z
      · have HOK := Lib.hid hok
        clear hok
        go_wp2_with fail
        refine (bad_no w z HOK.out).mono ?_
        rintro e w1 ⟨rfl, rfl⟩
        go_wp2_with fail
        go_round
        case rel =>
          refine ⟨k + 1, by omega, by go_num, fun j x hj hx => ?_⟩
          by_cases e : j = k
          · subst e; rw [HZ.out] at hx; simp only [Option.some.injEq] at hx; subst hx; exact HOK.out
          · exact HA.out j x (by omega) hx
        case measure => simp [intOf]; omega
      · have HOK := Lib.hid hok
        clear hok
        go_wp2_with fail
        refine (bad_yes w z HOK.out).mono ?_
        rintro e w1 ⟨rfl, rfl⟩
        go_wp2_with fail
        go_ret
        exact ⟨⟨_, rfl, ⟨fun _ => ⟨z, List.mem_of_getElem? HZ.out, HOK.out⟩, fun _ => by omega⟩, by omega, by omega⟩, rfl⟩
    · go_wp2_with fail
      go_ret
      refine ⟨⟨_, rfl, ⟨fun h => by omega, fun ⟨x, hx, hb⟩ => ?_⟩, by omega, by omega⟩, rfl⟩
      obtain ⟨j, hj⟩ := List.getElem?_of_mem hx
      exact absurd (HA.out j x (by have := (List.getElem?_eq_some_iff.1 hj).1; have := HL.out; omega) hj) hb

theorem contains39_yes (w : World) (A : Option Addr) (n c : Nat) (l : List Int) (hr : RdI w .i64 (.slice A n c) l) (h : ∃ x ∈ l, ¬ okF x) :
    Calls Try.prog 38 #[.slice A n c, .func (.func 39) #[] #[]] w fun e w' => e = .returned (.bool true) ∧ w = w' := by
  have HR := Lib.hid hr
  have H := Lib.hid h
  clear hr h
  go_enter Try.func38, Try.ntmps38
  go_wp2_with fail
  refine (index39 w A n c l HR.out).mono ?_
  rintro e w1 ⟨⟨z, rfl, h1, h2, h3⟩, rfl⟩
  have h4 := h1.2 H.out
  clear h1
  go_wp2
  go_ret
  exact ⟨rfl, rfl⟩
theorem contains39_no (w : World) (A : Option Addr) (n c : Nat) (l : List Int) (hr : RdI w .i64 (.slice A n c) l) (h : ∀ x ∈ l, okF x) :
    Calls Try.prog 38 #[.slice A n c, .func (.func 39) #[] #[]] w fun e w' => e = .returned (.bool false) ∧ w = w' := by
  have HR := Lib.hid hr
  have H := Lib.hid h
  clear hr h
  go_enter Try.func38, Try.ntmps38
  go_wp2_with fail
  refine (index39 w A n c l HR.out).mono ?_
  rintro e w1 ⟨⟨z, rfl, h1, h2, h3⟩, rfl⟩
  have h4 : z < 0 := by
    by_cases hz : 0 ≤ z
    · obtain ⟨x, hx, hb⟩ := h1.1 hz
      exact absurd (H.out x hx) hb
    · omega
  clear h1
  go_wp2
  go_ret
  refine ⟨?_, rfl⟩
  show Ending.returned (.bool (decide (0 ≤ z))) = _
  rw [decide_eq_false (by omega)]
end Go.Proofs.Ytnhinhcgdchdkaa
