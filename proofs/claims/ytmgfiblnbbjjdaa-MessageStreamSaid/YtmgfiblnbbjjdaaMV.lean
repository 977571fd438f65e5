/- The example of the statement. -/
import Derived.Test.YtmgfiblnbbjjdaaMU
import Derived.Outline
set_option linter.unusedSimpArgs false
set_option linter.unusedVariables false
namespace Go.Proofs.Ytmgfiblnbbjjdaa
open Go Go.Proofs Go.RowKit

def m7 : Mg := ⟨6, 0, 0, 0, false, false, 0, 0, 7, 0, 0, 0, 0⟩
theorem m7_ok : MOk m7 [] [] := ⟨⟨by simp [m7], by simp [m7], by simp [m7], by simp [m7], by simp [m7], by simp [m7], by simp [m7], by simp [m7], by simp [m7], by simp [m7], by simp [m7]⟩, by simp [m7, known], by simp, by simp, by intro c hc; simp at hc, by simp⟩
theorem m7_fr : fr m7 [] [] = [6, 0, 0, 0, 4, 0, 0, 0, 7] := by decide
theorem m7_of : (ofM m7).cells (.slice none 0 0) (.slice none 0 0) = [.int .u8 6, .int .u32 0, .int .u32 0, .int .u32 0, .bool false, .bool false, .int .u16 0, .int .u16 0, .slice none 0 0, .int .u32 7, .int .u8 0, .int .u16 0, .int .u16 0, .int .u32 0, .slice none 0 0] := by
  simp [ofM, m7, Mg.bare, Mg.cells]
theorem m7_str : strOf [6, 0, 0, 0, 4, 0, 0, 0, 7] = ⟨#[6, 0, 0, 0, 4, 0, 0, 0, 7]⟩ := by rfl

theorem RdI.nil (w : World) (k : IntKind) : RdI w k (.slice none 0 0) [] := ⟨none, 0, 0, rfl, by simp, by omega, by omega, by simp⟩

theorem Write_7 (w : World) : Calls Try.prog 5 #[.agg #[.int .u8 6, .int .u32 0, .int .u32 0, .int .u32 0, .bool false, .bool false, .int .u16 0, .int .u16 0, .slice none 0 0, .int .u32 7, .int .u8 0, .int .u16 0, .int .u16 0, .int .u32 0, .slice none 0 0]] w fun e w' =>
    ∃ A n c, e = .returned (.tuple #[.slice A n c, .int .i64 0]) ∧ Own w' 5 1 (.slice A n c) (([6, 0, 0, 0, 4, 0, 0, 0, 7] : List Int).map (Value.int .u8)) ∧ Kp (fun _ => False) w w' ∧ (∀ k, (Value.slice A n c).ownBlock = some k → w.heap.size ≤ k) := by
  have h := Write_of m7_ok w none none 0 0 0 0 (RdI.nil w .u32) (RdI.nil w .u8)
  rw [m7_fr, m7_of] at h
  exact h

theorem Read_7 (w : World) (A : Option Addr) (n c : Nat) (hr : RdI w .u8 (.slice A n c) [6, 0, 0, 0, 4, 0, 0, 0, 7, 9]) : Calls Try.prog 6 #[.slice A n c] w fun e w' =>
    ∃ S sn sc D dn dc, e = .returned (.tuple #[.agg #[.int .u8 6, .int .u32 0, .int .u32 0, .int .u32 0, .bool false, .bool false, .int .u16 0, .int .u16 0, .slice S sn sc, .int .u32 7, .int .u8 0, .int .u16 0, .int .u16 0, .int .u32 0, .slice D dn dc], .int .i64 9, .int .i64 0]) ∧ Kp (fun _ => False) w w' := by
  refine (Read_msg (rest := [9]) m7_ok w A n c hr (by rw [m7_fr]; rfl) (by intro c hc; simp at hc; omega)).mono ?_
  rintro e w' ⟨S, sn, sc, D, dn, dc, rfl, _, _, h⟩
  refine ⟨S, sn, sc, D, dn, dc, ?_, h⟩
  rw [m7_fr]
  simp [ofM, m7, Mg.bare, Mg.cells]

set_option maxHeartbeats 1000000 in
theorem writes_any (w : World) : Calls Try.prog 8 #[] w fun e w' => e = .returned (.bool true) ∧ Kp (fun _ => False) w w' := by
  go_enter Try.func8, Try.ntmps8
  go_wp2_with fail
  refine (Write_7 _).mono ?_
  rintro e w1 ⟨A, n, c, rfl, ho1, hk1, hb1⟩
  have hl1 : ∀ k, (Value.slice A n c).ownBlock = some k → k < w1.heap.size := fun k hk => ho1.lt hk
  have HO1 := Lib.hid ho1
  have HK1 := Lib.hid hk1
  have HB1 := Lib.hid hb1
  have HL1 := Lib.hid hl1
  clear ho1 hk1 hb1 hl1
  go_wp2_with (first | (at_builtin; refine wpList_append_Own' _ rfl _ _ 23 rfl 5 (.int .u8 0) 1 1 Try.info5 (by kernel_rfl) rfl (by omega) _ _ rfl (HO1.out.kp ((Kp.refl (fun _ => False) _).alloc _) (fun _ _ _ x => x)) _ [.int .u8 9] rfl (Rd.lit (n := 1) (alloc_new w1 _) rfl (by omega)) (by simp [Value.oneCell']) 1000 (by simp) (by omega) (by omega) ?_; intro A2 n2 c2 w2 ho2 hk2 hb2 hr2; have HO2 := Lib.hid ho2; have HK2 := Lib.hid hk2; have HR2 := Lib.hid hr2; clear ho2 hk2 hb2 hr2) | (go_at_call 6; refine (Read_7 _ A2 n2 c2 (by have := HO2.out.rd; simpa [RdI] using this)).mono ?_; rintro e w3 ⟨S, sn, sc, D, dn, dc, rfl, hk3⟩; have HK3 := Lib.hid hk3; have hv := run_convert_rd (w3.alloc (.cells #[.int .u8 6, .int .u32 0, .int .u32 0, .int .u32 0, .bool false, .bool false, .int .u16 0, .int .u16 0, .slice S sn sc, .int .u32 7, .int .u8 0, .int .u16 0, .int .u16 0, .int .u32 0, .slice D dn dc] 30)) (.slice A n c) [6, 0, 0, 0, 4, 0, 0, 0, 7] (Rd.kp HR2.out (HK3.out.alloc _) (fun _ _ _ x => x)); rw [m7_str] at hv; clear hk3))
  go_ret
  refine ⟨rfl, ((HK1.out.trans (((Kp.refl (fun b => w.heap.size ≤ b) w1).alloc _).trans HK2.out (fun b hb e => ?_)) (fun b hb e => by have e' : w.heap.size ≤ b := e; omega)).trans' HK3.out).alloc _⟩
  exact HB1.out b e
end Go.Proofs.Ytmgfiblnbbjjdaa
