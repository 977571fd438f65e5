/- The message of a type. -/
import Derived.Test.YtmgfiblnbbjjdaaMP
import Derived.Test.YtmgfiblnbbjjdaaMK
set_option linter.unusedSimpArgs false
set_option linter.unusedVariables false
namespace Go.Proofs.Ytmgfiblnbbjjdaa
open Go Go.Proofs Go.RowKit

def nilS : Value := .slice none 0 0

set_option maxHeartbeats 1000000 in
theorem Of_1 (w : World) (m : Mg) (sA dA : Option Addr) (sn sc dn dc : Nat) (hty : m.ty = 1) :
    Calls Try.prog 4 #[.agg (m.cells (.slice sA sn sc) (.slice dA dn dc)).toArray] w fun e w' => e = .returned (.agg ((ofM m).cells (.slice sA sn sc) nilS).toArray) ∧ Kp (fun _ => False) w w' := by
  have hc : True := trivial
  obtain ⟨ty, life, frame, base, has, full, w', h, seq, ek, ex, ey, ec⟩ := m
  simp only at hty
  subst hty
  unfold Mg.cells
  go_enter Try.func4, Try.ntmps4
  go_wp2
  refine bodyPost_ret (v := .agg #[.int .u8 1, .int .u32 life, .int .u32 frame, .int .u32 0, .bool has, .bool false, .int .u16 0, .int .u16 0, .slice sA sn sc, .int .u32 0, .int .u8 0, .int .u16 0, .int .u16 0, .int .u32 0, .slice none 0 0]) (by simp [results, Try.results4, go_sem]) rfl ⟨?_, ?_⟩
  · simp [ofM, Mg.bare, Mg.cells, nilS]
  · repeat (first | exact Kp.refl _ _ | refine Kp.alloc ?_ _ | refine Kp.drew ?_)

set_option maxHeartbeats 1000000 in
theorem Of_2 (w : World) (m : Mg) (sA dA : Option Addr) (sn sc dn dc : Nat) (hty : m.ty = 2) :
    Calls Try.prog 4 #[.agg (m.cells (.slice sA sn sc) (.slice dA dn dc)).toArray] w fun e w' => e = .returned (.agg ((ofM m).cells nilS nilS).toArray) ∧ Kp (fun _ => False) w w' := by
  have hc : True := trivial
  obtain ⟨ty, life, frame, base, has, full, w', h, seq, ek, ex, ey, ec⟩ := m
  simp only at hty
  subst hty
  unfold Mg.cells
  go_enter Try.func4, Try.ntmps4
  go_wp2
  refine bodyPost_ret (v := .agg #[.int .u8 2, .int .u32 life, .int .u32 0, .int .u32 0, .bool false, .bool false, .int .u16 w', .int .u16 h, .slice none 0 0, .int .u32 seq, .int .u8 0, .int .u16 0, .int .u16 0, .int .u32 0, .slice none 0 0]) (by simp [results, Try.results4, go_sem]) rfl ⟨?_, ?_⟩
  · simp [ofM, Mg.bare, Mg.cells, nilS]
  · repeat (first | exact Kp.refl _ _ | refine Kp.alloc ?_ _ | refine Kp.drew ?_)

set_option maxHeartbeats 1000000 in
theorem Of_3 (w : World) (m : Mg) (sA dA : Option Addr) (sn sc dn dc : Nat) (hty : m.ty = 3) :
    Calls Try.prog 4 #[.agg (m.cells (.slice sA sn sc) (.slice dA dn dc)).toArray] w fun e w' => e = .returned (.agg ((ofM m).cells nilS nilS).toArray) ∧ Kp (fun _ => False) w w' := by
  have hc : True := trivial
  obtain ⟨ty, life, frame, base, has, full, w', h, seq, ek, ex, ey, ec⟩ := m
  simp only at hty
  subst hty
  unfold Mg.cells
  go_enter Try.func4, Try.ntmps4
  go_wp2
  refine bodyPost_ret (v := .agg #[.int .u8 3, .int .u32 0, .int .u32 0, .int .u32 0, .bool false, .bool false, .int .u16 0, .int .u16 0, .slice none 0 0, .int .u32 0, .int .u8 0, .int .u16 0, .int .u16 0, .int .u32 0, .slice none 0 0]) (by simp [results, Try.results4, go_sem]) rfl ⟨?_, ?_⟩
  · simp [ofM, Mg.bare, Mg.cells, nilS]
  · repeat (first | exact Kp.refl _ _ | refine Kp.alloc ?_ _ | refine Kp.drew ?_)

set_option maxHeartbeats 1000000 in
theorem Of_4 (w : World) (m : Mg) (sA dA : Option Addr) (sn sc dn dc : Nat) (hty : m.ty = 4) :
    Calls Try.prog 4 #[.agg (m.cells (.slice sA sn sc) (.slice dA dn dc)).toArray] w fun e w' => e = .returned (.agg ((ofM m).cells nilS (.slice dA dn dc)).toArray) ∧ Kp (fun _ => False) w w' := by
  have hc : True := trivial
  obtain ⟨ty, life, frame, base, has, full, w', h, seq, ek, ex, ey, ec⟩ := m
  simp only at hty
  subst hty
  unfold Mg.cells
  go_enter Try.func4, Try.ntmps4
  go_wp2
  refine bodyPost_ret (v := .agg #[.int .u8 4, .int .u32 0, .int .u32 frame, .int .u32 base, .bool false, .bool full, .int .u16 0, .int .u16 0, .slice none 0 0, .int .u32 0, .int .u8 0, .int .u16 0, .int .u16 0, .int .u32 0, .slice dA dn dc]) (by simp [results, Try.results4, go_sem]) rfl ⟨?_, ?_⟩
  · simp [ofM, Mg.bare, Mg.cells, nilS]
  · repeat (first | exact Kp.refl _ _ | refine Kp.alloc ?_ _ | refine Kp.drew ?_)

set_option maxHeartbeats 1000000 in
theorem Of_5 (w : World) (m : Mg) (sA dA : Option Addr) (sn sc dn dc : Nat) (hty : m.ty = 5) :
    Calls Try.prog 4 #[.agg (m.cells (.slice sA sn sc) (.slice dA dn dc)).toArray] w fun e w' => e = .returned (.agg ((ofM m).cells nilS nilS).toArray) ∧ Kp (fun _ => False) w w' := by
  have hc : True := trivial
  obtain ⟨ty, life, frame, base, has, full, w', h, seq, ek, ex, ey, ec⟩ := m
  simp only at hty
  subst hty
  unfold Mg.cells
  go_enter Try.func4, Try.ntmps4
  go_wp2
  refine bodyPost_ret (v := .agg #[.int .u8 5, .int .u32 0, .int .u32 0, .int .u32 0, .bool false, .bool false, .int .u16 0, .int .u16 0, .slice none 0 0, .int .u32 seq, .int .u8 ek, .int .u16 ex, .int .u16 ey, .int .u32 ec, .slice none 0 0]) (by simp [results, Try.results4, go_sem]) rfl ⟨?_, ?_⟩
  · simp [ofM, Mg.bare, Mg.cells, nilS]
  · repeat (first | exact Kp.refl _ _ | refine Kp.alloc ?_ _ | refine Kp.drew ?_)

set_option maxHeartbeats 1000000 in
theorem Of_6 (w : World) (m : Mg) (sA dA : Option Addr) (sn sc dn dc : Nat) (hty : m.ty = 6) :
    Calls Try.prog 4 #[.agg (m.cells (.slice sA sn sc) (.slice dA dn dc)).toArray] w fun e w' => e = .returned (.agg ((ofM m).cells nilS nilS).toArray) ∧ Kp (fun _ => False) w w' := by
  have hc : True := trivial
  obtain ⟨ty, life, frame, base, has, full, w', h, seq, ek, ex, ey, ec⟩ := m
  simp only at hty
  subst hty
  unfold Mg.cells
  go_enter Try.func4, Try.ntmps4
  go_wp2
  refine bodyPost_ret (v := .agg #[.int .u8 6, .int .u32 0, .int .u32 0, .int .u32 0, .bool false, .bool false, .int .u16 0, .int .u16 0, .slice none 0 0, .int .u32 seq, .int .u8 0, .int .u16 0, .int .u16 0, .int .u32 0, .slice none 0 0]) (by simp [results, Try.results4, go_sem]) rfl ⟨?_, ?_⟩
  · simp [ofM, Mg.bare, Mg.cells, nilS]
  · repeat (first | exact Kp.refl _ _ | refine Kp.alloc ?_ _ | refine Kp.drew ?_)

set_option maxHeartbeats 1000000 in
theorem Of_0 (w : World) (m : Mg) (sA dA : Option Addr) (sn sc dn dc : Nat) (hty : ¬ known m.ty) :
    Calls Try.prog 4 #[.agg (m.cells (.slice sA sn sc) (.slice dA dn dc)).toArray] w fun e w' => e = .returned (.agg ((ofM m).cells nilS nilS).toArray) ∧ Kp (fun _ => False) w w' := by
  have h1 : (m.ty == 1) = false := by simp [known] at hty; simp [hty]
  have h2 : (m.ty == 2) = false := by simp [known] at hty; simp [hty]
  have h4 : (m.ty == 4) = false := by simp [known] at hty; simp [hty]
  have h5 : (m.ty == 5) = false := by simp [known] at hty; simp [hty]
  have h6 : (m.ty == 6) = false := by simp [known] at hty; simp [hty]
  have HT := Lib.hid hty
  clear hty
  unfold Mg.cells
  go_enter Try.func4, Try.ntmps4
  go_wp2
  refine bodyPost_ret (v := .agg #[.int .u8 m.ty, .int .u32 0, .int .u32 0, .int .u32 0, .bool false, .bool false, .int .u16 0, .int .u16 0, .slice none 0 0, .int .u32 0, .int .u8 0, .int .u16 0, .int .u16 0, .int .u32 0, .slice none 0 0]) (by simp [results, Try.results4, go_sem]) rfl ⟨?_, ?_⟩
  · have := HT.out; simp only [known, not_or] at this; simp [ofM, Mg.bare, Mg.cells, nilS, this]
  · repeat (first | exact Kp.refl _ _ | refine Kp.alloc ?_ _ | refine Kp.drew ?_)
end Go.Proofs.Ytmgfiblnbbjjdaa
