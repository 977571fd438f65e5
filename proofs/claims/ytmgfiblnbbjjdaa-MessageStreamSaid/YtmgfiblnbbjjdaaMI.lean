/- The fields of a type: a map of slices of functions, asked once. -/
import Derived.Test.YtmgfiblnbbjjdaaMH
import Derived.Carry
set_option linter.unusedSimpArgs false
set_option linter.unusedVariables false
namespace Go.Proofs.Ytmgfiblnbbjjdaa
open Go Go.Proofs Go.RowKit

section
variable {P : Program}
theorem run_checkKey_u8 (w : World) (e : Bool) (K : TypeId) (hK : P.underlying K = some (.int .u8)) (n : Int) (d : Nat) : (Instr.checkKey e (d + 1) K (.int .u8 n)).run P w = .ok () w := by
  simp [Instr.checkKey, run_underlying hK]

theorem run_insert_u8 (w : World) (t K E : TypeId) (ht : P.underlying t = some (.map K E)) (hK : P.underlying K = some (.int .u8)) (r : Nat) (es : Array MapEntry) (clock : Nat)
    (hb : w.heap[r]? = some (.map es clock)) (n : Int) (v : Value) (hes : Instr.findNow (.int .u8) (.int .u8 n) es.toList 0 = some none) :
    (Instr.mapUpdate t (.map (some r)) (.int .u8 n) v).run P w = .ok () { w with heap := w.heap.setIfInBounds r (.map (es.push { key := .int .u8 n, val := v, born := clock }) (clock + 1)) } := by
  simp [Instr.mapUpdate, run_underlying ht, run_underlying hK, getObj, setObj, Sem.run, hb, run_checkKey_u8 w false K hK n 9999, Instr.findKey, hes]

theorem run_lookup_u8 (w : World) (t K E : TypeId) (ht : P.underlying t = some (.map K E)) (hK : P.underlying K = some (.int .u8)) (r : Nat) (es : Array MapEntry) (clock : Nat)
    (hb : w.heap[r]? = some (.map es clock)) (n : Int) (i : Nat) (v : Value) (hes : Instr.findNow (.int .u8) (.int .u8 n) es.toList 0 = some (some (i, v))) :
    (Instr.lookup t (.map (some r)) (.int .u8 n) false).run P w = .ok v w := by
  simp [Instr.lookup, run_underlying ht, run_underlying hK, getObj, Sem.run, hb, run_checkKey_u8 w _ K hK n 9999, Instr.findKey, hes]

theorem run_lookup_u8_none (w : World) (t K E : TypeId) (ht : P.underlying t = some (.map K E)) (hK : P.underlying K = some (.int .u8)) (r : Nat) (es : Array MapEntry) (clock : Nat)
    (hb : w.heap[r]? = some (.map es clock)) (n : Int) (z : Value) (i : TypeInfo) (hi : P.info? E = some i) (hz : i.zero = some z) (hes : Instr.findNow (.int .u8) (.int .u8 n) es.toList 0 = some none) :
    (Instr.lookup t (.map (some r)) (.int .u8 n) false).run P w = .ok z w := by
  simp [Instr.lookup, run_underlying ht, run_underlying hK, getObj, Sem.run, hb, run_checkKey_u8 w _ K hK n 9999, Instr.findKey, hes, zeroValue, typeInfo, hi, hz]

theorem Kp.setObj {S : Nat → Prop} {w w1 : World} (h : Kp S w w1) (r : Nat) (o : Obj) (hr : r < w.heap.size → S r) : Kp S w { w1 with heap := w1.heap.setIfInBounds r o } :=
  ⟨h.os, h.tape, h.output, by have := h.size; simp; omega, fun b hb hn => by
    show (w1.heap.setIfInBounds r o)[b]? = _
    rw [Array.getElem?_setIfInBounds_ne (fun e => hn (by subst e; exact hr hb))]; exact h.blk b hb hn⟩

theorem wpList_insert_u8 (w : World) {ops : Array Oper} {rest : List Oper} {o : Oper} {a : Act} {Q : Exit → Act → World → Prop} (hg : o.guard = none) (m k x : Operand) (t K E : TypeId) (hop : o.op = Op.insert t m k x)
    (ht : P.underlying t = some (.map K E)) (hK : P.underlying K = some (.int .u8)) (r : Nat) (n : Int) (v : Value) (hm : a.eval m = .map (some r)) (hk : a.eval k = .int .u8 n) (hx : a.eval x = v)
    (es : Array MapEntry) (clock : Nat) (hb : w.heap[r]? = some (.map es clock)) (hes : Instr.findNow (.int .u8) (.int .u8 n) es.toList 0 = some none)
    (h : ∀ w', w'.heap[r]? = some (.map (es.push { key := .int .u8 n, val := v, born := clock }) (clock + 1)) → Kp (fun b => b = r) w w' → w'.heap.size = w.heap.size → wpList P ops Q rest (a.put o.dst undef) w') :
    wpList P ops Q (o :: rest) a w := by
  refine wpList_plain hg fun Kk hK' => ?_
  have hrun := run_insert_u8 w t K E ht hK r es clock hb n v hes
  unfold Oper.wp
  simp [execOp, hop, hm, hk, hx, hrun, Result.andThen]
  refine hK' _ _ (h _ ?_ ((Kp.refl _ w).setObj r _ (fun _ => rfl)) (by simp))
  simp [lt_of_blk hb]
end

def cl (g f : Nat) : Value := .func (.func f) #[.pointer (some ⟨g, 0, none⟩)] #[]
def fns (ty : Int) : List Nat := if ty = 1 then [15, 16, 17, 18] else if ty = 2 then [15, 19, 20] else if ty = 4 then [21, 17, 22, 23] else if ty = 5 then [20, 24] else if ty = 6 then [20] else []

set_option maxHeartbeats 1000000 in
theorem fields_1 (w : World) (g : Nat) (hc : w.cell? ⟨g, 3, none⟩ = some (.int .u8 1)) :
    Calls Try.prog 10 #[.pointer (some ⟨g, 0, none⟩)] w fun e w' => ∃ b, e = .returned (.slice (some ⟨b, 0, none⟩) 4 4) ∧ w'.heap[b]? = some (.cells ((fns 1).map (cl g)).toArray 1 (0, 0)) ∧ Kp (fun _ => False) w w' ∧ w.heap.size ≤ b := by
  have hmm := @run_makeMap Try.prog
  have hgl : g < w.heap.size := lt_of_cell (a := ⟨g, 3, none⟩) hc
  go_enter Try.func10, Try.ntmps10
  go_wp2_with (refine wpList_insert_u8 _ rfl (.tmp 3) (.const (.int .u8 1)) (.tmp 12) 54 5 48 rfl Try.underlying54 Try.underlying5 w.heap.size 1 (.slice (some ⟨w.heap.size + 1, 0, none⟩) 4 4) rfl rfl rfl _ _ (alloc_oth (alloc_new w _) _) rfl ?_)
  intro w1 hm1 hk1 hz1
  have hs1 : w1.heap.size = w.heap.size + 2 := by simpa using hz1
  clear hz1
  have hkk1 : Kp (fun _ => False) w w1 := (((Kp.refl (fun _ => False) w).alloc _).alloc _).trans hk1 (fun b hb e => by have e' : b = w.heap.size := e; omega)
  have hb1 := hk1.heap (alloc_new (w.alloc _) _) (by simp)
  have HB1 := Lib.hid hb1
  clear hb1
  have HM1 := Lib.hid hm1
  have HK1 := Lib.hid hkk1
  clear hm1 hk1 hkk1
  go_wp2_with (refine wpList_insert_u8 _ rfl (.tmp 3) (.const (.int .u8 2)) (.tmp 19) 54 5 48 rfl Try.underlying54 Try.underlying5 w.heap.size 2 (.slice (some ⟨w.heap.size + 2, 0, none⟩) 3 3) rfl rfl rfl _ _ (alloc_oth HM1.out _) rfl ?_)
  intro w2 hm2 hk2 hz2
  have hs2 : w2.heap.size = w.heap.size + 3 := by simpa using hz2
  clear hz2
  have hkk2 : Kp (fun _ => False) w w2 := (HK1.out.alloc _).trans hk2 (fun b hb e => by have e' : b = w.heap.size := e; omega)
  have hb2 := hk2.heap (alloc_oth HB1.out _) (by simp)
  have HB2 := Lib.hid hb2
  clear hb2
  have HM2 := Lib.hid hm2
  have HK2 := Lib.hid hkk2
  clear hm2 hk2 hkk2
  go_wp2_with (refine wpList_insert_u8 _ rfl (.tmp 3) (.const (.int .u8 3)) (.tmp 20) 54 5 48 rfl Try.underlying54 Try.underlying5 w.heap.size 3 (.slice (some ⟨w.heap.size + 3, 0, none⟩) 0 0) rfl rfl rfl _ _ (alloc_oth HM2.out _) rfl ?_)
  intro w3 hm3 hk3 hz3
  have hs3 : w3.heap.size = w.heap.size + 4 := by simpa using hz3
  clear hz3
  have hkk3 : Kp (fun _ => False) w w3 := (HK2.out.alloc _).trans hk3 (fun b hb e => by have e' : b = w.heap.size := e; omega)
  have hb3 := hk3.heap (alloc_oth HB2.out _) (by simp)
  have HB3 := Lib.hid hb3
  clear hb3
  have HM3 := Lib.hid hm3
  have HK3 := Lib.hid hkk3
  clear hm3 hk3 hkk3
  go_wp2_with (refine wpList_insert_u8 _ rfl (.tmp 3) (.const (.int .u8 4)) (.tmp 29) 54 5 48 rfl Try.underlying54 Try.underlying5 w.heap.size 4 (.slice (some ⟨w.heap.size + 4, 0, none⟩) 4 4) rfl rfl rfl _ _ (alloc_oth HM3.out _) rfl ?_)
  intro w4 hm4 hk4 hz4
  have hs4 : w4.heap.size = w.heap.size + 5 := by simpa using hz4
  clear hz4
  have hkk4 : Kp (fun _ => False) w w4 := (HK3.out.alloc _).trans hk4 (fun b hb e => by have e' : b = w.heap.size := e; omega)
  have hb4 := hk4.heap (alloc_oth HB3.out _) (by simp)
  have HB4 := Lib.hid hb4
  clear hb4
  have HM4 := Lib.hid hm4
  have HK4 := Lib.hid hkk4
  clear hm4 hk4 hkk4
  go_wp2_with (refine wpList_insert_u8 _ rfl (.tmp 3) (.const (.int .u8 5)) (.tmp 34) 54 5 48 rfl Try.underlying54 Try.underlying5 w.heap.size 5 (.slice (some ⟨w.heap.size + 5, 0, none⟩) 2 2) rfl rfl rfl _ _ (alloc_oth HM4.out _) rfl ?_)
  intro w5 hm5 hk5 hz5
  have hs5 : w5.heap.size = w.heap.size + 6 := by simpa using hz5
  clear hz5
  have hkk5 : Kp (fun _ => False) w w5 := (HK4.out.alloc _).trans hk5 (fun b hb e => by have e' : b = w.heap.size := e; omega)
  have hb5 := hk5.heap (alloc_oth HB4.out _) (by simp)
  have HB5 := Lib.hid hb5
  clear hb5
  have HM5 := Lib.hid hm5
  have HK5 := Lib.hid hkk5
  clear hm5 hk5 hkk5
  go_wp2_with (refine wpList_insert_u8 _ rfl (.tmp 3) (.const (.int .u8 6)) (.tmp 37) 54 5 48 rfl Try.underlying54 Try.underlying5 w.heap.size 6 (.slice (some ⟨w.heap.size + 6, 0, none⟩) 1 1) rfl rfl rfl _ _ (alloc_oth HM5.out _) rfl ?_)
  intro w6 hm6 hk6 hz6
  have hs6 : w6.heap.size = w.heap.size + 7 := by simpa using hz6
  clear hz6
  have hkk6 : Kp (fun _ => False) w w6 := (HK5.out.alloc _).trans hk6 (fun b hb e => by have e' : b = w.heap.size := e; omega)
  have hb6 := hk6.heap (alloc_oth HB5.out _) (by simp)
  have HB6 := Lib.hid hb6
  clear hb6
  have HM6 := Lib.hid hm6
  have HK6 := Lib.hid hkk6
  clear hm6 hk6 hkk6
  have c6 : w6.cell? ⟨g, 3, none⟩ = some (.int .u8 1) := HK6.out.cell hc (fun x => x)
  have hlk := run_lookup_u8 (P := Try.prog) w6 54 5 48 Try.underlying54 Try.underlying5 w.heap.size _ _ HM6.out 1 0 _ rfl
  go_wp2
  go_ret
  exact ⟨_, rfl, by have h := HB6.out; simpa [fns, cl] using h, HK6.out, by omega⟩

set_option maxHeartbeats 1000000 in
theorem fields_2 (w : World) (g : Nat) (hc : w.cell? ⟨g, 3, none⟩ = some (.int .u8 2)) :
    Calls Try.prog 10 #[.pointer (some ⟨g, 0, none⟩)] w fun e w' => ∃ b, e = .returned (.slice (some ⟨b, 0, none⟩) 3 3) ∧ w'.heap[b]? = some (.cells ((fns 2).map (cl g)).toArray 1 (0, 0)) ∧ Kp (fun _ => False) w w' ∧ w.heap.size ≤ b := by
  have hmm := @run_makeMap Try.prog
  have hgl : g < w.heap.size := lt_of_cell (a := ⟨g, 3, none⟩) hc
  go_enter Try.func10, Try.ntmps10
  go_wp2_with (refine wpList_insert_u8 _ rfl (.tmp 3) (.const (.int .u8 1)) (.tmp 12) 54 5 48 rfl Try.underlying54 Try.underlying5 w.heap.size 1 (.slice (some ⟨w.heap.size + 1, 0, none⟩) 4 4) rfl rfl rfl _ _ (alloc_oth (alloc_new w _) _) rfl ?_)
  intro w1 hm1 hk1 hz1
  have hs1 : w1.heap.size = w.heap.size + 2 := by simpa using hz1
  clear hz1
  have hkk1 : Kp (fun _ => False) w w1 := (((Kp.refl (fun _ => False) w).alloc _).alloc _).trans hk1 (fun b hb e => by have e' : b = w.heap.size := e; omega)
  have HM1 := Lib.hid hm1
  have HK1 := Lib.hid hkk1
  clear hm1 hk1 hkk1
  go_wp2_with (refine wpList_insert_u8 _ rfl (.tmp 3) (.const (.int .u8 2)) (.tmp 19) 54 5 48 rfl Try.underlying54 Try.underlying5 w.heap.size 2 (.slice (some ⟨w.heap.size + 2, 0, none⟩) 3 3) rfl rfl rfl _ _ (alloc_oth HM1.out _) rfl ?_)
  intro w2 hm2 hk2 hz2
  have hs2 : w2.heap.size = w.heap.size + 3 := by simpa using hz2
  clear hz2
  have hkk2 : Kp (fun _ => False) w w2 := (HK1.out.alloc _).trans hk2 (fun b hb e => by have e' : b = w.heap.size := e; omega)
  have hb2 := hk2.heap (alloc_new w1 _) (by simp [hs1]; try omega)
  have HB2 := Lib.hid hb2
  clear hb2
  have HM2 := Lib.hid hm2
  have HK2 := Lib.hid hkk2
  clear hm2 hk2 hkk2
  go_wp2_with (refine wpList_insert_u8 _ rfl (.tmp 3) (.const (.int .u8 3)) (.tmp 20) 54 5 48 rfl Try.underlying54 Try.underlying5 w.heap.size 3 (.slice (some ⟨w.heap.size + 3, 0, none⟩) 0 0) rfl rfl rfl _ _ (alloc_oth HM2.out _) rfl ?_)
  intro w3 hm3 hk3 hz3
  have hs3 : w3.heap.size = w.heap.size + 4 := by simpa using hz3
  clear hz3
  have hkk3 : Kp (fun _ => False) w w3 := (HK2.out.alloc _).trans hk3 (fun b hb e => by have e' : b = w.heap.size := e; omega)
  have hb3 := hk3.heap (alloc_oth HB2.out _) (by simp [hs1]; try omega)
  have HB3 := Lib.hid hb3
  clear hb3
  have HM3 := Lib.hid hm3
  have HK3 := Lib.hid hkk3
  clear hm3 hk3 hkk3
  go_wp2_with (refine wpList_insert_u8 _ rfl (.tmp 3) (.const (.int .u8 4)) (.tmp 29) 54 5 48 rfl Try.underlying54 Try.underlying5 w.heap.size 4 (.slice (some ⟨w.heap.size + 4, 0, none⟩) 4 4) rfl rfl rfl _ _ (alloc_oth HM3.out _) rfl ?_)
  intro w4 hm4 hk4 hz4
  have hs4 : w4.heap.size = w.heap.size + 5 := by simpa using hz4
  clear hz4
  have hkk4 : Kp (fun _ => False) w w4 := (HK3.out.alloc _).trans hk4 (fun b hb e => by have e' : b = w.heap.size := e; omega)
  have hb4 := hk4.heap (alloc_oth HB3.out _) (by simp [hs1]; try omega)
  have HB4 := Lib.hid hb4
  clear hb4
  have HM4 := Lib.hid hm4
  have HK4 := Lib.hid hkk4
  clear hm4 hk4 hkk4
  go_wp2_with (refine wpList_insert_u8 _ rfl (.tmp 3) (.const (.int .u8 5)) (.tmp 34) 54 5 48 rfl Try.underlying54 Try.underlying5 w.heap.size 5 (.slice (some ⟨w.heap.size + 5, 0, none⟩) 2 2) rfl rfl rfl _ _ (alloc_oth HM4.out _) rfl ?_)
  intro w5 hm5 hk5 hz5
  have hs5 : w5.heap.size = w.heap.size + 6 := by simpa using hz5
  clear hz5
  have hkk5 : Kp (fun _ => False) w w5 := (HK4.out.alloc _).trans hk5 (fun b hb e => by have e' : b = w.heap.size := e; omega)
  have hb5 := hk5.heap (alloc_oth HB4.out _) (by simp [hs1]; try omega)
  have HB5 := Lib.hid hb5
  clear hb5
  have HM5 := Lib.hid hm5
  have HK5 := Lib.hid hkk5
  clear hm5 hk5 hkk5
  go_wp2_with (refine wpList_insert_u8 _ rfl (.tmp 3) (.const (.int .u8 6)) (.tmp 37) 54 5 48 rfl Try.underlying54 Try.underlying5 w.heap.size 6 (.slice (some ⟨w.heap.size + 6, 0, none⟩) 1 1) rfl rfl rfl _ _ (alloc_oth HM5.out _) rfl ?_)
  intro w6 hm6 hk6 hz6
  have hs6 : w6.heap.size = w.heap.size + 7 := by simpa using hz6
  clear hz6
  have hkk6 : Kp (fun _ => False) w w6 := (HK5.out.alloc _).trans hk6 (fun b hb e => by have e' : b = w.heap.size := e; omega)
  have hb6 := hk6.heap (alloc_oth HB5.out _) (by simp [hs1]; try omega)
  have HB6 := Lib.hid hb6
  clear hb6
  have HM6 := Lib.hid hm6
  have HK6 := Lib.hid hkk6
  clear hm6 hk6 hkk6
  have c6 : w6.cell? ⟨g, 3, none⟩ = some (.int .u8 2) := HK6.out.cell hc (fun x => x)
  have hlk := run_lookup_u8 (P := Try.prog) w6 54 5 48 Try.underlying54 Try.underlying5 w.heap.size _ _ HM6.out 2 1 _ rfl
  go_wp2
  go_ret
  exact ⟨_, rfl, by have h := HB6.out; simpa [fns, cl, hs1] using h, HK6.out, by omega⟩

set_option maxHeartbeats 1000000 in
theorem fields_3 (w : World) (g : Nat) (hc : w.cell? ⟨g, 3, none⟩ = some (.int .u8 3)) :
    Calls Try.prog 10 #[.pointer (some ⟨g, 0, none⟩)] w fun e w' => ∃ b, e = .returned (.slice (some ⟨b, 0, none⟩) 0 0) ∧ w'.heap[b]? = some (.cells ((fns 3).map (cl g)).toArray 1 (0, 0)) ∧ Kp (fun _ => False) w w' ∧ w.heap.size ≤ b := by
  have hmm := @run_makeMap Try.prog
  have hgl : g < w.heap.size := lt_of_cell (a := ⟨g, 3, none⟩) hc
  go_enter Try.func10, Try.ntmps10
  go_wp2_with (refine wpList_insert_u8 _ rfl (.tmp 3) (.const (.int .u8 1)) (.tmp 12) 54 5 48 rfl Try.underlying54 Try.underlying5 w.heap.size 1 (.slice (some ⟨w.heap.size + 1, 0, none⟩) 4 4) rfl rfl rfl _ _ (alloc_oth (alloc_new w _) _) rfl ?_)
  intro w1 hm1 hk1 hz1
  have hs1 : w1.heap.size = w.heap.size + 2 := by simpa using hz1
  clear hz1
  have hkk1 : Kp (fun _ => False) w w1 := (((Kp.refl (fun _ => False) w).alloc _).alloc _).trans hk1 (fun b hb e => by have e' : b = w.heap.size := e; omega)
  have HM1 := Lib.hid hm1
  have HK1 := Lib.hid hkk1
  clear hm1 hk1 hkk1
  go_wp2_with (refine wpList_insert_u8 _ rfl (.tmp 3) (.const (.int .u8 2)) (.tmp 19) 54 5 48 rfl Try.underlying54 Try.underlying5 w.heap.size 2 (.slice (some ⟨w.heap.size + 2, 0, none⟩) 3 3) rfl rfl rfl _ _ (alloc_oth HM1.out _) rfl ?_)
  intro w2 hm2 hk2 hz2
  have hs2 : w2.heap.size = w.heap.size + 3 := by simpa using hz2
  clear hz2
  have hkk2 : Kp (fun _ => False) w w2 := (HK1.out.alloc _).trans hk2 (fun b hb e => by have e' : b = w.heap.size := e; omega)
  have HM2 := Lib.hid hm2
  have HK2 := Lib.hid hkk2
  clear hm2 hk2 hkk2
  go_wp2_with (refine wpList_insert_u8 _ rfl (.tmp 3) (.const (.int .u8 3)) (.tmp 20) 54 5 48 rfl Try.underlying54 Try.underlying5 w.heap.size 3 (.slice (some ⟨w.heap.size + 3, 0, none⟩) 0 0) rfl rfl rfl _ _ (alloc_oth HM2.out _) rfl ?_)
  intro w3 hm3 hk3 hz3
  have hs3 : w3.heap.size = w.heap.size + 4 := by simpa using hz3
  clear hz3
  have hkk3 : Kp (fun _ => False) w w3 := (HK2.out.alloc _).trans hk3 (fun b hb e => by have e' : b = w.heap.size := e; omega)
  have hb3 := hk3.heap (alloc_new w2 _) (by simp [hs2]; try omega)
  have HB3 := Lib.hid hb3
  clear hb3
  have HM3 := Lib.hid hm3
  have HK3 := Lib.hid hkk3
  clear hm3 hk3 hkk3
  go_wp2_with (refine wpList_insert_u8 _ rfl (.tmp 3) (.const (.int .u8 4)) (.tmp 29) 54 5 48 rfl Try.underlying54 Try.underlying5 w.heap.size 4 (.slice (some ⟨w.heap.size + 4, 0, none⟩) 4 4) rfl rfl rfl _ _ (alloc_oth HM3.out _) rfl ?_)
  intro w4 hm4 hk4 hz4
  have hs4 : w4.heap.size = w.heap.size + 5 := by simpa using hz4
  clear hz4
  have hkk4 : Kp (fun _ => False) w w4 := (HK3.out.alloc _).trans hk4 (fun b hb e => by have e' : b = w.heap.size := e; omega)
  have hb4 := hk4.heap (alloc_oth HB3.out _) (by simp [hs2]; try omega)
  have HB4 := Lib.hid hb4
  clear hb4
  have HM4 := Lib.hid hm4
  have HK4 := Lib.hid hkk4
  clear hm4 hk4 hkk4
  go_wp2_with (refine wpList_insert_u8 _ rfl (.tmp 3) (.const (.int .u8 5)) (.tmp 34) 54 5 48 rfl Try.underlying54 Try.underlying5 w.heap.size 5 (.slice (some ⟨w.heap.size + 5, 0, none⟩) 2 2) rfl rfl rfl _ _ (alloc_oth HM4.out _) rfl ?_)
  intro w5 hm5 hk5 hz5
  have hs5 : w5.heap.size = w.heap.size + 6 := by simpa using hz5
  clear hz5
  have hkk5 : Kp (fun _ => False) w w5 := (HK4.out.alloc _).trans hk5 (fun b hb e => by have e' : b = w.heap.size := e; omega)
  have hb5 := hk5.heap (alloc_oth HB4.out _) (by simp [hs2]; try omega)
  have HB5 := Lib.hid hb5
  clear hb5
  have HM5 := Lib.hid hm5
  have HK5 := Lib.hid hkk5
  clear hm5 hk5 hkk5
  go_wp2_with (refine wpList_insert_u8 _ rfl (.tmp 3) (.const (.int .u8 6)) (.tmp 37) 54 5 48 rfl Try.underlying54 Try.underlying5 w.heap.size 6 (.slice (some ⟨w.heap.size + 6, 0, none⟩) 1 1) rfl rfl rfl _ _ (alloc_oth HM5.out _) rfl ?_)
  intro w6 hm6 hk6 hz6
  have hs6 : w6.heap.size = w.heap.size + 7 := by simpa using hz6
  clear hz6
  have hkk6 : Kp (fun _ => False) w w6 := (HK5.out.alloc _).trans hk6 (fun b hb e => by have e' : b = w.heap.size := e; omega)
  have hb6 := hk6.heap (alloc_oth HB5.out _) (by simp [hs2]; try omega)
  have HB6 := Lib.hid hb6
  clear hb6
  have HM6 := Lib.hid hm6
  have HK6 := Lib.hid hkk6
  clear hm6 hk6 hkk6
  have c6 : w6.cell? ⟨g, 3, none⟩ = some (.int .u8 3) := HK6.out.cell hc (fun x => x)
  have hlk := run_lookup_u8 (P := Try.prog) w6 54 5 48 Try.underlying54 Try.underlying5 w.heap.size _ _ HM6.out 3 2 _ rfl
  go_wp2
  go_ret
  exact ⟨_, rfl, by have h := HB6.out; simpa [fns, cl, hs2] using h, HK6.out, by omega⟩

set_option maxHeartbeats 1000000 in
theorem fields_4 (w : World) (g : Nat) (hc : w.cell? ⟨g, 3, none⟩ = some (.int .u8 4)) :
    Calls Try.prog 10 #[.pointer (some ⟨g, 0, none⟩)] w fun e w' => ∃ b, e = .returned (.slice (some ⟨b, 0, none⟩) 4 4) ∧ w'.heap[b]? = some (.cells ((fns 4).map (cl g)).toArray 1 (0, 0)) ∧ Kp (fun _ => False) w w' ∧ w.heap.size ≤ b := by
  have hmm := @run_makeMap Try.prog
  have hgl : g < w.heap.size := lt_of_cell (a := ⟨g, 3, none⟩) hc
  go_enter Try.func10, Try.ntmps10
  go_wp2_with (refine wpList_insert_u8 _ rfl (.tmp 3) (.const (.int .u8 1)) (.tmp 12) 54 5 48 rfl Try.underlying54 Try.underlying5 w.heap.size 1 (.slice (some ⟨w.heap.size + 1, 0, none⟩) 4 4) rfl rfl rfl _ _ (alloc_oth (alloc_new w _) _) rfl ?_)
  intro w1 hm1 hk1 hz1
  have hs1 : w1.heap.size = w.heap.size + 2 := by simpa using hz1
  clear hz1
  have hkk1 : Kp (fun _ => False) w w1 := (((Kp.refl (fun _ => False) w).alloc _).alloc _).trans hk1 (fun b hb e => by have e' : b = w.heap.size := e; omega)
  have HM1 := Lib.hid hm1
  have HK1 := Lib.hid hkk1
  clear hm1 hk1 hkk1
  go_wp2_with (refine wpList_insert_u8 _ rfl (.tmp 3) (.const (.int .u8 2)) (.tmp 19) 54 5 48 rfl Try.underlying54 Try.underlying5 w.heap.size 2 (.slice (some ⟨w.heap.size + 2, 0, none⟩) 3 3) rfl rfl rfl _ _ (alloc_oth HM1.out _) rfl ?_)
  intro w2 hm2 hk2 hz2
  have hs2 : w2.heap.size = w.heap.size + 3 := by simpa using hz2
  clear hz2
  have hkk2 : Kp (fun _ => False) w w2 := (HK1.out.alloc _).trans hk2 (fun b hb e => by have e' : b = w.heap.size := e; omega)
  have HM2 := Lib.hid hm2
  have HK2 := Lib.hid hkk2
  clear hm2 hk2 hkk2
  go_wp2_with (refine wpList_insert_u8 _ rfl (.tmp 3) (.const (.int .u8 3)) (.tmp 20) 54 5 48 rfl Try.underlying54 Try.underlying5 w.heap.size 3 (.slice (some ⟨w.heap.size + 3, 0, none⟩) 0 0) rfl rfl rfl _ _ (alloc_oth HM2.out _) rfl ?_)
  intro w3 hm3 hk3 hz3
  have hs3 : w3.heap.size = w.heap.size + 4 := by simpa using hz3
  clear hz3
  have hkk3 : Kp (fun _ => False) w w3 := (HK2.out.alloc _).trans hk3 (fun b hb e => by have e' : b = w.heap.size := e; omega)
  have HM3 := Lib.hid hm3
  have HK3 := Lib.hid hkk3
  clear hm3 hk3 hkk3
  go_wp2_with (refine wpList_insert_u8 _ rfl (.tmp 3) (.const (.int .u8 4)) (.tmp 29) 54 5 48 rfl Try.underlying54 Try.underlying5 w.heap.size 4 (.slice (some ⟨w.heap.size + 4, 0, none⟩) 4 4) rfl rfl rfl _ _ (alloc_oth HM3.out _) rfl ?_)
  intro w4 hm4 hk4 hz4
  have hs4 : w4.heap.size = w.heap.size + 5 := by simpa using hz4
  clear hz4
  have hkk4 : Kp (fun _ => False) w w4 := (HK3.out.alloc _).trans hk4 (fun b hb e => by have e' : b = w.heap.size := e; omega)
  have hb4 := hk4.heap (alloc_new w3 _) (by simp [hs3]; try omega)
  have HB4 := Lib.hid hb4
  clear hb4
  have HM4 := Lib.hid hm4
  have HK4 := Lib.hid hkk4
  clear hm4 hk4 hkk4
  go_wp2_with (refine wpList_insert_u8 _ rfl (.tmp 3) (.const (.int .u8 5)) (.tmp 34) 54 5 48 rfl Try.underlying54 Try.underlying5 w.heap.size 5 (.slice (some ⟨w.heap.size + 5, 0, none⟩) 2 2) rfl rfl rfl _ _ (alloc_oth HM4.out _) rfl ?_)
  intro w5 hm5 hk5 hz5
  have hs5 : w5.heap.size = w.heap.size + 6 := by simpa using hz5
  clear hz5
  have hkk5 : Kp (fun _ => False) w w5 := (HK4.out.alloc _).trans hk5 (fun b hb e => by have e' : b = w.heap.size := e; omega)
  have hb5 := hk5.heap (alloc_oth HB4.out _) (by simp [hs3]; try omega)
  have HB5 := Lib.hid hb5
  clear hb5
  have HM5 := Lib.hid hm5
  have HK5 := Lib.hid hkk5
  clear hm5 hk5 hkk5
  go_wp2_with (refine wpList_insert_u8 _ rfl (.tmp 3) (.const (.int .u8 6)) (.tmp 37) 54 5 48 rfl Try.underlying54 Try.underlying5 w.heap.size 6 (.slice (some ⟨w.heap.size + 6, 0, none⟩) 1 1) rfl rfl rfl _ _ (alloc_oth HM5.out _) rfl ?_)
  intro w6 hm6 hk6 hz6
  have hs6 : w6.heap.size = w.heap.size + 7 := by simpa using hz6
  clear hz6
  have hkk6 : Kp (fun _ => False) w w6 := (HK5.out.alloc _).trans hk6 (fun b hb e => by have e' : b = w.heap.size := e; omega)
  have hb6 := hk6.heap (alloc_oth HB5.out _) (by simp [hs3]; try omega)
  have HB6 := Lib.hid hb6
  clear hb6
  have HM6 := Lib.hid hm6
  have HK6 := Lib.hid hkk6
  clear hm6 hk6 hkk6
  have c6 : w6.cell? ⟨g, 3, none⟩ = some (.int .u8 4) := HK6.out.cell hc (fun x => x)
  have hlk := run_lookup_u8 (P := Try.prog) w6 54 5 48 Try.underlying54 Try.underlying5 w.heap.size _ _ HM6.out 4 3 _ rfl
  go_wp2
  go_ret
  exact ⟨_, rfl, by have h := HB6.out; simpa [fns, cl, hs3] using h, HK6.out, by omega⟩

set_option maxHeartbeats 1000000 in
theorem fields_5 (w : World) (g : Nat) (hc : w.cell? ⟨g, 3, none⟩ = some (.int .u8 5)) :
    Calls Try.prog 10 #[.pointer (some ⟨g, 0, none⟩)] w fun e w' => ∃ b, e = .returned (.slice (some ⟨b, 0, none⟩) 2 2) ∧ w'.heap[b]? = some (.cells ((fns 5).map (cl g)).toArray 1 (0, 0)) ∧ Kp (fun _ => False) w w' ∧ w.heap.size ≤ b := by
  have hmm := @run_makeMap Try.prog
  have hgl : g < w.heap.size := lt_of_cell (a := ⟨g, 3, none⟩) hc
  go_enter Try.func10, Try.ntmps10
  go_wp2_with (refine wpList_insert_u8 _ rfl (.tmp 3) (.const (.int .u8 1)) (.tmp 12) 54 5 48 rfl Try.underlying54 Try.underlying5 w.heap.size 1 (.slice (some ⟨w.heap.size + 1, 0, none⟩) 4 4) rfl rfl rfl _ _ (alloc_oth (alloc_new w _) _) rfl ?_)
  intro w1 hm1 hk1 hz1
  have hs1 : w1.heap.size = w.heap.size + 2 := by simpa using hz1
  clear hz1
  have hkk1 : Kp (fun _ => False) w w1 := (((Kp.refl (fun _ => False) w).alloc _).alloc _).trans hk1 (fun b hb e => by have e' : b = w.heap.size := e; omega)
  have HM1 := Lib.hid hm1
  have HK1 := Lib.hid hkk1
  clear hm1 hk1 hkk1
  go_wp2_with (refine wpList_insert_u8 _ rfl (.tmp 3) (.const (.int .u8 2)) (.tmp 19) 54 5 48 rfl Try.underlying54 Try.underlying5 w.heap.size 2 (.slice (some ⟨w.heap.size + 2, 0, none⟩) 3 3) rfl rfl rfl _ _ (alloc_oth HM1.out _) rfl ?_)
  intro w2 hm2 hk2 hz2
  have hs2 : w2.heap.size = w.heap.size + 3 := by simpa using hz2
  clear hz2
  have hkk2 : Kp (fun _ => False) w w2 := (HK1.out.alloc _).trans hk2 (fun b hb e => by have e' : b = w.heap.size := e; omega)
  have HM2 := Lib.hid hm2
  have HK2 := Lib.hid hkk2
  clear hm2 hk2 hkk2
  go_wp2_with (refine wpList_insert_u8 _ rfl (.tmp 3) (.const (.int .u8 3)) (.tmp 20) 54 5 48 rfl Try.underlying54 Try.underlying5 w.heap.size 3 (.slice (some ⟨w.heap.size + 3, 0, none⟩) 0 0) rfl rfl rfl _ _ (alloc_oth HM2.out _) rfl ?_)
  intro w3 hm3 hk3 hz3
  have hs3 : w3.heap.size = w.heap.size + 4 := by simpa using hz3
  clear hz3
  have hkk3 : Kp (fun _ => False) w w3 := (HK2.out.alloc _).trans hk3 (fun b hb e => by have e' : b = w.heap.size := e; omega)
  have HM3 := Lib.hid hm3
  have HK3 := Lib.hid hkk3
  clear hm3 hk3 hkk3
  go_wp2_with (refine wpList_insert_u8 _ rfl (.tmp 3) (.const (.int .u8 4)) (.tmp 29) 54 5 48 rfl Try.underlying54 Try.underlying5 w.heap.size 4 (.slice (some ⟨w.heap.size + 4, 0, none⟩) 4 4) rfl rfl rfl _ _ (alloc_oth HM3.out _) rfl ?_)
  intro w4 hm4 hk4 hz4
  have hs4 : w4.heap.size = w.heap.size + 5 := by simpa using hz4
  clear hz4
  have hkk4 : Kp (fun _ => False) w w4 := (HK3.out.alloc _).trans hk4 (fun b hb e => by have e' : b = w.heap.size := e; omega)
  have HM4 := Lib.hid hm4
  have HK4 := Lib.hid hkk4
  clear hm4 hk4 hkk4
  go_wp2_with (refine wpList_insert_u8 _ rfl (.tmp 3) (.const (.int .u8 5)) (.tmp 34) 54 5 48 rfl Try.underlying54 Try.underlying5 w.heap.size 5 (.slice (some ⟨w.heap.size + 5, 0, none⟩) 2 2) rfl rfl rfl _ _ (alloc_oth HM4.out _) rfl ?_)
  intro w5 hm5 hk5 hz5
  have hs5 : w5.heap.size = w.heap.size + 6 := by simpa using hz5
  clear hz5
  have hkk5 : Kp (fun _ => False) w w5 := (HK4.out.alloc _).trans hk5 (fun b hb e => by have e' : b = w.heap.size := e; omega)
  have hb5 := hk5.heap (alloc_new w4 _) (by simp [hs4]; try omega)
  have HB5 := Lib.hid hb5
  clear hb5
  have HM5 := Lib.hid hm5
  have HK5 := Lib.hid hkk5
  clear hm5 hk5 hkk5
  go_wp2_with (refine wpList_insert_u8 _ rfl (.tmp 3) (.const (.int .u8 6)) (.tmp 37) 54 5 48 rfl Try.underlying54 Try.underlying5 w.heap.size 6 (.slice (some ⟨w.heap.size + 6, 0, none⟩) 1 1) rfl rfl rfl _ _ (alloc_oth HM5.out _) rfl ?_)
  intro w6 hm6 hk6 hz6
  have hs6 : w6.heap.size = w.heap.size + 7 := by simpa using hz6
  clear hz6
  have hkk6 : Kp (fun _ => False) w w6 := (HK5.out.alloc _).trans hk6 (fun b hb e => by have e' : b = w.heap.size := e; omega)
  have hb6 := hk6.heap (alloc_oth HB5.out _) (by simp [hs4]; try omega)
  have HB6 := Lib.hid hb6
  clear hb6
  have HM6 := Lib.hid hm6
  have HK6 := Lib.hid hkk6
  clear hm6 hk6 hkk6
  have c6 : w6.cell? ⟨g, 3, none⟩ = some (.int .u8 5) := HK6.out.cell hc (fun x => x)
  have hlk := run_lookup_u8 (P := Try.prog) w6 54 5 48 Try.underlying54 Try.underlying5 w.heap.size _ _ HM6.out 5 4 _ rfl
  go_wp2
  go_ret
  exact ⟨_, rfl, by have h := HB6.out; simpa [fns, cl, hs4] using h, HK6.out, by omega⟩

set_option maxHeartbeats 1000000 in
theorem fields_6 (w : World) (g : Nat) (hc : w.cell? ⟨g, 3, none⟩ = some (.int .u8 6)) :
    Calls Try.prog 10 #[.pointer (some ⟨g, 0, none⟩)] w fun e w' => ∃ b, e = .returned (.slice (some ⟨b, 0, none⟩) 1 1) ∧ w'.heap[b]? = some (.cells ((fns 6).map (cl g)).toArray 1 (0, 0)) ∧ Kp (fun _ => False) w w' ∧ w.heap.size ≤ b := by
  have hmm := @run_makeMap Try.prog
  have hgl : g < w.heap.size := lt_of_cell (a := ⟨g, 3, none⟩) hc
  go_enter Try.func10, Try.ntmps10
  go_wp2_with (refine wpList_insert_u8 _ rfl (.tmp 3) (.const (.int .u8 1)) (.tmp 12) 54 5 48 rfl Try.underlying54 Try.underlying5 w.heap.size 1 (.slice (some ⟨w.heap.size + 1, 0, none⟩) 4 4) rfl rfl rfl _ _ (alloc_oth (alloc_new w _) _) rfl ?_)
  intro w1 hm1 hk1 hz1
  have hs1 : w1.heap.size = w.heap.size + 2 := by simpa using hz1
  clear hz1
  have hkk1 : Kp (fun _ => False) w w1 := (((Kp.refl (fun _ => False) w).alloc _).alloc _).trans hk1 (fun b hb e => by have e' : b = w.heap.size := e; omega)
  have HM1 := Lib.hid hm1
  have HK1 := Lib.hid hkk1
  clear hm1 hk1 hkk1
  go_wp2_with (refine wpList_insert_u8 _ rfl (.tmp 3) (.const (.int .u8 2)) (.tmp 19) 54 5 48 rfl Try.underlying54 Try.underlying5 w.heap.size 2 (.slice (some ⟨w.heap.size + 2, 0, none⟩) 3 3) rfl rfl rfl _ _ (alloc_oth HM1.out _) rfl ?_)
  intro w2 hm2 hk2 hz2
  have hs2 : w2.heap.size = w.heap.size + 3 := by simpa using hz2
  clear hz2
  have hkk2 : Kp (fun _ => False) w w2 := (HK1.out.alloc _).trans hk2 (fun b hb e => by have e' : b = w.heap.size := e; omega)
  have HM2 := Lib.hid hm2
  have HK2 := Lib.hid hkk2
  clear hm2 hk2 hkk2
  go_wp2_with (refine wpList_insert_u8 _ rfl (.tmp 3) (.const (.int .u8 3)) (.tmp 20) 54 5 48 rfl Try.underlying54 Try.underlying5 w.heap.size 3 (.slice (some ⟨w.heap.size + 3, 0, none⟩) 0 0) rfl rfl rfl _ _ (alloc_oth HM2.out _) rfl ?_)
  intro w3 hm3 hk3 hz3
  have hs3 : w3.heap.size = w.heap.size + 4 := by simpa using hz3
  clear hz3
  have hkk3 : Kp (fun _ => False) w w3 := (HK2.out.alloc _).trans hk3 (fun b hb e => by have e' : b = w.heap.size := e; omega)
  have HM3 := Lib.hid hm3
  have HK3 := Lib.hid hkk3
  clear hm3 hk3 hkk3
  go_wp2_with (refine wpList_insert_u8 _ rfl (.tmp 3) (.const (.int .u8 4)) (.tmp 29) 54 5 48 rfl Try.underlying54 Try.underlying5 w.heap.size 4 (.slice (some ⟨w.heap.size + 4, 0, none⟩) 4 4) rfl rfl rfl _ _ (alloc_oth HM3.out _) rfl ?_)
  intro w4 hm4 hk4 hz4
  have hs4 : w4.heap.size = w.heap.size + 5 := by simpa using hz4
  clear hz4
  have hkk4 : Kp (fun _ => False) w w4 := (HK3.out.alloc _).trans hk4 (fun b hb e => by have e' : b = w.heap.size := e; omega)
  have HM4 := Lib.hid hm4
  have HK4 := Lib.hid hkk4
  clear hm4 hk4 hkk4
  go_wp2_with (refine wpList_insert_u8 _ rfl (.tmp 3) (.const (.int .u8 5)) (.tmp 34) 54 5 48 rfl Try.underlying54 Try.underlying5 w.heap.size 5 (.slice (some ⟨w.heap.size + 5, 0, none⟩) 2 2) rfl rfl rfl _ _ (alloc_oth HM4.out _) rfl ?_)
  intro w5 hm5 hk5 hz5
  have hs5 : w5.heap.size = w.heap.size + 6 := by simpa using hz5
  clear hz5
  have hkk5 : Kp (fun _ => False) w w5 := (HK4.out.alloc _).trans hk5 (fun b hb e => by have e' : b = w.heap.size := e; omega)
  have HM5 := Lib.hid hm5
  have HK5 := Lib.hid hkk5
  clear hm5 hk5 hkk5
  go_wp2_with (refine wpList_insert_u8 _ rfl (.tmp 3) (.const (.int .u8 6)) (.tmp 37) 54 5 48 rfl Try.underlying54 Try.underlying5 w.heap.size 6 (.slice (some ⟨w.heap.size + 6, 0, none⟩) 1 1) rfl rfl rfl _ _ (alloc_oth HM5.out _) rfl ?_)
  intro w6 hm6 hk6 hz6
  have hs6 : w6.heap.size = w.heap.size + 7 := by simpa using hz6
  clear hz6
  have hkk6 : Kp (fun _ => False) w w6 := (HK5.out.alloc _).trans hk6 (fun b hb e => by have e' : b = w.heap.size := e; omega)
  have hb6 := hk6.heap (alloc_new w5 _) (by simp [hs5]; try omega)
  have HB6 := Lib.hid hb6
  clear hb6
  have HM6 := Lib.hid hm6
  have HK6 := Lib.hid hkk6
  clear hm6 hk6 hkk6
  have c6 : w6.cell? ⟨g, 3, none⟩ = some (.int .u8 6) := HK6.out.cell hc (fun x => x)
  have hlk := run_lookup_u8 (P := Try.prog) w6 54 5 48 Try.underlying54 Try.underlying5 w.heap.size _ _ HM6.out 6 5 _ rfl
  go_wp2
  go_ret
  exact ⟨_, rfl, by have h := HB6.out; simpa [fns, cl, hs5] using h, HK6.out, by omega⟩

theorem Try.info48 : (Try.prog.info? 48).map (fun i => (i.zero, i.size, i.bytes)) = some (some (.slice none 0 0), 1, 24) := by kernel_rfl
set_option maxHeartbeats 1000000 in
theorem fields_none (w : World) (g : Nat) (ty : Int) (hc : w.cell? ⟨g, 3, none⟩ = some (.int .u8 ty)) (h1 : ¬ ty = 1) (h2 : ¬ ty = 2) (h3 : ¬ ty = 3) (h4 : ¬ ty = 4) (h5 : ¬ ty = 5) (h6 : ¬ ty = 6) :
    Calls Try.prog 10 #[.pointer (some ⟨g, 0, none⟩)] w fun e w' => e = .returned (.slice none 0 0) ∧ Kp (fun _ => False) w w' := by
  have hmm := @run_makeMap Try.prog
  have hgl : g < w.heap.size := lt_of_cell (a := ⟨g, 3, none⟩) hc
  have b1 : (ty == 1) = false := by simpa using h1
  have b2 : (ty == 2) = false := by simpa using h2
  have b3 : (ty == 3) = false := by simpa using h3
  have b4 : (ty == 4) = false := by simpa using h4
  have b5 : (ty == 5) = false := by simpa using h5
  have b6 : (ty == 6) = false := by simpa using h6
  obtain ⟨i48, hi48, hz48, _, _⟩ := info_parts Try.info48
  go_enter Try.func10, Try.ntmps10
  go_wp2_with (refine wpList_insert_u8 _ rfl (.tmp 3) (.const (.int .u8 1)) (.tmp 12) 54 5 48 rfl Try.underlying54 Try.underlying5 w.heap.size 1 (.slice (some ⟨w.heap.size + 1, 0, none⟩) 4 4) rfl rfl rfl _ _ (alloc_oth (alloc_new w _) _) rfl ?_)
  intro w1 hm1 hk1 hz1
  have hs1 : w1.heap.size = w.heap.size + 2 := by simpa using hz1
  clear hz1
  have hkk1 : Kp (fun _ => False) w w1 := (((Kp.refl (fun _ => False) w).alloc _).alloc _).trans hk1 (fun b hb e => by have e' : b = w.heap.size := e; omega)
  have HM1 := Lib.hid hm1
  have HK1 := Lib.hid hkk1
  clear hm1 hk1 hkk1
  go_wp2_with (refine wpList_insert_u8 _ rfl (.tmp 3) (.const (.int .u8 2)) (.tmp 19) 54 5 48 rfl Try.underlying54 Try.underlying5 w.heap.size 2 (.slice (some ⟨w.heap.size + 2, 0, none⟩) 3 3) rfl rfl rfl _ _ (alloc_oth HM1.out _) rfl ?_)
  intro w2 hm2 hk2 hz2
  have hs2 : w2.heap.size = w.heap.size + 3 := by simpa using hz2
  clear hz2
  have hkk2 : Kp (fun _ => False) w w2 := (HK1.out.alloc _).trans hk2 (fun b hb e => by have e' : b = w.heap.size := e; omega)
  have HM2 := Lib.hid hm2
  have HK2 := Lib.hid hkk2
  clear hm2 hk2 hkk2
  go_wp2_with (refine wpList_insert_u8 _ rfl (.tmp 3) (.const (.int .u8 3)) (.tmp 20) 54 5 48 rfl Try.underlying54 Try.underlying5 w.heap.size 3 (.slice (some ⟨w.heap.size + 3, 0, none⟩) 0 0) rfl rfl rfl _ _ (alloc_oth HM2.out _) rfl ?_)
  intro w3 hm3 hk3 hz3
  have hs3 : w3.heap.size = w.heap.size + 4 := by simpa using hz3
  clear hz3
  have hkk3 : Kp (fun _ => False) w w3 := (HK2.out.alloc _).trans hk3 (fun b hb e => by have e' : b = w.heap.size := e; omega)
  have HM3 := Lib.hid hm3
  have HK3 := Lib.hid hkk3
  clear hm3 hk3 hkk3
  go_wp2_with (refine wpList_insert_u8 _ rfl (.tmp 3) (.const (.int .u8 4)) (.tmp 29) 54 5 48 rfl Try.underlying54 Try.underlying5 w.heap.size 4 (.slice (some ⟨w.heap.size + 4, 0, none⟩) 4 4) rfl rfl rfl _ _ (alloc_oth HM3.out _) rfl ?_)
  intro w4 hm4 hk4 hz4
  have hs4 : w4.heap.size = w.heap.size + 5 := by simpa using hz4
  clear hz4
  have hkk4 : Kp (fun _ => False) w w4 := (HK3.out.alloc _).trans hk4 (fun b hb e => by have e' : b = w.heap.size := e; omega)
  have HM4 := Lib.hid hm4
  have HK4 := Lib.hid hkk4
  clear hm4 hk4 hkk4
  go_wp2_with (refine wpList_insert_u8 _ rfl (.tmp 3) (.const (.int .u8 5)) (.tmp 34) 54 5 48 rfl Try.underlying54 Try.underlying5 w.heap.size 5 (.slice (some ⟨w.heap.size + 5, 0, none⟩) 2 2) rfl rfl rfl _ _ (alloc_oth HM4.out _) rfl ?_)
  intro w5 hm5 hk5 hz5
  have hs5 : w5.heap.size = w.heap.size + 6 := by simpa using hz5
  clear hz5
  have hkk5 : Kp (fun _ => False) w w5 := (HK4.out.alloc _).trans hk5 (fun b hb e => by have e' : b = w.heap.size := e; omega)
  have HM5 := Lib.hid hm5
  have HK5 := Lib.hid hkk5
  clear hm5 hk5 hkk5
  go_wp2_with (refine wpList_insert_u8 _ rfl (.tmp 3) (.const (.int .u8 6)) (.tmp 37) 54 5 48 rfl Try.underlying54 Try.underlying5 w.heap.size 6 (.slice (some ⟨w.heap.size + 6, 0, none⟩) 1 1) rfl rfl rfl _ _ (alloc_oth HM5.out _) rfl ?_)
  intro w6 hm6 hk6 hz6
  have hs6 : w6.heap.size = w.heap.size + 7 := by simpa using hz6
  clear hz6
  have hkk6 : Kp (fun _ => False) w w6 := (HK5.out.alloc _).trans hk6 (fun b hb e => by have e' : b = w.heap.size := e; omega)
  have HM6 := Lib.hid hm6
  have HK6 := Lib.hid hkk6
  clear hm6 hk6 hkk6
  have c6 : w6.cell? ⟨g, 3, none⟩ = some (.int .u8 ty) := HK6.out.cell hc (fun x => x)
  have hlk := run_lookup_u8_none (P := Try.prog) w6 54 5 48 Try.underlying54 Try.underlying5 w.heap.size _ _ HM6.out ty (.slice none 0 0) i48 hi48 hz48 (by simp [Instr.findNow, Instr.sameNow, b1, b2, b3, b4, b5, b6])
  go_wp2
  go_ret
  exact ⟨rfl, HK6.out⟩

end Go.Proofs.Ytmgfiblnbbjjdaa
