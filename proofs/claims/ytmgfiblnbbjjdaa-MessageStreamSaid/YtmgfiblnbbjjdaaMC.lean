/- The pen that writes: 'number'. -/
import Derived.Test.YtmgfiblnbbjjdaaMB
import Derived.Outline
set_option linter.unusedSimpArgs false
set_option linter.unusedVariables false
namespace Go.Proofs.Ytmgfiblnbbjjdaa
open Go Go.Proofs Go.RowKit

theorem Try.info5 : (Try.prog.info? 5).map (fun i => (i.zero, i.size, i.bytes)) = some (some (.int .u8 0), 1, 1) := by kernel_rfl

/-- 'append(p, c)': one byte. -/
theorem step_app1 {ops : Array Oper} {o : Oper} {a : Act} {K : Act → World → Prop} {Q : Exit → Act → World → Prop} {E : Prop} (W : World) (hgd : o.guard = none) (s x : Operand)
    (ho : o.op = .call { callee := .builtin .append, args := #[s, x], argTypes := #[23, 23] }) (v : Value) (l : List Int) (hs : a.eval s = v) (hown : Own W 5 1 v (l.map (Value.int .u8)))
    (b : Nat) (c : Int) (hx : a.eval x = .slice (some ⟨b, 0, none⟩) 1 1) (hb : W.heap[b]? = some (.cells #[.int .u8 c] 5 (0, 0))) (hl : l.length ≤ 1099511627786)
    (h : ∀ A' n' c' w', Own w' 5 1 (.slice A' n' c') ((l ++ [c]).map (Value.int .u8)) → Kp (fun b => v.ownBlock = some b) W w' → (∀ k, (Value.slice A' n' c').ownBlock = some k → v.ownBlock = some k ∨ W.heap.size ≤ k) → K (a.put o.dst (.slice A' n' c')) w') :
    if Region.wanted o (yielded ops a.tmps) = true then Oper.wp Try.prog o a W K Q else E :=
  step_append_Own W hgd s x 23 ho 5 (.int .u8 0) 1 1 Try.info5 (by kernel_rfl) rfl (by omega) v _ hs hown _ [.int .u8 c] hx (Rd.lit (n := 1) hb rfl (by omega)) (by simp [Value.oneCell']) 1099511627790
    (by simp; omega) (by omega) (by omega) (by simpa using h)

/-- A block that begins with a pen that writes. -/
def PenW (T : TypeId) (w : World) (g : Nat) (bad : Bool) (bv : Value) (ms : List Value) : Prop := w.heap[g]? = some (.cells (.bool bad :: .bool true :: bv :: ms).toArray T (0, 0))

set_option maxHeartbeats 400000 in
theorem number_wr (T : TypeId) (g : Nat) (bad : Bool) (bv : Value) (ms : List Value) (l : List Int) (v : Int) (n : Nat) (w : World) (hn : n ≤ 7) (hv0 : 0 ≤ v) (hv1 : v < 18446744073709551616) (hll : l.length ≤ 1099511627776)
    (hp : PenW T w g bad bv ms) (ho : Own w 5 1 bv (l.map (Value.int .u8))) (hne : ∀ k, bv.ownBlock = some k → k ≠ g) :
    Calls Try.prog 13 #[.pointer (some ⟨g, 0, none⟩), .int .u64 v, .int .i64 n] w fun e w' => ∃ bv', e = .returned (.int .u64 v) ∧ PenW T w' g bad bv' ms ∧
      Own w' 5 1 bv' ((l ++ Enc n v).map (Value.int .u8)) ∧ (∀ k, bv'.ownBlock = some k → bv.ownBlock = some k ∨ w.heap.size ≤ k) ∧ Kp (fun b => b = g ∨ bv.ownBlock = some b) w w' := by
  have hgs := lt_of_blk hp
  have c1 : w.cell? ⟨g, 1, none⟩ = some (.bool true) := by rw [cell_blk hp]; rfl
  have HP := Lib.hid hp
  have HO := Lib.hid ho
  have HN := Lib.hid hne
  clear hp ho hne
  go_enter Try.func13, Try.ntmps13
  go_wp2_with fail
  go_loopw [7, 19, 20] (fun k _ _ wr => ∃ (j : Nat) (bv' : Value), j ≤ n ∧ k = .int .i64 ((n : Int) - 1 - j) ∧ PenW T wr g bad bv' ms ∧
      Own wr 5 1 bv' ((l ++ (Enc n v).take j).map (Value.int .u8)) ∧ (∀ k, bv'.ownBlock = some k → bv.ownBlock = some k ∨ w.heap.size ≤ k) ∧ Kp (fun b => b = g ∨ bv.ownBlock = some b) w wr) (fun k _ _ _ => (intOf k + 1).toNat)
  case atStart => exact ⟨0, bv, by omega, by go_num, HP.out, by simpa using HO.out, fun k hk => .inl hk, Kp.refl _ _⟩
  case round =>
    obtain ⟨j, bv', hj, rfl, hp', ho', hob, hk⟩ := hrel
    by_cases hlt : j < n
    · obtain ⟨k, hnk⟩ : ∃ k, n = j + 1 + k := ⟨n - j - 1, by omega⟩
      have ek : (n : Int) - 1 - (j : Int) = (k : Int) := by omega
      rw [ek]
      have HNK := Lib.hid hnk
      clear ek hnk
      have hk7 : k ≤ 7 := by have := HNK.out; omega
      have ew : IntKind.i64.wrap (8 * (k : Int)) = 8 * k := IntWalk.i64_in _ (by omega)
      have ew0 : ¬ 8 * (k : Int) < 0 := by omega
      have d0 : wr.cell? ⟨g, 2, none⟩ = some bv' := by rw [cell_blk hp']; rfl
      have f0 : ∀ o, wr.frozen? ⟨g, o, none⟩ = false := fun o => frozen_blk hp' o
      have hg' := lt_of_blk hp'
      have hbg : ∀ k, bv'.ownBlock = some k → k ≠ g := fun k hk => by
        rcases hob k hk with h | h
        · exact HN.out k h
        · omega
      have HO' : ∀ W, Kp (fun _ => False) wr W → Hid (Own W 5 1 bv' ((l ++ (Enc n v).take j).map (Value.int .u8))) := fun W hW => Lib.hid (ho'.kp hW (fun _ _ _ h => h))
      have HP' := Lib.hid hp'
      have HB := Lib.hid hob
      have HK := Lib.hid hk
      have HBG := Lib.hid hbg
      clear hp' ho' hob hk hbg
      go_wp2_with fail
      have hlen : (l ++ (Enc n v).take j).length ≤ 1099511627786 := by simp [Enc_len]; omega
      go_region_law (
        refine step_app1 _ rfl (.tmp 24) (.tmp 30) rfl bv' _ rfl (HO' _ ((Kp.refl _ _).alloc _).drew).out _ _ rfl (alloc_new wr _) hlen ?_
        intro A1 n1 m1 w1 ho1 hk1 hb1
        have hp1 : PenW T w1 g bad bv' ms := hk1.heap (alloc_oth HP'.out _) (fun h => HBG.out g h rfl)
        have d1 : w1.cell? ⟨g, 2, none⟩ = some bv' := by rw [cell_blk hp1]; rfl
        have f1 : w1.frozen? ⟨g, 2, none⟩ = false := frozen_blk hp1 2
        have HO1 := Lib.hid ho1
        have HK1 := Lib.hid hk1
        have HB1 := Lib.hid hb1
        have HP1 := Lib.hid hp1
        clear ho1 hk1 hb1 hp1)
      all_goals
        go_wp2
        go_roundw
        case rel =>
          have hown : ∀ b, bv'.ownBlock = some b → b < w.heap.size → bv.ownBlock = some b := fun b hb hlt => (HB.out b hb).elim id (fun h => by omega)
          have hk2 := ((HK.out.alloc (.cells #[.int .u8 (IntKind.u8.wrap (v / 2 ^ (8 * (k : Int)).toNat))] 5 (0, 0))).drew.trans HK1.out (fun b hb h => .inr (hown b h hb)))
          refine ⟨j + 1, _, by have := HNK.out; omega, by have := HNK.out; go_num, setCell_blk HP1.out 2 _, ?_, fun q hq => ?_, hk2.setCell _ _ (fun _ => .inl rfl)⟩
          · rw [Enc_step n j k v HNK.out, ← List.append_assoc]
            exact HO1.out.setCell _ _ (fun q hq => by
              rcases HB1.out q hq with h | h
              · exact HBG.out q h
              · have h3 := Nat.le_trans ((HK.out.alloc _).drew).size h; exact fun e => by have e' : q = g := e; omega)
          · rcases HB1.out q hq with h | h
            · exact HB.out q h
            · exact .inr (Nat.le_trans ((HK.out.alloc _).drew).size h)
        case measure => simp [intOf]
    · obtain rfl : j = n := by omega
      have HP' := Lib.hid hp'
      have HO' := Lib.hid ho'
      have HB := Lib.hid hob
      have HK := Lib.hid hk
      clear hp' ho' hob hk hlt hj
      go_wp2
      go_ret
      exact ⟨bv', rfl, HP'.out, by have := HO'.out; rwa [List.take_of_length_le (by rw [Enc_len]; omega)] at this, HB.out, HK.out⟩
end Go.Proofs.Ytmgfiblnbbjjdaa
