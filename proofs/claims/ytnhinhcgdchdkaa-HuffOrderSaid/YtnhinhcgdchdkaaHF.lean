/- The clones; pairs: its opening. -/
import Derived.Test.YtnhinhcgdchdkaaHD
import Derived.Test.YtnhinhcgdchdkaaHE
import Derived.Deep.RegionHeld3
import Derived.Deep.Cut
import Derived.Deep.CutRange
set_option linter.unusedSimpArgs false
set_option linter.unusedVariables false
namespace Go.Proofs.Ytnhinhcgdchdkaa
open Go Go.Proofs Go.RowKit

theorem Try.info3 : (Try.prog.info? 3).map (fun i => (i.zero, i.size, i.bytes)) = some (some (.int .i64 0), 1, 8) := by kernel_rfl
def zeroIt : Array Value := #[.int .i64 0, .int .i64 0, .slice none 0 0]

theorem It.one (l : List It) : ∀ u ∈ ics l, u.oneCell' = true := by
  intro u hu
  simp only [ics, List.mem_flatMap, It.cells] at hu
  obtain ⟨x, _, h⟩ := hu
  simp at h
  rcases h with rfl | rfl | rfl <;> rfl
theorem ints_one (k : IntKind) (l : List Int) : ∀ u ∈ l.map (Value.int k), u.oneCell' = true := by
  intro u hu; simp only [List.mem_map] at hu; obtain ⟨z, _, rfl⟩ := hu; rfl

def ClonePost (e0 : TypeId) (size : Nat) (xs : List Value) (w : World) (e : Ending) (w' : World) : Prop :=
  ∃ g off n c, e = .returned (.slice (some ⟨g, off, none⟩) n c) ∧ Own w' e0 size (.slice (some ⟨g, off, none⟩) n c) xs ∧ Kp (fun _ => False) w w' ∧ w.heap.size ≤ g

set_option maxHeartbeats 1000000 in
theorem clone_items (w : World) (a : Addr) (n c : Nat) (L : List It) (hr : Rd w 3 (.slice (some a) n c) (ics L)) (hn : L.length ≤ 1000000) (h0 : 0 < L.length) :
    Calls Try.prog 79 #[.slice (some a) n c] w (ClonePost 85 3 (ics L) w) := by
  have HR : ∀ W, Kp (fun _ => False) w W → Hid (Rd W 3 (.slice (some a) n c) (ics L)) := fun W hW => Lib.hid (hr.kpF hW)
  have he := fun (w : World) => Lib.run_eql_slice_nil (P := Try.prog) w 83 85 (some a) n c 0 0 Try.underlying83
  have hl := ics_len L
  have HL := Lib.hid hl
  clear hr hl
  go_enter Try.func79, Try.ntmps79
  go_wp2_with (at_builtin; refine wpList_append_Own _ rfl _ _ 83 rfl 85 (.agg #[.int .i64 0, .int .i64 0, .slice none 0 0]) 3 40 Try.info85 (by kernel_rfl) rfl (by omega) _ [] rfl (Own.empty (alloc_new w _)) _ (ics L) rfl (HR _ ((Kp.refl _ _).alloc _)).out (It.one L) 1000000 (by have := HL.out; simp; omega) (by omega) (by omega) ?_; intro A2 n2 c2 w2 ho hk hb; have HO := Lib.hid ho; have HK := Lib.hid hk; have HB := Lib.hid hb; clear ho hk hb)
  go_ret
  have hl2 : (ics L).length = n2 * 3 := by
    obtain ⟨_, n', _, he, h1, _⟩ := HO.out.len
    simp only [Value.slice.injEq] at he
    obtain ⟨_, rfl, _⟩ := he
    simpa using h1
  rw [HL.out] at hl2
  obtain ⟨g2, o2, rfl⟩ := HO.out.isSome (by omega)
  refine ⟨g2, o2, n2, c2, rfl, by simpa using HO.out, ((Kp.refl (fun _ => False) w).alloc _).trans HK.out (fun b hb e => by have e' : w.heap.size = b := Option.some.inj e; omega), ?_⟩
  rcases HB.out g2 rfl with h | h
  · have e' : w.heap.size = g2 := Option.some.inj h; omega
  · simp at h; omega

set_option maxHeartbeats 1000000 in
theorem clone_nil (w : World) : Calls Try.prog 79 #[.slice none 0 0] w fun e w' => e = .returned (.slice none 0 0) ∧ w = w' := by
  have he := fun (w : World) => Lib.run_eql_slice_nil (P := Try.prog) w 83 85 none 0 0 0 0 Try.underlying83
  go_enter Try.func79, Try.ntmps79
  go_wp2
  go_ret
  exact ⟨rfl, rfl⟩

set_option maxHeartbeats 1000000 in
theorem clone_ints (w : World) (a : Addr) (n c : Nat) (l : List Int) (hr : RdI w .i64 (.slice (some a) n c) l) (hn : l.length ≤ 1000000) (h0 : 0 < l.length) :
    Calls Try.prog 81 #[.slice (some a) n c] w (ClonePost 3 1 (l.map (Value.int .i64)) w) := by
  have HR : ∀ W, Kp (fun _ => False) w W → Hid (Rd W 1 (.slice (some a) n c) (l.map (Value.int .i64))) := fun W hW => Lib.hid (Rd.kpF hr hW)
  have he := fun (w : World) => Lib.run_eql_slice_nil (P := Try.prog) w 22 3 (some a) n c 0 0 Try.underlying22
  clear hr
  go_enter Try.func81, Try.ntmps81
  go_wp2_with (at_builtin; refine wpList_append_Own _ rfl _ _ 22 rfl 3 (.int .i64 0) 1 8 Try.info3 (by kernel_rfl) rfl (by omega) _ [] rfl (Own.empty (alloc_new w _)) _ (l.map (Value.int .i64)) rfl (HR _ ((Kp.refl _ _).alloc _)).out (ints_one _ l) 1000000 (by simp; omega) (by omega) (by omega) ?_; intro A2 n2 c2 w2 ho hk hb; have HO := Lib.hid ho; have HK := Lib.hid hk; have HB := Lib.hid hb; clear ho hk hb)
  go_ret
  have hl2 : (l.map (Value.int .i64)).length = n2 * 1 := by
    obtain ⟨_, n', _, he, h1, _⟩ := HO.out.len
    simp only [Value.slice.injEq] at he
    obtain ⟨_, rfl, _⟩ := he
    simpa using h1
  rw [List.length_map] at hl2
  obtain ⟨g2, o2, rfl⟩ := HO.out.isSome (by omega)
  refine ⟨g2, o2, n2, c2, rfl, by simpa using HO.out, ((Kp.refl (fun _ => False) w).alloc _).trans HK.out (fun b hb e => by have e' : w.heap.size = b := Option.some.inj e; omega), ?_⟩
  rcases HB.out g2 rfl with h | h
  · have e' : w.heap.size = g2 := Option.some.inj h; omega
  · simp at h; omega

def PairsPost (f : Nat → Int) (m : Nat) (T : List Tr) (w : World) (e : Ending) (w' : World) : Prop :=
  ∃ A n c L', e = .returned (.slice A n c) ∧ Own w' 85 3 (.slice A n c) (ics L') ∧ Items w' f m L' (pairsT f T) ∧ Kp (fun _ => False) w w' ∧ (∀ k, (Value.slice A n c).ownBlock = some k → w.heap.size ≤ k)

set_option maxRecDepth 100000 in
set_option maxHeartbeats 1000000 in
theorem pairs_nil (f : Nat → Int) (m : Nat) (w : World) : Calls Try.prog 40 #[.slice none 0 0] w (PairsPost f m [] w) := by
  go_enter Try.func40, Try.ntmps40
  go_wp2_with fail
  refine (clone_nil w).mono ?_
  rintro e w1 ⟨rfl, rfl⟩
  go_wp2_with fail
  go_loopw [15] (fun i W => i = .int .i64 0 ∧ W = w.alloc (.cells #[.slice none 0 0] 87)) (fun i _ => 0)
  case atStart => exact ⟨rfl, rfl⟩
  case round =>
    obtain ⟨rfl, rfl⟩ := hrel
    go_wp2_with fail
    refine (Init_nil _ w.heap.size ((cell_blk (alloc_new w _) 0).trans rfl)).mono ?_
    rintro e w2 ⟨rfl, rfl⟩
    go_wp2_with fail
    go_loopw [5] (fun v W => v = .slice none 0 0 ∧ W = w.alloc (.cells #[.slice none 0 0] 87)) (fun i _ => 0)
    case atStart => exact ⟨rfl, rfl⟩
    case round =>
      obtain ⟨rfl, rfl⟩ := hrel
      go_wp2_with fail
      refine (Len_any _ none 0 0).mono ?_
      rintro e w2 ⟨rfl, rfl⟩
      go_wp2_with fail
      go_ret
      exact ⟨none, 0, 0, [], rfl, Own.nil _ _ _, by rw [pairsT_nil]; exact Items.nil _ _ _, (Kp.refl _ _).alloc _, by simp [Value.ownBlock]⟩
end Go.Proofs.Ytnhinhcgdchdkaa
