/- Two messages alike are told to be so. -/
import Derived.Test.YtmgfiblnbbjjdaaMJ
set_option linter.unusedSimpArgs false
set_option linter.unusedVariables false
namespace Go.Proofs.Ytmgfiblnbbjjdaa
open Go Go.Proofs Go.RowKit

theorem equal8_any (w : World) (A1 A2 : Option Addr) (n c1 c2 : Nat) (l : List Int) (h1 : RdI w .u8 (.slice A1 n c1) l) (h2 : RdI w .u8 (.slice A2 n c2) l) :
    Calls Try.prog 26 #[.slice A1 n c1, .slice A2 n c2] w fun e w' => e = .returned (.bool true) ∧ Kp (fun _ => False) w w' := by
  have hn : l.length = n := by obtain ⟨A, n', c', he, h, _⟩ := h1; simp only [Value.slice.injEq] at he; have := he.2.1; simp at h; omega
  have hn63 : n ≤ 9223372036854775807 := by obtain ⟨A, n', c', he, h, hh, hc, _⟩ := h1; simp only [Value.slice.injEq] at he; have := he.2.1; omega
  have H1 := Lib.hid h1
  have H2 := Lib.hid h2
  have HN := Lib.hid hn
  clear h1 h2 hn
  go_enter Try.func26, Try.ntmps26
  go_wp2
  go_loopw [5, 13] (fun _ i W => ∃ k : Nat, k ≤ n ∧ i = .int .i64 k ∧ Kp (fun _ => False) w W) (fun _ i _ => n - (intOf i).toNat)
  case atStart => exact ⟨0, by omega, rfl, Kp.refl _ _⟩
  case round =>
    obtain ⟨k, hk, rfl, hkk⟩ := hrel
    by_cases hlt : k < n
    · have hr1 : Hid (RdI wr .u8 (.slice A1 n c1) l) := Rd.kp H1.out hkk (fun _ _ _ x => x)
      have hr2 : Hid (RdI wr .u8 (.slice A2 n c2) l) := Rd.kp H2.out hkk (fun _ _ _ x => x)
      have hu : (l.map (Value.int .u8))[k]? = some (.int .u8 (l.getD k 0)) := by
        have := HN.out
        rw [List.getElem?_map, List.getD_eq_getElem?_getD, List.getElem?_eq_getElem (by omega)]; rfl
      obtain ⟨A, n', c', he, _, _, _, h4⟩ := hr1.out
      simp only [Value.slice.injEq] at he
      obtain ⟨rfl, rfl, rfl⟩ := he
      obtain ⟨g1, o1, rfl, hc1⟩ := h4 k _ hu
      obtain ⟨A, n', c', he, _, _, _, h5⟩ := hr2.out
      simp only [Value.slice.injEq] at he
      obtain ⟨rfl, _, rfl⟩ := he
      obtain ⟨g2, o2, rfl, hc2⟩ := h5 k _ hu
      have HK := Lib.hid hkk
      clear h4 h5 hu hkk hr1 hr2
      go_wp2
      go_quiet (fail)
      go_wp2
      go_roundw
      case rel => exact ⟨k + 1, by omega, by go_num, HK.out.drewN _⟩
      case measure => simp [intOf]; omega
    · have HK := Lib.hid hkk
      clear hkk
      go_wp2
      go_ret
      exact ⟨rfl, HK.out⟩

theorem equal32_any (w : World) (A1 A2 : Option Addr) (n c1 c2 : Nat) (l : List Int) (h1 : RdI w .u32 (.slice A1 n c1) l) (h2 : RdI w .u32 (.slice A2 n c2) l) :
    Calls Try.prog 25 #[.slice A1 n c1, .slice A2 n c2] w fun e w' => e = .returned (.bool true) ∧ Kp (fun _ => False) w w' := by
  have hn : l.length = n := by obtain ⟨A, n', c', he, h, _⟩ := h1; simp only [Value.slice.injEq] at he; have := he.2.1; simp at h; omega
  have hn63 : n ≤ 9223372036854775807 := by obtain ⟨A, n', c', he, h, hh, hc, _⟩ := h1; simp only [Value.slice.injEq] at he; have := he.2.1; omega
  have H1 := Lib.hid h1
  have H2 := Lib.hid h2
  have HN := Lib.hid hn
  clear h1 h2 hn
  go_enter Try.func25, Try.ntmps25
  go_wp2
  go_loopw [5, 13] (fun _ i W => ∃ k : Nat, k ≤ n ∧ i = .int .i64 k ∧ Kp (fun _ => False) w W) (fun _ i _ => n - (intOf i).toNat)
  case atStart => exact ⟨0, by omega, rfl, Kp.refl _ _⟩
  case round =>
    obtain ⟨k, hk, rfl, hkk⟩ := hrel
    by_cases hlt : k < n
    · have hr1 : Hid (RdI wr .u32 (.slice A1 n c1) l) := Rd.kp H1.out hkk (fun _ _ _ x => x)
      have hr2 : Hid (RdI wr .u32 (.slice A2 n c2) l) := Rd.kp H2.out hkk (fun _ _ _ x => x)
      have hu : (l.map (Value.int .u32))[k]? = some (.int .u32 (l.getD k 0)) := by
        have := HN.out
        rw [List.getElem?_map, List.getD_eq_getElem?_getD, List.getElem?_eq_getElem (by omega)]; rfl
      obtain ⟨A, n', c', he, _, _, _, h4⟩ := hr1.out
      simp only [Value.slice.injEq] at he
      obtain ⟨rfl, rfl, rfl⟩ := he
      obtain ⟨g1, o1, rfl, hc1⟩ := h4 k _ hu
      obtain ⟨A, n', c', he, _, _, _, h5⟩ := hr2.out
      simp only [Value.slice.injEq] at he
      obtain ⟨rfl, _, rfl⟩ := he
      obtain ⟨g2, o2, rfl, hc2⟩ := h5 k _ hu
      have HK := Lib.hid hkk
      clear h4 h5 hu hkk hr1 hr2
      go_wp2
      go_quiet (fail)
      go_wp2
      go_roundw
      case rel => exact ⟨k + 1, by omega, by go_num, HK.out.drewN _⟩
      case measure => simp [intOf]; omega
    · have HK := Lib.hid hkk
      clear hkk
      go_wp2
      go_ret
      exact ⟨rfl, HK.out⟩

set_option maxHeartbeats 2000000 in
theorem same_eq (w : World) (m : Mg) (S1 S2 D1 D2 : Option Addr) (ns cs1 cs2 nd cd1 cd2 : Nat) (sums body : List Int) (h1 : RdI w .u32 (.slice S1 ns cs1) sums) (h2 : RdI w .u32 (.slice S2 ns cs2) sums)
    (h3 : RdI w .u8 (.slice D1 nd cd1) body) (h4 : RdI w .u8 (.slice D2 nd cd2) body) :
    Calls Try.prog 12 #[.agg (m.cells (.slice S1 ns cs1) (.slice D1 nd cd1)).toArray, .agg (m.cells (.slice S2 ns cs2) (.slice D2 nd cd2)).toArray] w fun e w' => e = .returned (.bool true) ∧ Kp (fun _ => False) w w' := by
  have H1 : ∀ W, Kp (fun _ => False) w W → Hid (RdI W .u32 (.slice S1 ns cs1) sums ∧ RdI W .u32 (.slice S2 ns cs2) sums) := fun W hW => Lib.hid ⟨Rd.kp h1 hW (fun _ _ _ x => x), Rd.kp h2 hW (fun _ _ _ x => x)⟩
  have H2 : ∀ W, Kp (fun _ => False) w W → Hid (RdI W .u8 (.slice D1 nd cd1) body ∧ RdI W .u8 (.slice D2 nd cd2) body) := fun W hW => Lib.hid ⟨Rd.kp h3 hW (fun _ _ _ x => x), Rd.kp h4 hW (fun _ _ _ x => x)⟩
  clear h1 h2 h3 h4
  unfold Mg.cells
  go_enter Try.func12, Try.ntmps12
  go_wp2_with fail
  refine (equal32_any _ S1 S2 ns cs1 cs2 sums (H1 _ (((Kp.refl _ _).alloc _).alloc _)).out.1 (H1 _ (((Kp.refl _ _).alloc _).alloc _)).out.2).mono ?_
  rintro e w1 ⟨rfl, hk1⟩
  have HK1 := Lib.hid ((((Kp.refl _ w).alloc _).alloc _).trans' hk1)
  have hb2 := hk1.heap (alloc_oth (alloc_new w _) _) (fun x => x)
  have hb3 := hk1.heap (alloc_new (w.alloc _) _) (fun x => x)
  rw [World.size_alloc] at hb3
  have ca9 : w1.cell? ⟨w.heap.size, 9, none⟩ = some (.int .u32 m.seq) := (cell_blk hb2 9).trans rfl
  have ca10 : w1.cell? ⟨w.heap.size, 10, none⟩ = some (.int .u8 m.ek) := (cell_blk hb2 10).trans rfl
  have ca11 : w1.cell? ⟨w.heap.size, 11, none⟩ = some (.int .u16 m.ex) := (cell_blk hb2 11).trans rfl
  have ca12 : w1.cell? ⟨w.heap.size, 12, none⟩ = some (.int .u16 m.ey) := (cell_blk hb2 12).trans rfl
  have ca13 : w1.cell? ⟨w.heap.size, 13, none⟩ = some (.int .u32 m.ec) := (cell_blk hb2 13).trans rfl
  have ca14 : w1.cell? ⟨w.heap.size, 14, none⟩ = some (.slice D1 nd cd1) := (cell_blk hb2 14).trans rfl
  have cb9 : w1.cell? ⟨w.heap.size + 1, 9, none⟩ = some (.int .u32 m.seq) := (cell_blk hb3 9).trans rfl
  have cb10 : w1.cell? ⟨w.heap.size + 1, 10, none⟩ = some (.int .u8 m.ek) := (cell_blk hb3 10).trans rfl
  have cb11 : w1.cell? ⟨w.heap.size + 1, 11, none⟩ = some (.int .u16 m.ex) := (cell_blk hb3 11).trans rfl
  have cb12 : w1.cell? ⟨w.heap.size + 1, 12, none⟩ = some (.int .u16 m.ey) := (cell_blk hb3 12).trans rfl
  have cb13 : w1.cell? ⟨w.heap.size + 1, 13, none⟩ = some (.int .u32 m.ec) := (cell_blk hb3 13).trans rfl
  have cb14 : w1.cell? ⟨w.heap.size + 1, 14, none⟩ = some (.slice D2 nd cd2) := (cell_blk hb3 14).trans rfl
  clear hb2 hb3 hk1
  go_wp2_with fail
  refine (equal8_any _ D1 D2 nd cd1 cd2 body (H2 _ HK1.out).out.1 (H2 _ HK1.out).out.2).mono ?_
  rintro e w2 ⟨rfl, hk2⟩
  have HK2 := Lib.hid (HK1.out.trans' hk2)
  clear hk2
  go_wp2
  go_ret
  exact ⟨rfl, HK2.out⟩

def strOf (l : List Int) : ByteArray := l.foldl (fun r n => r.push (UInt8.ofNat n.toNat)) ByteArray.empty

theorem run_convert_rd (w : World) (v : Value) (l : List Int) (h : RdI w .u8 v l) : (convert 23 9 v).run Try.prog w = .ok (.string (strOf l)) w := by
  obtain ⟨A, n, cap, rfl, h1, h2, h3, h4⟩ := h
  rw [run_convert_bytes_string w 23 9 5 A n cap Try.underlying23 Try.underlying5 Try.underlying9]
  have hn : l.length = n := by simpa using h1
  cases A with
  | none =>
    have hl0 : l = [] := by
      cases l with
      | nil => rfl
      | cons x l => obtain ⟨g, off, h, _⟩ := h4 0 (.int .u8 x) rfl; simp at h
    subst hl0
    simp [Conv.bytesToString, Sem.run_pure, strOf]
  | some a =>
    refine run_bytesToString w a n cap l ?_
    have hx : ∀ j v, (l.map (Value.int .u8))[j]? = some v → w.cell? (a.add j) = some v := fun j v hj => by
      obtain ⟨g, off, he, hc⟩ := h4 j v hj
      cases he
      rw [Addr.add_lit]; exact hc
    have := run_firstCells_some (P := Try.prog) w 1 n a n cap (l.map (Value.int .u8)) (by simpa using h1) hx
    simpa [Builtin.firstCells] using this

set_option maxHeartbeats 2000000 in
theorem Same_eq (w : World) (m : Mg) (S1 S2 D1 D2 : Option Addr) (ns cs1 cs2 nd cd1 cd2 : Nat) (sums body : List Int) (h1 : RdI w .u32 (.slice S1 ns cs1) sums) (h2 : RdI w .u32 (.slice S2 ns cs2) sums)
    (h3 : RdI w .u8 (.slice D1 nd cd1) body) (h4 : RdI w .u8 (.slice D2 nd cd2) body) :
    Calls Try.prog 7 #[.agg (m.cells (.slice S1 ns cs1) (.slice D1 nd cd1)).toArray, .agg (m.cells (.slice S2 ns cs2) (.slice D2 nd cd2)).toArray] w fun e w' => e = .returned (.bool true) ∧ Kp (fun _ => False) w w' := by
  have hn : sums.length = ns := by obtain ⟨A, n', c', he, h, _⟩ := h1; simp only [Value.slice.injEq] at he; have := he.2.1; simp at h; omega
  have hn63 : ns ≤ 9223372036854775807 := by obtain ⟨A, n', c', he, h, hh, hc, _⟩ := h1; simp only [Value.slice.injEq] at he; have := he.2.1; omega
  have H1 : ∀ W, Kp (fun _ => False) w W → Hid (RdI W .u32 (.slice S1 ns cs1) sums ∧ RdI W .u32 (.slice S2 ns cs2) sums) := fun W hW => Lib.hid ⟨Rd.kp h1 hW (fun _ _ _ x => x), Rd.kp h2 hW (fun _ _ _ x => x)⟩
  have H2 : ∀ W, Kp (fun _ => False) w W → Hid (RdI W .u8 (.slice D1 nd cd1) body ∧ RdI W .u8 (.slice D2 nd cd2) body) := fun W hW => Lib.hid ⟨Rd.kp h3 hW (fun _ _ _ x => x), Rd.kp h4 hW (fun _ _ _ x => x)⟩
  have HN := Lib.hid hn
  clear h1 h2 h3 h4 hn
  unfold Mg.cells
  go_enter Try.func7, Try.ntmps7
  go_wp2
  have hk0 := ((Kp.refl (fun _ => False) w).alloc (.cells #[.int .u8 m.ty, .int .u32 m.life, .int .u32 m.frame, .int .u32 m.base, .bool m.has, .bool m.full, .int .u16 m.w, .int .u16 m.h, .slice S1 ns cs1, .int .u32 m.seq, .int .u8 m.ek, .int .u16 m.ex, .int .u16 m.ey, .int .u32 m.ec, .slice D1 nd cd1] 30)).alloc (.cells #[.int .u8 m.ty, .int .u32 m.life, .int .u32 m.frame, .int .u32 m.base, .bool m.has, .bool m.full, .int .u16 m.w, .int .u16 m.h, .slice S2 ns cs2, .int .u32 m.seq, .int .u8 m.ek, .int .u16 m.ex, .int .u16 m.ey, .int .u32 m.ec, .slice D2 nd cd2] 30)
  have hb2 := alloc_oth (alloc_new w (.cells #[.int .u8 m.ty, .int .u32 m.life, .int .u32 m.frame, .int .u32 m.base, .bool m.has, .bool m.full, .int .u16 m.w, .int .u16 m.h, .slice S1 ns cs1, .int .u32 m.seq, .int .u8 m.ek, .int .u16 m.ex, .int .u16 m.ey, .int .u32 m.ec, .slice D1 nd cd1] 30)) (.cells #[.int .u8 m.ty, .int .u32 m.life, .int .u32 m.frame, .int .u32 m.base, .bool m.has, .bool m.full, .int .u16 m.w, .int .u16 m.h, .slice S2 ns cs2, .int .u32 m.seq, .int .u8 m.ek, .int .u16 m.ex, .int .u16 m.ey, .int .u32 m.ec, .slice D2 nd cd2] 30)
  have hb3 := alloc_new (w.alloc (.cells #[.int .u8 m.ty, .int .u32 m.life, .int .u32 m.frame, .int .u32 m.base, .bool m.has, .bool m.full, .int .u16 m.w, .int .u16 m.h, .slice S1 ns cs1, .int .u32 m.seq, .int .u8 m.ek, .int .u16 m.ex, .int .u16 m.ey, .int .u32 m.ec, .slice D1 nd cd1] 30)) (.cells #[.int .u8 m.ty, .int .u32 m.life, .int .u32 m.frame, .int .u32 m.base, .bool m.has, .bool m.full, .int .u16 m.w, .int .u16 m.h, .slice S2 ns cs2, .int .u32 m.seq, .int .u8 m.ek, .int .u16 m.ex, .int .u16 m.ey, .int .u32 m.ec, .slice D2 nd cd2] 30)
  rw [World.size_alloc] at hb3
  generalize hw0 : (w.alloc (.cells #[.int .u8 m.ty, .int .u32 m.life, .int .u32 m.frame, .int .u32 m.base, .bool m.has, .bool m.full, .int .u16 m.w, .int .u16 m.h, .slice S1 ns cs1, .int .u32 m.seq, .int .u8 m.ek, .int .u16 m.ex, .int .u16 m.ey, .int .u32 m.ec, .slice D1 nd cd1] 30)).alloc (.cells #[.int .u8 m.ty, .int .u32 m.life, .int .u32 m.frame, .int .u32 m.base, .bool m.has, .bool m.full, .int .u16 m.w, .int .u16 m.h, .slice S2 ns cs2, .int .u32 m.seq, .int .u8 m.ek, .int .u16 m.ex, .int .u16 m.ey, .int .u32 m.ec, .slice D2 nd cd2] 30) = w0 at *
  have HK0 := Lib.hid hk0
  have HB2 := Lib.hid hb2
  have HB3 := Lib.hid hb3
  clear hk0 hb2 hb3 hw0
  go_loopw [5] (fun i W => ∃ k : Nat, k ≤ ns ∧ i = .int .i64 k ∧ Kp (fun _ => False) w0 W) (fun i _ => ns - (intOf i).toNat)
  case atStart => exact ⟨0, by omega, rfl, Kp.refl _ _⟩
  case round =>
    obtain ⟨k, hk, rfl, hkk⟩ := hrel
    have hb2 := hkk.heap HB2.out (fun x => x)
    have hb3 := hkk.heap HB3.out (fun x => x)
    have c8 : wr.cell? ⟨w.heap.size, 8, none⟩ = some (.slice S1 ns cs1) := (cell_blk hb2 8).trans rfl
    have d8 : wr.cell? ⟨w.heap.size + 1, 8, none⟩ = some (.slice S2 ns cs2) := (cell_blk hb3 8).trans rfl
    have hK2 := HK0.out.trans' hkk
    have HKK := Lib.hid hkk
    by_cases hlt : k < ns
    · have hr1 := (H1 wr hK2).out.1
      have hr2 := (H1 wr hK2).out.2
      have hu : (sums.map (Value.int .u32))[k]? = some (.int .u32 (sums.getD k 0)) := by
        have := HN.out
        rw [List.getElem?_map, List.getD_eq_getElem?_getD, List.getElem?_eq_getElem (by omega)]; rfl
      obtain ⟨A, n', c', he, _, _, _, h4⟩ := hr1
      simp only [Value.slice.injEq] at he
      obtain ⟨rfl, rfl, rfl⟩ := he
      obtain ⟨g1, o1, rfl, hc1⟩ := h4 k _ hu
      obtain ⟨A, n', c', he, _, _, _, h5⟩ := hr2
      simp only [Value.slice.injEq] at he
      obtain ⟨rfl, _, rfl⟩ := he
      obtain ⟨g2, o2, rfl, hc2⟩ := h5 k _ hu
      clear h4 h5 hu hkk hb2 hb3 hK2
      go_wp2
      go_quiet (fail)
      go_wp2
      go_roundw
      case rel => exact ⟨k + 1, by omega, by go_num, HKK.out.drewN _⟩
      case measure => simp [intOf]; omega
    · have hv1 := run_convert_rd wr _ _ (H2 wr hK2).out.1
      have hv2 := run_convert_rd wr _ _ (H2 wr hK2).out.2
      have HK2 := Lib.hid hK2
      have ca0 : wr.cell? ⟨w.heap.size, 0, none⟩ = some (.int .u8 m.ty) := (cell_blk hb2 0).trans rfl
      have ca1 : wr.cell? ⟨w.heap.size, 1, none⟩ = some (.int .u32 m.life) := (cell_blk hb2 1).trans rfl
      have ca2 : wr.cell? ⟨w.heap.size, 2, none⟩ = some (.int .u32 m.frame) := (cell_blk hb2 2).trans rfl
      have ca3 : wr.cell? ⟨w.heap.size, 3, none⟩ = some (.int .u32 m.base) := (cell_blk hb2 3).trans rfl
      have ca4 : wr.cell? ⟨w.heap.size, 4, none⟩ = some (.bool m.has) := (cell_blk hb2 4).trans rfl
      have ca5 : wr.cell? ⟨w.heap.size, 5, none⟩ = some (.bool m.full) := (cell_blk hb2 5).trans rfl
      have ca6 : wr.cell? ⟨w.heap.size, 6, none⟩ = some (.int .u16 m.w) := (cell_blk hb2 6).trans rfl
      have ca7 : wr.cell? ⟨w.heap.size, 7, none⟩ = some (.int .u16 m.h) := (cell_blk hb2 7).trans rfl
      have ca9 : wr.cell? ⟨w.heap.size, 9, none⟩ = some (.int .u32 m.seq) := (cell_blk hb2 9).trans rfl
      have ca10 : wr.cell? ⟨w.heap.size, 10, none⟩ = some (.int .u8 m.ek) := (cell_blk hb2 10).trans rfl
      have ca11 : wr.cell? ⟨w.heap.size, 11, none⟩ = some (.int .u16 m.ex) := (cell_blk hb2 11).trans rfl
      have ca12 : wr.cell? ⟨w.heap.size, 12, none⟩ = some (.int .u16 m.ey) := (cell_blk hb2 12).trans rfl
      have ca13 : wr.cell? ⟨w.heap.size, 13, none⟩ = some (.int .u32 m.ec) := (cell_blk hb2 13).trans rfl
      have ca14 : wr.cell? ⟨w.heap.size, 14, none⟩ = some (.slice D1 nd cd1) := (cell_blk hb2 14).trans rfl
      have cb0 : wr.cell? ⟨w.heap.size + 1, 0, none⟩ = some (.int .u8 m.ty) := (cell_blk hb3 0).trans rfl
      have cb1 : wr.cell? ⟨w.heap.size + 1, 1, none⟩ = some (.int .u32 m.life) := (cell_blk hb3 1).trans rfl
      have cb2 : wr.cell? ⟨w.heap.size + 1, 2, none⟩ = some (.int .u32 m.frame) := (cell_blk hb3 2).trans rfl
      have cb3 : wr.cell? ⟨w.heap.size + 1, 3, none⟩ = some (.int .u32 m.base) := (cell_blk hb3 3).trans rfl
      have cb4 : wr.cell? ⟨w.heap.size + 1, 4, none⟩ = some (.bool m.has) := (cell_blk hb3 4).trans rfl
      have cb5 : wr.cell? ⟨w.heap.size + 1, 5, none⟩ = some (.bool m.full) := (cell_blk hb3 5).trans rfl
      have cb6 : wr.cell? ⟨w.heap.size + 1, 6, none⟩ = some (.int .u16 m.w) := (cell_blk hb3 6).trans rfl
      have cb7 : wr.cell? ⟨w.heap.size + 1, 7, none⟩ = some (.int .u16 m.h) := (cell_blk hb3 7).trans rfl
      have cb9 : wr.cell? ⟨w.heap.size + 1, 9, none⟩ = some (.int .u32 m.seq) := (cell_blk hb3 9).trans rfl
      have cb10 : wr.cell? ⟨w.heap.size + 1, 10, none⟩ = some (.int .u8 m.ek) := (cell_blk hb3 10).trans rfl
      have cb11 : wr.cell? ⟨w.heap.size + 1, 11, none⟩ = some (.int .u16 m.ex) := (cell_blk hb3 11).trans rfl
      have cb12 : wr.cell? ⟨w.heap.size + 1, 12, none⟩ = some (.int .u16 m.ey) := (cell_blk hb3 12).trans rfl
      have cb13 : wr.cell? ⟨w.heap.size + 1, 13, none⟩ = some (.int .u32 m.ec) := (cell_blk hb3 13).trans rfl
      have cb14 : wr.cell? ⟨w.heap.size + 1, 14, none⟩ = some (.slice D2 nd cd2) := (cell_blk hb3 14).trans rfl
      clear hb2 hb3 hkk hK2
      go_wp2
      go_ret
      exact ⟨rfl, HK2.out⟩
end Go.Proofs.Ytmgfiblnbbjjdaa
