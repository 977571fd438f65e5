/- The arguments of the statement, opened. -/
import Derived.Test.YtmgfiblnbbjjdaaMX
import Derived.Test.YtmgfiblnbbjjdaaRows
import Derived.ProofKit
import Derived.Deep.Slices
import Derived.OpenShut
set_option linter.unusedSimpArgs false
set_option linter.unusedVariables false
namespace Go.Proofs.Ytmgfiblnbbjjdaa
open Go.ChangeShapes Go.WideShapes Go.ChangeAt Go.RowKit Go.Deep

theorem Try.cells5 : Try.prog.cellsOf 5 = 1 := by kernel_rfl
theorem Try.cells4 : Try.prog.cellsOf 4 = 1 := by kernel_rfl
theorem Try.cells24 : Try.prog.cellsOf 24 = 1 := by kernel_rfl
theorem Try.cells25 : Try.prog.cellsOf 25 = 1 := by kernel_rfl
theorem Try.cells26 : Try.prog.cellsOf 26 = 1 := by kernel_rfl
theorem Try.cells23 : Try.prog.cellsOf 23 = 1 := by kernel_rfl
theorem Try.cells28 : Try.prog.cellsOf 28 = 4 := by kernel_rfl
theorem Try.cells30 : Try.prog.cellsOf 30 = 15 := by kernel_rfl

section
variable {H : Type} {enc : TypeId × Value → H} {W : World} {sp : Nat → Bool} {fuel : Nat}

theorem wf_u8 {n : Int} (h : (Lit.int .u8 n).wf = true) : 0 ≤ n ∧ n < 256 := by have := bounds_u8 h; omega
theorem wf_u16 {n : Int} (h : (Lit.int .u16 n).wf = true) : 0 ≤ n ∧ n < 65536 := by have := bounds_u16 h; omega
theorem wf_u32 {n : Int} (h : (Lit.int .u32 n).wf = true) : 0 ≤ n ∧ n < 4294967296 := by have := bounds_u32 h; omega

theorem open_rdI {t e : TypeId} {k : IntKind} {cs : List Value} {x : DataW H × List MemPlace} (ht : Try.prog.underlying t = some (.slice e)) (he : Try.prog.underlying e = some (.int k)) (hc : Try.prog.cellsOf e = 1)
    (h : DataW.trod enc Try.prog W 0 sp true fuel t cs = some x) : ∃ A n c l, cs = [.slice A n c] ∧ RdI W k (.slice A n c) l ∧ l.length = n ∧ ∀ z ∈ l, (Lit.int k z).wf = true := by
  rcases open_ints ht he hc h with ⟨rfl, _⟩ | ⟨a, len, cap, zs, rfl, _, h1, h2, h3, _, h4, h5⟩
  · exact ⟨none, 0, 0, [], rfl, RdI.nil W k, rfl, by simp⟩
  · have hle : len ≤ zs.length := by rw [h3]; split <;> omega
    refine ⟨some a, len, cap, zs.take len, rfl, ⟨some a, len, cap, rfl, by simp [hle], h1, h2, ?_⟩, by simp [hle], fun z hz => h5 z (List.mem_of_mem_take hz)⟩
    intro j u hj
    have hj' : j < len := by
      have := (List.getElem?_eq_some_iff.1 hj).1
      simp at this; omega
    obtain ⟨b, off, rfl, hh⟩ := ints_at h4 (by omega)
    refine ⟨b, off, rfl, ?_⟩
    rw [hh j (by omega)]
    simp only [List.getElem?_map, List.getElem?_take_of_lt hj', Option.map_eq_some_iff] at hj
    obtain ⟨z, hz, rfl⟩ := hj
    rw [List.getD_eq_getElem?_getD, hz]; rfl

theorem open_msg {cs : List Value} {x : DataW H × List MemPlace} (h : DataW.trod enc Try.prog W 0 sp true fuel 30 cs = some x) : ∃ y : Src, cs = y.cells ∧ y.In W.heap.size W := by
  obtain ⟨xs, n, _, _, hl, hlen, hf⟩ := DataW.trod_struct Try.underlying30 h
  rw [Try.cells30] at hl
  match cs, hl with
  | [c0, c1, c2, c3, c4, c5, c6, c7, c8, c9, c10, c11, c12, c13, c14], _ =>
  match xs, hlen with
  | [x0, x1, x2, x3, x4, x5, x6, x7, x8, x9, x10, x11], _ =>
  have f0 := hf 0 _ rfl
  have f1 := hf 1 _ rfl
  have f2 := hf 2 _ rfl
  have f3 := hf 3 _ rfl
  have f4 := hf 4 _ rfl
  have f5 := hf 5 _ rfl
  have f6 := hf 6 _ rfl
  have f7 := hf 7 _ rfl
  have f8 := hf 8 _ rfl
  have f9 := hf 9 _ rfl
  have f10 := hf 10 _ rfl
  have f11 := hf 11 _ rfl
  clear hf
  simp [Try.cells5, Try.cells4, Try.cells24, Try.cells25, Try.cells26, Try.cells23, Try.cells28] at f0 f1 f2 f3 f4 f5 f6 f7 f8 f9 f10 f11
  obtain ⟨a0, e0, _, w0⟩ := DataW.trod_int Try.underlying5 f0
  obtain ⟨a1, e1, _, w1⟩ := DataW.trod_int Try.underlying24 f1
  obtain ⟨a2, e2, _, w2⟩ := DataW.trod_int Try.underlying24 f2
  obtain ⟨a3, e3, _, w3⟩ := DataW.trod_int Try.underlying24 f3
  obtain ⟨a4, e4, _⟩ := DataW.trod_bool Try.underlying4 f4
  obtain ⟨a5, e5, _⟩ := DataW.trod_bool Try.underlying4 f5
  obtain ⟨a6, e6, _, w6⟩ := DataW.trod_int Try.underlying25 f6
  obtain ⟨a7, e7, _, w7⟩ := DataW.trod_int Try.underlying25 f7
  obtain ⟨A8, n8, c8', l8, e8, r8, m8, w8⟩ := open_rdI Try.underlying26 Try.underlying24 Try.cells24 f8
  obtain ⟨a9, e9, _, w9⟩ := DataW.trod_int Try.underlying24 f9
  obtain ⟨A11, n11, c11', l11, e11, r11, m11, w11⟩ := open_rdI Try.underlying23 Try.underlying5 Try.cells5 f11
  obtain ⟨ys, n', _, _, hl', hlen', hf'⟩ := DataW.trod_struct Try.underlying28 f10
  match ys, hlen' with
  | [y0, y1, y2, y3], _ =>
  have g0 := hf' 0 _ rfl
  have g1 := hf' 1 _ rfl
  have g2 := hf' 2 _ rfl
  have g3 := hf' 3 _ rfl
  clear hf'
  simp [Try.cells5, Try.cells24, Try.cells25] at g0 g1 g2 g3
  obtain ⟨b0, k0, _, u0⟩ := DataW.trod_int Try.underlying5 g0
  obtain ⟨b1, k1, _, u1⟩ := DataW.trod_int Try.underlying25 g1
  obtain ⟨b2, k2, _, u2⟩ := DataW.trod_int Try.underlying25 g2
  obtain ⟨b3, k3, _, u3⟩ := DataW.trod_int Try.underlying24 g3
  simp only [List.cons.injEq, and_true] at e0 e1 e2 e3 e4 e5 e6 e7 e8 e9 e11 k0 k1 k2 k3
  subst e0 e1 e2 e3 e4 e5 e6 e7 e8 e9 e11 k0 k1 k2 k3
  exact ⟨⟨⟨a0, a1, a2, a3, a4, a5, a6, a7, a9, b0, b1, b2, b3⟩, l8, l11, A8, n8, c8', A11, n11, c11'⟩, rfl,
    ⟨⟨wf_u8 w0, wf_u32 w1, wf_u32 w2, wf_u32 w3, wf_u16 w6, wf_u16 w7, wf_u32 w9, wf_u8 u0, wf_u16 u1, wf_u16 u2, wf_u32 u3⟩, r8, r11, fun z hz => wf_u32 (w8 z hz), fun z hz => wf_u8 (w11 z hz), fun k hk => lvB_lt r8 hk, fun k hk => lvB_lt r11 hk⟩⟩

theorem open_msgs {cs : List Value} {x : DataW H × List MemPlace} (h : DataW.trod enc Try.prog W 0 sp true fuel 22 cs = some x) : ∃ A n c l, cs = [.slice A n c] ∧ Given W A n l := by
  rcases open_slice Try.underlying22 h with ⟨rfl, _⟩ | ⟨a, len, cap, m, n, D, Pl, rfl, _, h1, h2, h3, _, hx⟩
  · exact ⟨none, 0, 0, [], rfl, ⟨rfl, by simp⟩⟩
  have hlm : len ≤ m := by rw [h3]; split <;> omega
  have each : ∀ i, i < len → ∃ y : Src, y.In W.heap.size W ∧ ∃ g off, a = ⟨g, off, none⟩ ∧ g < W.heap.size ∧ ∀ j u, y.cells[j]? = some u → W.cell? ⟨g, off + i * 15 + j, none⟩ = some u := by
    intro i hi
    obtain ⟨cs', g1, g2⟩ := hx i (by omega)
    rw [Try.cells30] at g1
    obtain ⟨y, rfl, hy⟩ := open_msg g2
    obtain ⟨_, hcl, hcell⟩ := World.cells?_some g1
    refine ⟨y, hy, ?_⟩
    have h0 := hcell 0 (by omega)
    obtain ⟨csz, k1, k2⟩ := hx 0 (by omega)
    rw [Try.cells30] at k1
    obtain ⟨z, rfl, _⟩ := open_msg k2
    obtain ⟨_, _, kcell⟩ := World.cells?_some k1
    have k0 : W.cell? ((a.add (0 * 15)).add 0) = some (z.cells.getD 0 .nilFunc) := (kcell 0 (by omega)).trans rfl
    obtain ⟨b, off, spot⟩ := a
    have hs : spot = none := by simpa [Addr.add] using World.cell?_spot k0
    subst hs
    have hb : W.cell? ⟨b, off + i * 15, none⟩ = some (y.cells.getD 0 .nilFunc) := by
      have := h0
      simp only [Go.WideShapes.add_plain, Nat.add_zero] at this
      rw [this]; rfl
    refine ⟨b, off, rfl, lt_of_cell hb, fun j u hj => ?_⟩
    have := hcell j (by have := (List.getElem?_eq_some_iff.1 hj).1; omega)
    simp only [Go.WideShapes.add_plain] at this
    rw [this, hj]
  haveI : Inhabited Src := ⟨⟨m7, [], [], none, 0, 0, none, 0, 0⟩⟩
  obtain ⟨S, hS⟩ := choose_lt (α := Src) each
  refine ⟨some a, len, cap, (List.range len).map S, rfl, ⟨by simp, fun i y hi => ?_⟩⟩
  simp only [List.getElem?_map, Option.map_eq_some_iff] at hi
  obtain ⟨i', hi', rfl⟩ := hi
  obtain ⟨hlt, rfl⟩ := List.getElem?_eq_some_iff.1 hi'
  simp at hlt ⊢
  obtain ⟨h1, g, off, rfl, h2, h3⟩ := hS i hlt
  exact ⟨h1, g, off, rfl, h2, h3⟩
end
end Go.Proofs.Ytmgfiblnbbjjdaa
