/- The walk of the statement. -/
import Derived.Test.YtmgfiblnbbjjdaaMW
set_option linter.unusedSimpArgs false
set_option linter.unusedVariables false
namespace Go.Proofs.Ytmgfiblnbbjjdaa
open Go Go.Proofs Go.RowKit

/-- The messages that came in. -/
structure Given (w : World) (A : Option Addr) (n : Nat) (l : List Src) : Prop where
  len : l.length = n
  at' : ∀ i x, l[i]? = some x → x.In w.heap.size w ∧ ∃ g off, A = some ⟨g, off, none⟩ ∧ g < w.heap.size ∧ ∀ j u, x.cells[j]? = some u → w.cell? ⟨g, off + i * 15 + j, none⟩ = some u

def wcs (ys : List Src) : List Value := ys.flatMap Src.wcells
def wby (ys : List Src) : List Int := ys.flatMap Src.fr

theorem wcells_len (x : Src) : x.wcells.length = 15 := rfl
theorem wcs_len (ys : List Src) : (wcs ys).length = ys.length * 15 := by
  induction ys with
  | nil => rfl
  | cons y ys ih => simp only [wcs, List.flatMap_cons, List.length_append, wcells_len, List.length_cons] at ih ⊢; omega
theorem wcells_one (x : Src) : ∀ u ∈ x.wcells, u.oneCell' = true := by
  intro u hu
  simp only [Src.wcells, Mg.cells] at hu
  simp at hu
  rcases hu with h | h | h | h | h | h | h | h | h | h | h | h | h | h | h <;> subst h <;> rfl
theorem fr_le {x : Src} (h : MOk x.m x.sums x.body) : x.fr.length ≤ 2005 := by
  have := (encOf_ok h).1
  simp only [Src.fr, fr_len]; omega

/-- Where the first loop stands. -/
structure L1 (w : World) (l : List Src) (i : Nat) (allv wantv : Value) (wr : World) (ys : List Src) : Prop where
  kp : Kp (fun b => w.heap.size ≤ b) w wr
  all : Own wr 5 1 allv ((wby ys).map (Value.int .u8))
  want : Own wr 30 15 wantv (wcs ys)
  win : ∀ y ∈ ys, y.Win w.heap.size w
  len : ys.length ≤ i
  ab : ∀ k, allv.ownBlock = some k → w.heap.size ≤ k
  wb : ∀ k, wantv.ownBlock = some k → w.heap.size ≤ k
  byl : (wby ys).length ≤ ys.length * 2005

theorem Try.info30 : (Try.prog.info? 30).map (fun i => (i.zero, i.size, i.bytes)) = some (some (.agg zeroM), 15, 88) := by kernel_rfl

/-- One message more. -/
theorem L1.add {w wr w' : World} {l : List Src} {i : Nat} {allv wantv a' b' : Value} {ys : List Src} {y : Src} (h : L1 w l i allv wantv wr ys) (hy : y.Win w.heap.size w) (hk : Kp (fun b => w.heap.size ≤ b) w w')
    (ha : Own w' 5 1 a' ((wby ys).map (Value.int .u8) ++ y.fr.map (Value.int .u8))) (hb : Own w' 30 15 b' (wcs ys ++ y.wcells)) (hab : ∀ k, a'.ownBlock = some k → w.heap.size ≤ k) (hbb : ∀ k, b'.ownBlock = some k → w.heap.size ≤ k) :
    L1 w l (i + 1) a' b' w' (ys ++ [y]) where
  kp := hk
  all := by simpa [wby] using ha
  want := by simpa [wcs] using hb
  win := by
    intro z hz
    simp only [List.mem_append, List.mem_singleton] at hz
    rcases hz with hz | rfl
    · exact h.win z hz
    · exact hy
  len := by have := h.len; simp; omega
  ab := hab
  wb := hbb
  byl := by
    have h1 := h.byl
    have h2 := fr_le hy.mok
    simp only [wby, List.flatMap_append, List.flatMap_cons, List.flatMap_nil, List.append_nil, List.length_append, List.length_singleton] at h1 ⊢
    omega
/-- .. and none. -/
theorem L1.skip {w wr w' : World} {l : List Src} {i : Nat} {a b : Value} {ys : List Src} (h : L1 w l i a b wr ys) (hk : Kp (fun _ => False) wr w') : L1 w l (i + 1) a b w' ys where
  kp := h.kp.trans hk (fun _ _ e => e.elim)
  all := h.all.kp hk (fun _ _ _ x => x)
  want := h.want.kp hk (fun _ _ _ x => x)
  win := h.win
  len := by have := h.len; omega
  ab := h.ab
  wb := h.wb
  byl := h.byl

theorem RdI.len {w : World} {k : IntKind} {A : Option Addr} {n c : Nat} {l : List Int} (h : RdI w k (.slice A n c) l) : l.length = n ∧ n ≤ c ∧ c ≤ 9223372036854775807 := by
  obtain ⟨A', n', c', he, h1, h2, h3, _⟩ := h
  simp only [Value.slice.injEq] at he
  obtain ⟨rfl, rfl, rfl⟩ := he
  simp at h1
  exact ⟨by omega, h2, h3⟩

/-- Where the second loop stands. -/
structure L2 (w : World) (allv wantv camev : Value) (ys : List Src) (wr : World) (At N : Nat) (p : List Int) : Prop where
  kp : Kp (fun b => w.heap.size ≤ b) w wr
  all : Own wr 5 1 allv ((wby ys).map (Value.int .u8))
  want : Own wr 30 15 wantv (wcs ys)
  came : Own wr 5 1 camev (p.map (Value.int .u8))
  ac : ∀ k, allv.ownBlock = some k → camev.ownBlock ≠ some k
  cb : ∀ k, camev.ownBlock = some k → w.heap.size ≤ k
  hN : N ≤ ys.length
  hA : At ≤ (wby ys).length
  split : p ++ (wby ys).drop At = wby (ys.drop N)

/-- What came does not hold the next message whole. -/
def Part (ys : List Src) (N : Nat) (p : List Int) : Prop := ∀ y, ys[N]? = some y → p.length < y.fr.length

theorem L2.byts {w wr : World} {a b c : Value} {ys : List Src} {At N : Nat} {p : List Int} (h : L2 w a b c ys wr At N p) (hw : ∀ y ∈ ys, y.Win w.heap.size w) : Byts p := by
  intro x hx
  have h1 : x ∈ wby (ys.drop N) := by rw [← h.split]; simp [hx]
  simp only [wby, List.mem_flatMap] at h1
  obtain ⟨y, hy, hxy⟩ := h1
  exact fr_byts (hw y (List.mem_of_mem_drop hy)).mok x hxy

theorem wby_drop (ys : List Src) (N : Nat) : (wby (ys.drop N)).length ≤ (wby ys).length := by
  have h : wby ys = wby (ys.take N) ++ wby (ys.drop N) := by rw [wby, wby, wby, ← List.flatMap_append, List.take_append_drop]
  rw [h]; simp
theorem L2.plen {w wr : World} {a b c : Value} {ys : List Src} {At N : Nat} {p : List Int} (h : L2 w a b c ys wr At N p) : p.length ≤ (wby ys).length := by
  have h1 := congrArg List.length h.split
  have h2 := wby_drop ys N
  rw [List.length_append] at h1
  omega

theorem blk15 {w : World} {g : Nat} {v0 v1 v2 v3 v4 v5 v6 v7 v8 v9 v10 v11 v12 v13 v14 : Value} {t : TypeId} {fz : Nat × Nat} (h : w.heap[g]? = some (.cells #[v0, v1, v2, v3, v4, v5, v6, v7, v8, v9, v10, v11, v12, v13, v14] t fz)) : w.cell? ⟨g, 0, none⟩ = some v0 ∧ w.cell? ⟨g, 1, none⟩ = some v1 ∧ w.cell? ⟨g, 2, none⟩ = some v2 ∧ w.cell? ⟨g, 3, none⟩ = some v3 ∧ w.cell? ⟨g, 4, none⟩ = some v4 ∧ w.cell? ⟨g, 5, none⟩ = some v5 ∧ w.cell? ⟨g, 6, none⟩ = some v6 ∧ w.cell? ⟨g, 7, none⟩ = some v7 ∧ w.cell? ⟨g, 8, none⟩ = some v8 ∧ w.cell? ⟨g, 9, none⟩ = some v9 ∧ w.cell? ⟨g, 10, none⟩ = some v10 ∧ w.cell? ⟨g, 11, none⟩ = some v11 ∧ w.cell? ⟨g, 12, none⟩ = some v12 ∧ w.cell? ⟨g, 13, none⟩ = some v13 ∧ w.cell? ⟨g, 14, none⟩ = some v14 :=
  ⟨(cell_blk h 0).trans rfl, (cell_blk h 1).trans rfl, (cell_blk h 2).trans rfl, (cell_blk h 3).trans rfl, (cell_blk h 4).trans rfl, (cell_blk h 5).trans rfl, (cell_blk h 6).trans rfl, (cell_blk h 7).trans rfl, (cell_blk h 8).trans rfl, (cell_blk h 9).trans rfl, (cell_blk h 10).trans rfl, (cell_blk h 11).trans rfl, (cell_blk h 12).trans rfl, (cell_blk h 13).trans rfl, (cell_blk h 14).trans rfl⟩

theorem L2.more {w wc w8 : World} {allv wantv camev came' : Value} {ys : List Src} {At N S : Nat} {p : List Int} (h : L2 w allv wantv camev ys wc At N p) (hk : Kp (fun b => camev.ownBlock = some b) wc w8)
    (ho : Own w8 5 1 came' (p.map (Value.int .u8) ++ (((wby ys).drop At).take S).map (Value.int .u8))) (hb : ∀ k, came'.ownBlock = some k → camev.ownBlock = some k ∨ wc.heap.size ≤ k) (hS : At + S ≤ (wby ys).length) :
    L2 w allv wantv came' ys w8 (At + S) N (p ++ ((wby ys).drop At).take S) where
  kp := h.kp.trans' (hk.mono (fun b _ e => h.cb b e))
  all := h.all.kp hk (fun g hg _ e => h.ac g hg e)
  want := h.want.kp hk (fun g hg _ e => h.came.ne h.want (by decide) e hg)
  came := by simpa using ho
  ac := fun k hk1 hk2 => (hb k hk2).elim (h.ac k hk1) (fun e => by have := h.all.lt hk1; omega)
  cb := fun k hk1 => (hb k hk1).elim (h.cb k) (fun e => Nat.le_trans h.kp.size e)
  hN := h.hN
  hA := hS
  split := by rw [← List.drop_drop, List.append_assoc, List.take_append_drop]; exact h.split

theorem L2.same {w wc w8 : World} {allv wantv camev : Value} {ys : List Src} {At N : Nat} {p : List Int} (h : L2 w allv wantv camev ys wc At N p) (hk : Kp (fun _ => False) wc w8) : L2 w allv wantv camev ys w8 At N p where
  kp := h.kp.trans' (hk.mono (fun b _ e => e.elim))
  all := h.all.kp hk (fun _ _ _ x => x)
  want := h.want.kp hk (fun _ _ _ x => x)
  came := h.came.kp hk (fun _ _ _ x => x)
  ac := h.ac
  cb := h.cb
  hN := h.hN
  hA := h.hA
  split := h.split

theorem L2.cases {w wc : World} {allv wantv camev : Value} {ys : List Src} {At N : Nat} {p : List Int} (h : L2 w allv wantv camev ys wc At N p) :
    (N = ys.length ∧ p = []) ∨ ∃ y, ys[N]? = some y ∧ ((∃ rest, rest ≠ [] ∧ p ++ rest = y.fr) ∨ ∃ p', p = y.fr ++ p') := by
  by_cases hN : N = ys.length
  · left
    have := h.split
    rw [hN, List.drop_length] at this
    simp [wby] at this
    exact ⟨hN, this.1⟩
  right
  have hlt : N < ys.length := by have := h.hN; omega
  refine ⟨ys[N], List.getElem?_eq_getElem hlt, ?_⟩
  have hs := h.split
  rw [List.drop_eq_getElem_cons hlt] at hs
  simp only [wby, List.flatMap_cons] at hs
  rcases List.append_eq_append_iff.1 hs with ⟨r, h1, h2⟩ | ⟨r, h1, h2⟩
  · by_cases hr : r = []
    · right; exact ⟨[], by rw [h1, hr]; simp⟩
    · left; exact ⟨r, hr, h1.symm⟩
  · right; exact ⟨r, h1⟩

theorem wcs_get {ys : List Src} {N : Nat} {y : Src} (h : ys[N]? = some y) (j : Nat) (hj : j < 15) : (wcs ys)[N * 15 + j]? = y.wcells[j]? := by
  induction ys generalizing N with
  | nil => simp at h
  | cons z ys ih =>
    simp only [wcs, List.flatMap_cons]
    cases N with
    | zero =>
      simp at h; subst h
      rw [List.getElem?_append_left (by rw [wcells_len]; omega)]; simp
    | succ N =>
      simp at h
      rw [List.getElem?_append_right (by rw [wcells_len]; omega), wcells_len, show (N + 1) * 15 + j - 15 = N * 15 + j from by omega]
      exact ih h

theorem wby_cons {ys : List Src} {N : Nat} {y : Src} (h : ys[N]? = some y) : wby (ys.drop N) = y.fr ++ wby (ys.drop (N + 1)) := by
  obtain ⟨hlt, rfl⟩ := List.getElem?_eq_some_iff.1 h
  rw [List.drop_eq_getElem_cons hlt]
  simp only [wby, List.flatMap_cons]

theorem L2.next {w wc w8 : World} {a b : Value} {g off n c : Nat} {ys : List Src} {At N : Nat} {p p' : List Int} {y : Src} (h : L2 w a b (.slice (some ⟨g, off, none⟩) n c) ys wc At N p) (hk : Kp (fun _ => False) wc w8) (hy : ys[N]? = some y) (hp : p = y.fr ++ p') :
    L2 w a b (.slice (if c = y.fr.length then some ⟨g, off, none⟩ else some ⟨g, off + y.fr.length, none⟩) (n - y.fr.length) (c - y.fr.length)) ys w8 At (N + 1) p' := by
  have hb : ∀ k, (Value.slice (if c = y.fr.length then some ⟨g, off, none⟩ else some ⟨g, off + y.fr.length, none⟩) (n - y.fr.length) (c - y.fr.length)).ownBlock = some k → (Value.slice (some ⟨g, off, none⟩) n c).ownBlock = some k := by
    intro k; split <;> simp [Value.ownBlock]
  have hs := h.same hk
  have hl : p.length = n := by
    obtain ⟨_, n', _, he, h1, _⟩ := h.came.len
    simp only [Value.slice.injEq] at he
    obtain ⟨_, rfl, _⟩ := he
    simpa using h1
  refine ⟨hs.kp, hs.all, hs.want, ?_, fun k h1 h2 => h.ac k h1 (hb k h2), fun k h1 => h.cb k (hb k h1), ?_, h.hA, ?_⟩
  · have ht := hs.came.tail (lo := y.fr.length) (by rw [← hl, hp]; simp)
    rw [hp] at ht
    simpa using ht
  · have := (List.getElem?_eq_some_iff.1 hy).1; omega
  · have h1 := h.split
    rw [wby_cons hy, hp, List.append_assoc] at h1
    exact List.append_cancel_left h1

theorem L2.done {w wc : World} {a b c : Value} {ys : List Src} {At N : Nat} {p : List Int} (h : L2 w a b c ys wc At N p) (hAt : (wby ys).length ≤ At) (hp : Part ys N p) : N = ys.length ∧ p = [] := by
  rcases h.cases with h1 | ⟨y, hy, h2⟩
  · exact h1
  exfalso
  have h3 := h.split
  rw [List.drop_of_length_le hAt, List.append_nil, wby_cons hy] at h3
  have h4 := hp y hy
  rw [h3, List.length_append] at h4
  omega

end Go.Proofs.Ytmgfiblnbbjjdaa
