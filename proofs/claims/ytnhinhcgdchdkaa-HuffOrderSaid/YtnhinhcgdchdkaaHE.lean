/- Plain: items as trees; a row's order; pairs of the lightest. -/
import Derived.Test.YtnhinhcgdchdkaaHA
set_option linter.unusedSimpArgs false
set_option linter.unusedVariables false
namespace Go.Proofs.Ytnhinhcgdchdkaa
open Go

/-- An item: a symbol, or two items. -/
inductive Tr where
  | leaf (k : Nat)
  | node (a b : Tr)
def Tr.wt (f : Nat → Int) : Tr → Int
  | .leaf k => f k
  | .node a b => a.wt f + b.wt f
def Tr.use (k : Nat) : Tr → Int
  | .leaf j => if j = k then 1 else 0
  | .node a b => a.use k + b.use k
def Tr.uses (m : Nat) (t : Tr) : List Int := (List.range m).map fun k => t.use k
theorem Tr.uses_len (m : Nat) (t : Tr) : (t.uses m).length = m := by simp [Tr.uses]
theorem Tr.uses_get {m k : Nat} (t : Tr) (h : k < m) : (t.uses m)[k]? = some (t.use k) := by simp [Tr.uses, h]
theorem Tr.use_nn (k : Nat) (t : Tr) : 0 ≤ t.use k := by
  induction t with
  | leaf j => simp only [Tr.use]; split <;> omega
  | node a b ha hb => simp only [Tr.use]; omega

def consec {α : Type} : List α → List (α × α)
  | a :: b :: r => (a, b) :: consec r
  | _ => []
theorem consec_map {α β : Type} (g : α → β) : ∀ l : List α, consec (l.map g) = (consec l).map fun p => (g p.1, g p.2)
  | [] => by simp [consec]
  | [_] => by simp [consec]
  | a :: b :: r => by simp only [List.map_cons, consec]; rw [consec_map g r]
theorem consec_len {α : Type} : ∀ l : List α, (consec l).length = l.length / 2
  | [] => by simp [consec]
  | [_] => by simp [consec]
  | a :: b :: r => by simp only [consec, List.length_cons]; rw [consec_len r]; omega

theorem consec_get {α : Type} : ∀ (l : List α) (j : Nat) (x y : α), l[2 * j]? = some x → l[2 * j + 1]? = some y → (consec l)[j]? = some (x, y)
  | [], j, x, y, h, _ => by simp at h
  | [a], j, x, y, h, k => by simp at k
  | a :: b :: r, 0, x, y, h, k => by simp at h k; subst h k; simp [consec]
  | a :: b :: r, j + 1, x, y, h, k => by
    rw [show 2 * (j + 1) = 2 * j + 1 + 1 from by omega] at h k
    simp only [List.getElem?_cons_succ] at h k
    simp only [consec, List.getElem?_cons_succ]
    exact consec_get r j x y h k

def keyLe (a b : Int × Nat) : Bool := decide (a.1 < b.1 ∨ (a.1 = b.1 ∧ a.2 ≤ b.2))
/-- The row of items, the lightest first, of like ones the former. -/
def sortT (f : Nat → Int) (T : List Tr) : List Tr := (T.zipIdx.mergeSort fun p q => keyLe (p.1.wt f, p.2) (q.1.wt f, q.2)).map Prod.fst
def pairsT (f : Nat → Int) (T : List Tr) : List Tr := (consec (sortT f T)).map fun p => .node p.1 p.2

theorem pairsT_nil (f : Nat → Int) : pairsT f [] = [] := by simp [pairsT, sortT, consec]
theorem pairsT_take {f : Nat → Int} {T : List Tr} {j : Nat} {a b : Tr} (ha : (sortT f T)[2 * j]? = some a) (hb : (sortT f T)[2 * j + 1]? = some b) : (pairsT f T).take (j + 1) = (pairsT f T).take j ++ [.node a b] := by
  have h : (pairsT f T)[j]? = some (.node a b) := by
    unfold pairsT
    rw [List.getElem?_map, consec_get _ j a b ha hb]; rfl
  rw [List.take_add_one, h]; rfl
theorem keyLe_trans (a b c : Int × Nat) (h : keyLe a b = true) (k : keyLe b c = true) : keyLe a c = true := by simp [keyLe] at *; omega
theorem keyLe_total (a b : Int × Nat) : (keyLe a b || keyLe b a) = true := by simp [keyLe]; omega

theorem sortT_perm (f : Nat → Int) (T : List Tr) : (sortT f T).Perm T := by
  have h := (List.mergeSort_perm T.zipIdx (fun p q => keyLe (p.1.wt f, p.2) (q.1.wt f, q.2))).map Prod.fst
  rwa [List.zipIdx_map_fst] at h
theorem sortT_len (f : Nat → Int) (T : List Tr) : (sortT f T).length = T.length := (sortT_perm f T).length_eq
theorem pairsT_len (f : Nat → Int) (T : List Tr) : (pairsT f T).length = T.length / 2 := by simp [pairsT, consec_len, sortT_len]
theorem sortT_sorted (f : Nat → Int) (T : List Tr) : (sortT f T).Pairwise (fun a b => a.wt f ≤ b.wt f) := by
  have h := List.pairwise_mergeSort (le := fun (p q : Tr × Nat) => keyLe (p.1.wt f, p.2) (q.1.wt f, q.2)) (fun a b c => keyLe_trans _ _ _) (fun a b => keyLe_total _ _) T.zipIdx
  unfold sortT
  rw [List.pairwise_map]
  exact h.imp fun {a b} h => by simp [keyLe] at h; omega

/-- An item of the queue is the tree's. -/
def Is (w : World) (f : Nat → Int) (m : Nat) (x : It) (t : Tr) : Prop := x.wt = t.wt f ∧ Own w 3 1 x.us ((t.uses m).map (Value.int .i64))

theorem Is.kp {S : Nat → Prop} {w w' : World} {f : Nat → Int} {m : Nat} {x : It} {t : Tr} (h : Is w f m x t) (hk : Kp S w w') (hn : ∀ g, x.us.ownBlock = some g → g < w.heap.size → ¬ S g) : Is w' f m x t :=
  ⟨h.1, h.2.kp hk hn⟩

/-- A row of items, and their trees. -/
structure Items (w : World) (f : Nat → Int) (m : Nat) (L : List It) (T : List Tr) : Prop where
  len : L.length = T.length
  is : ∀ (i : Nat) (x : It) (t : Tr), L[i]? = some x → T[i]? = some t → Is w f m x t

theorem Items.nil (w : World) (f : Nat → Int) (m : Nat) : Items w f m [] [] := ⟨rfl, by simp⟩
theorem Items.snoc {w : World} {f : Nat → Int} {m : Nat} {L : List It} {T : List Tr} {x : It} {t : Tr} (h : Items w f m L T) (hx : Is w f m x t) : Items w f m (L ++ [x]) (T ++ [t]) := by
  refine ⟨by simp [h.len], fun i y u h1 h2 => ?_⟩
  by_cases hi : i < L.length
  · rw [List.getElem?_append_left hi] at h1
    rw [List.getElem?_append_left (by rw [← h.len]; exact hi)] at h2
    exact h.is i y u h1 h2
  · have h3 := (List.getElem?_eq_some_iff.1 h1).1
    simp at h3
    have e : i = L.length := by omega
    subst e
    rw [List.getElem?_append_right (by omega)] at h1
    rw [List.getElem?_append_right (by rw [h.len]; omega), h.len] at h2
    simp at h1 h2
    subst h1 h2
    exact hx
theorem Items.append {w : World} {f : Nat → Int} {m : Nat} {L L' : List It} {T T' : List Tr} (h : Items w f m L T) (k : Items w f m L' T') : Items w f m (L ++ L') (T ++ T') := by
  refine ⟨by simp [h.len, k.len], fun i y u h1 h2 => ?_⟩
  by_cases hi : i < L.length
  · rw [List.getElem?_append_left hi] at h1
    rw [List.getElem?_append_left (by rw [← h.len]; exact hi)] at h2
    exact h.is i y u h1 h2
  · rw [List.getElem?_append_right (by omega)] at h1
    rw [List.getElem?_append_right (by rw [← h.len]; omega), ← h.len] at h2
    exact k.is _ y u h1 h2
theorem Items.kp {S : Nat → Prop} {w w' : World} {f : Nat → Int} {m : Nat} {L : List It} {T : List Tr} (h : Items w f m L T) (hk : Kp S w w') (hn : ∀ x ∈ L, ∀ g, x.us.ownBlock = some g → g < w.heap.size → ¬ S g) : Items w' f m L T :=
  ⟨h.len, fun i x t h1 h2 => (h.is i x t h1 h2).kp hk (hn x (List.mem_of_getElem? h1))⟩

/-- Where an item's uses lie, nothing else of the queue lies. -/
theorem Items.apart {w : World} {f : Nat → Int} {m : Nat} {L : List It} {T : List Tr} (h : Items w f m L T) {e : TypeId} {size : Nat} {v : Value} {xs : List Value} (ho : Own w e size v xs) (he : e ≠ 3) {g : Nat} (hg : v.ownBlock = some g) :
    ∀ x ∈ L, ∀ k, x.us.ownBlock = some k → k ≠ g := by
  intro x hx k hk e'
  obtain ⟨i, hi⟩ := List.getElem?_of_mem hx
  have hl := (List.getElem?_eq_some_iff.1 hi).1
  have h2 := h.is i x (T[i]'(by rw [← h.len]; exact hl)) hi (List.getElem?_eq_getElem _)
  exact ho.ne h2.2 he hg (by rw [hk, e'])

/-- In order: the items of the queue, and their trees. -/
theorem sort_both {w : World} {f : Nat → Int} {m : Nat} {L : List It} {T : List Tr} (h : Items w f m L T) (hno : ∀ (i : Nat) (x : It), L[i]? = some x → x.no = i) :
    Items w f m (sortIt L) (sortT f T) := by
  let Z := L.zip T
  have hlen := h.len
  have e1 : Z.map Prod.fst = L := List.map_fst_zip (by omega)
  have e2 : Z.map (fun p => (p.2, p.1.no.toNat)) = T.zipIdx := by
    apply List.ext_getElem?
    intro i
    simp only [List.getElem?_map, List.getElem?_zipIdx, Z]
    by_cases hi : i < L.length
    · have hiT : i < T.length := by omega
      have hz : (L.zip T)[i]? = some (L[i], T[i]) := by
        rw [List.getElem?_eq_getElem (by simp; omega)]; simp
      rw [hz, List.getElem?_eq_getElem hiT]
      have := hno i L[i] (List.getElem?_eq_getElem hi)
      simp [this]
    · rw [List.getElem?_eq_none (by simp; omega), List.getElem?_eq_none (by omega)]; rfl
  have hz : ∀ p ∈ Z, Is w f m p.1 p.2 ∧ 0 ≤ p.1.no := by
    intro p hp
    obtain ⟨i, hi⟩ := List.getElem?_of_mem hp
    obtain ⟨h1, h2⟩ := List.getElem?_zip_eq_some.1 hi
    exact ⟨h.is i _ _ h1 h2, by rw [hno i _ h1]; omega⟩
  let S := Z.mergeSort fun p q => decide (It.le p.1 q.1)
  have s1 : S.map Prod.fst = sortIt L := by
    rw [sortIt, ← e1]
    exact List.map_mergeSort fun _ _ _ _ => rfl
  have s2 : S.map Prod.snd = sortT f T := by
    rw [sortT, ← e2]
    have hm : S.map (fun p => (p.2, p.1.no.toNat)) = (Z.map fun p => (p.2, p.1.no.toNat)).mergeSort fun p q => keyLe (p.1.wt f, p.2) (q.1.wt f, q.2) := by
      refine List.map_mergeSort fun a ha b hb => ?_
      obtain ⟨⟨ka, _⟩, na⟩ := hz a ha
      obtain ⟨⟨kb, _⟩, nb⟩ := hz b hb
      unfold keyLe
      rw [← ka, ← kb]
      refine decide_eq_decide.2 ?_
      rw [It.le_def]
      simp only
      omega
    rw [← hm, List.map_map]; rfl
  refine ⟨by rw [← s1, ← s2]; simp, fun i x t h1 h2 => ?_⟩
  rw [← s1, List.getElem?_map, Option.map_eq_some_iff] at h1
  rw [← s2, List.getElem?_map, Option.map_eq_some_iff] at h2
  obtain ⟨p, hp, rfl⟩ := h1
  obtain ⟨q, hq, rfl⟩ := h2
  rw [hp] at hq
  simp only [Option.some.injEq] at hq
  subst hq
  exact (hz p ((List.mergeSort_perm _ _).subset (List.mem_of_getElem? hp))).1

/-- Each item numbered by its place. -/
def numbered (L : List It) : List It := L.zipIdx.map fun p => { p.1 with no := p.2 }
theorem numbered_len (L : List It) : (numbered L).length = L.length := by simp [numbered]
theorem numbered_get (L : List It) (i : Nat) : (numbered L)[i]? = (L[i]?).map fun x => { x with no := i } := by simp [numbered]; cases L[i]? <;> simp
theorem numbered_no {L : List It} {i : Nat} {x : It} (h : (numbered L)[i]? = some x) : x.no = i := by
  rw [numbered_get, Option.map_eq_some_iff] at h
  obtain ⟨y, _, rfl⟩ := h
  rfl
theorem numbered_items {w : World} {f : Nat → Int} {m : Nat} {L : List It} {T : List Tr} (h : Items w f m L T) : Items w f m (numbered L) T := by
  refine ⟨by rw [numbered_len, h.len], fun i x t h1 h2 => ?_⟩
  rw [numbered_get, Option.map_eq_some_iff] at h1
  obtain ⟨y, hy, rfl⟩ := h1
  exact h.is i y t hy h2
theorem numbered_nodup (L : List It) : ((numbered L).map It.no).Nodup := by
  have e : (numbered L).map It.no = (List.range L.length).map (fun i : Nat => (i : Int)) := by
    apply List.ext_getElem?
    intro i
    rw [List.getElem?_map, numbered_get, List.getElem?_map]
    by_cases hi : i < L.length
    · rw [List.getElem?_eq_getElem hi, List.getElem?_eq_getElem (by simpa using hi)]; simp
    · rw [List.getElem?_eq_none (by omega), List.getElem?_eq_none (by simp; omega)]; rfl
  rw [e]
  exact List.Pairwise.map _ (fun a b h e => h (by omega)) List.nodup_range
end Go.Proofs.Ytnhinhcgdchdkaa
