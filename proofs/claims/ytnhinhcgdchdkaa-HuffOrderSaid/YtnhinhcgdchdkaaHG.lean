/- pairs: of a row that is not empty. -/
import Derived.Test.YtnhinhcgdchdkaaHF
set_option linter.unusedSimpArgs false
set_option linter.unusedVariables false
namespace Go.Proofs.Ytnhinhcgdchdkaa
open Go Go.Proofs Go.RowKit

/-- The first k items numbered. -/
def NumTo (L l : List It) (k : Nat) : Prop := l.length = L.length ∧ ∀ i, l[i]? = if i < k then (numbered L)[i]? else L[i]?
theorem NumTo.start (L : List It) : NumTo L L 0 := ⟨rfl, fun i => by simp⟩
theorem NumTo.step {L l : List It} {k : Nat} {x : It} (h : NumTo L l k) (hx : l[k]? = some x) : NumTo L (l.set k { x with no := k }) (k + 1) := by
  refine ⟨by simp [h.1], fun i => ?_⟩
  have hk : k < l.length := (List.getElem?_eq_some_iff.1 hx).1
  have hL : L[k]? = some x := by have := h.2 k; rw [if_neg (by omega), hx] at this; exact this.symm
  rw [List.getElem?_set]
  by_cases e : k = i
  · subst e
    rw [if_pos rfl, if_pos hk, if_pos (by omega), numbered_get, hL]; rfl
  · rw [if_neg e, h.2 i]
    by_cases h1 : i < k
    · rw [if_pos h1, if_pos (by omega)]
    · rw [if_neg h1, if_neg (by omega)]
theorem NumTo.done {L l : List It} {k : Nat} (h : NumTo L l k) (hk : L.length ≤ k) : l = numbered L := by
  apply List.ext_getElem?
  intro i
  rw [h.2 i]
  by_cases e : i < k
  · rw [if_pos e]
  · rw [if_neg e, List.getElem?_eq_none (by omega), List.getElem?_eq_none (by rw [numbered_len]; omega)]

theorem Own.storeNo {w : World} {g off n c i : Nat} {l : List It} {x : It} (h : Own w 85 3 (.slice (some ⟨g, off, none⟩) n c) (ics l)) (hx : l[i]? = some x) (z : Int) :
    Own (w.setCell ⟨g, off + i * 3 + 1, none⟩ (.int .i64 z)) 85 3 (.slice (some ⟨g, off, none⟩) n c) (ics (l.set i { x with no := z })) := by
  obtain ⟨hi, rfl⟩ := List.getElem?_eq_some_iff.1 hx
  have h1 := h.store (i * 3 + 1) (.int .i64 z)
  have e : (ics l).set (i * 3 + 1) (.int .i64 z) = ics (l.set i { l[i] with no := z }) := by
    rw [← ics_set (x := { l[i] with no := z }) hi]
    have a0 := ics_get (l := l) (List.getElem?_eq_getElem hi) 0 (by omega)
    have a2 := ics_get (l := l) (List.getElem?_eq_getElem hi) 2 (by omega)
    rw [Nat.add_zero] at a0
    apply List.ext_getElem?
    intro j
    simp only [List.getElem?_set, List.length_set]
    by_cases e2 : i * 3 + 2 = j
    · subst e2
      rw [if_neg (by omega), if_pos rfl, a2]
      have := (List.getElem?_eq_some_iff.1 a2).1
      rw [if_pos this]; rfl
    · rw [if_neg e2]
      by_cases e1 : i * 3 + 1 = j
      · rw [if_pos e1, if_pos e1]
      · rw [if_neg e1, if_neg e1]
        by_cases e0 : i * 3 = j
        · subst e0
          rw [if_pos rfl, a0]
          have := (List.getElem?_eq_some_iff.1 a0).1
          rw [if_pos this]; rfl
        · rw [if_neg e0]
  rw [e, ← Nat.add_assoc] at h1
  exact h1

theorem Own.off {w : World} {e e' : TypeId} {size g : Nat} {v : Value} {xs : List Value} {cs : Array Value} {fz : Nat × Nat} (h : Own w e size v xs) (hg : w.heap[g]? = some (.cells cs e' fz)) (he : e ≠ e') : ∀ k, v.ownBlock = some k → k ≠ g := by
  rintro k hk rfl
  rcases h with ⟨rfl, _⟩ | ⟨g', off, n, cap, cur, rfl, h0, _⟩
  · simp [Value.ownBlock] at hk
  · simp only [Value.ownBlock, Option.some.injEq] at hk
    subst hk
    rw [hg] at h0
    simp only [Option.some.injEq, Obj.cells.injEq] at h0
    exact he h0.2.1.symm

/-- The first k uses added. -/
def addTo (m : Nat) (a b : Tr) (k : Nat) : List Int := (List.range m).map fun i => if i < k then a.use i + b.use i else a.use i
theorem addTo_zero (m : Nat) (a b : Tr) : addTo m a b 0 = a.uses m := by simp [addTo, Tr.uses]
theorem addTo_all (m : Nat) (a b : Tr) : addTo m a b m = (Tr.node a b).uses m := by
  unfold addTo Tr.uses
  apply List.map_congr_left
  intro i hi
  rw [if_pos (by simpa using hi)]; rfl
theorem addTo_get {m k i : Nat} {a b : Tr} (h : i < m) : (addTo m a b k)[i]? = some (if i < k then a.use i + b.use i else a.use i) := by simp [addTo, h]
theorem addTo_step {m k : Nat} {a b : Tr} (h : k < m) : ((addTo m a b k).map (Value.int .i64)).set k (.int .i64 (a.use k + b.use k)) = (addTo m a b (k + 1)).map (Value.int .i64) := by
  apply List.ext_getElem?
  intro i
  rw [List.getElem?_set, List.getElem?_map, List.getElem?_map]
  by_cases hi : i < m
  · rw [addTo_get hi, addTo_get hi]
    by_cases e : k = i
    · subst e; simp [addTo, h]
    · rw [if_neg e]
      by_cases e2 : i < k
      · rw [if_pos e2, if_pos (by omega)]
      · rw [if_neg e2, if_neg (by omega)]
  · have h1 : ∀ q, (addTo m a b q)[i]? = none := fun q => List.getElem?_eq_none (by simp [addTo]; omega)
    rw [h1, h1, if_neg (by omega)]

/-- Where the loop of pairs stands: j pairs are made; d items are taken out of the queue. -/
structure PL (w : World) (f : Nat → Int) (m : Nat) (L : List It) (T : List Tr) (b g off n c : Nat) (Lo : List It) (A5 : Option Addr) (n5 c5 j d : Nat) (W : World) : Prop where
  le : 2 * d ≤ n
  hp : Hp W b g off (n - 2 * d) c ((sortIt (numbered L)).drop (2 * d))
  items : Items W f m (sortIt (numbered L)) (sortT f T)
  own : Own W 85 3 (.slice A5 n5 c5) (ics Lo)
  oi : Items W f m Lo ((pairsT f T).take j)
  nn : n5 = j
  len : L.length = n
  ob : ∀ k, (Value.slice A5 n5 c5).ownBlock = some k → w.heap.size ≤ k ∧ k ≠ g
  kp : Kp (fun _ => False) w W
  gb : w.heap.size ≤ g ∧ w.heap.size ≤ b

section
variable {w : World} {f : Nat → Int} {m : Nat} {L Lo : List It} {T : List Tr} {b g off n c : Nat} {A5 : Option Addr} {n5 c5 j d : Nat} {W W' : World}

theorem PL.row (h : PL w f m L T b g off n c Lo A5 n5 c5 j d W) : (∃ cs, W.heap[g]? = some (.cells cs 85 (0, 0))) ∧ ∃ cs, W.heap[b]? = some (.cells cs 87 (0, 0)) := by
  obtain ⟨l, hq, _⟩ := h.hp
  obtain ⟨cur, h0, _⟩ := hq.own.open
  exact ⟨⟨cur, h0⟩, ⟨_, hq.blk⟩⟩
theorem PL.taken (h : PL w f m L T b g off n c Lo A5 n5 c5 j d W) (hk : Kp (fun k => k = g ∨ k = b) W W') (hd : 2 * (d + 1) ≤ n) (hp : Hp W' b g off (n - 2 * (d + 1)) c ((sortIt (numbered L)).drop (2 * (d + 1)))) : PL w f m L T b g off n c Lo A5 n5 c5 j (d + 1) W' := by
  obtain ⟨⟨cg, hg⟩, ⟨cb, hb⟩⟩ := h.row
  refine ⟨hd, hp, h.items.kp hk ?_, h.own.kp hk ?_, h.oi.kp hk ?_, h.nn, h.len, h.ob, h.kp.trans hk (fun k hk' e => by have := h.gb; omega), h.gb⟩
  · rintro x hx k hk' _ (e | e)
    · obtain ⟨i, hi⟩ := List.getElem?_of_mem hx
      exact (h.items.is i x _ hi (List.getElem?_eq_getElem (by rw [← h.items.len]; exact (List.getElem?_eq_some_iff.1 hi).1))).2.off hg (by decide) k hk' e
    · obtain ⟨i, hi⟩ := List.getElem?_of_mem hx
      exact (h.items.is i x _ hi (List.getElem?_eq_getElem (by rw [← h.items.len]; exact (List.getElem?_eq_some_iff.1 hi).1))).2.off hb (by decide) k hk' e
  · rintro k hk' _ (e | e)
    · exact (h.ob k hk').2 e
    · exact h.own.off hb (by decide) k hk' e
  · rintro x hx k hk' _ (e | e)
    · obtain ⟨i, hi⟩ := List.getElem?_of_mem hx
      exact (h.oi.is i x _ hi (List.getElem?_eq_getElem (by rw [← h.oi.len]; exact (List.getElem?_eq_some_iff.1 hi).1))).2.off hg (by decide) k hk' e
    · obtain ⟨i, hi⟩ := List.getElem?_of_mem hx
      exact (h.oi.is i x _ hi (List.getElem?_eq_getElem (by rw [← h.oi.len]; exact (List.getElem?_eq_some_iff.1 hi).1))).2.off hb (by decide) k hk' e
theorem PL.kpF (h : PL w f m L T b g off n c Lo A5 n5 c5 j d W) (hk : Kp (fun _ => False) W W') : PL w f m L T b g off n c Lo A5 n5 c5 j d W' :=
  ⟨h.le, h.hp.kpS hk (fun x => x) (fun x => x), h.items.kp hk (fun _ _ _ _ _ x => x), h.own.kpF hk, h.oi.kp hk (fun _ _ _ _ _ x => x), h.nn, h.len, h.ob, h.kp.trans' hk, h.gb⟩
theorem PL.more (h : PL w f m L T b g off n c Lo A5 n5 c5 j (j + 1) W) {A' : Option Addr} {n' c' : Nat} {x8 : It} {tx ty : Tr} (hx : Is W f m x8 (.node tx ty)) (htx : (sortT f T)[2 * j]? = some tx) (hty : (sortT f T)[2 * j + 1]? = some ty)
    (ho : Own W' 85 3 (.slice A' n' c') (ics Lo ++ x8.cells)) (hk : Kp (fun k => (Value.slice A5 n5 c5).ownBlock = some k) W W') (hb' : ∀ k, (Value.slice A' n' c').ownBlock = some k → (Value.slice A5 n5 c5).ownBlock = some k ∨ W.heap.size ≤ k) :
    PL w f m L T b g off n c (Lo ++ [x8]) A' n' c' (j + 1) (j + 1) W' := by
  obtain ⟨⟨cg, hg⟩, ⟨cb, hb⟩⟩ := h.row
  have ho' : Own W' 85 3 (.slice A' n' c') (ics (Lo ++ [x8])) := by rw [ics_app]; simpa [ics] using ho
  have hlo : Lo.length = j := by
    have h1 := (items_n h.own.rd).1
    rw [h1]; exact h.nn
  have ha : ∀ (LL : List It) (TT : List Tr), Items W f m LL TT → ∀ x ∈ LL, ∀ k, x.us.ownBlock = some k → k < W.heap.size → ¬ (Value.slice A5 n5 c5).ownBlock = some k := by
    intro LL TT hi x hx k hk1 _ hk2
    obtain ⟨i, hi'⟩ := List.getElem?_of_mem hx
    exact h.own.ne (hi.is i x _ hi' (List.getElem?_eq_getElem (by rw [← hi.len]; exact (List.getElem?_eq_some_iff.1 hi').1))).2 (by decide) hk2 hk1
  refine ⟨h.le, h.hp.kpS hk (fun e => h.own.off hb (by decide) b e rfl) (fun e => (h.ob g e).2 rfl), h.items.kp hk (ha _ _ h.items), ho', ?_, ?_, h.len, ?_, h.kp.trans hk (fun k hk1 e => by have := (h.ob k e).1; omega), h.gb⟩
  · rw [pairsT_take htx hty]
    exact (h.oi.kp hk (ha _ _ h.oi)).snoc (hx.kp hk (fun k hk1 _ hk2 => h.own.ne hx.2 (by decide) hk2 hk1))
  · have h1 := (items_n ho'.rd).1
    simp at h1; omega
  · intro k hk1
    rcases hb' k hk1 with e | e
    · exact h.ob k e
    · have h1 := h.kp.size
      have h2 := (Array.getElem?_eq_some_iff.1 hg).1
      exact ⟨by omega, by omega⟩

theorem PL.cell (h : PL w f m L T b g off n c Lo A5 n5 c5 j j W) :
    W.cell? ⟨b, 0, none⟩ = some (.slice (some ⟨g, off, none⟩) (n - 2 * j) c) := by
  obtain ⟨l, hq, _⟩ := h.hp
  exact hq.cell
theorem PL.mlen (h : PL w f m L T b g off n c Lo A5 n5 c5 j j W) : (sortIt (numbered L)).length = n := by
  rw [(sortIt_perm _).length_eq, numbered_len, h.len]
theorem PL.two {r : Nat} (h : PL w f m L T b g off n c Lo A5 n5 c5 j j W) (hr : n - 2 * j = r + 2) :
    ∃ x y tx ty, (sortIt (numbered L))[2 * j]? = some x ∧ (sortIt (numbered L))[2 * j + 1]? = some y ∧ (sortT f T)[2 * j]? = some tx ∧ (sortT f T)[2 * j + 1]? = some ty ∧
      (sortIt (numbered L)).drop (2 * j) = x :: y :: (sortIt (numbered L)).drop (2 * (j + 1)) ∧ Srt ((sortIt (numbered L)).drop (2 * j)) ∧ Is W f m x tx ∧ Is W f m y ty := by
  have hl := h.mlen
  have hT : (sortT f T).length = n := by rw [← h.items.len]; exact hl
  have e1 : (sortIt (numbered L))[2 * j]? = some ((sortIt (numbered L))[2 * j]'(by omega)) := List.getElem?_eq_getElem _
  have e2 : (sortIt (numbered L))[2 * j + 1]? = some ((sortIt (numbered L))[2 * j + 1]'(by omega)) := List.getElem?_eq_getElem _
  have e3 : (sortT f T)[2 * j]? = some ((sortT f T)[2 * j]'(by omega)) := List.getElem?_eq_getElem _
  have e4 : (sortT f T)[2 * j + 1]? = some ((sortT f T)[2 * j + 1]'(by omega)) := List.getElem?_eq_getElem _
  refine ⟨_, _, _, _, e1, e2, e3, e4, ?_, ?_, h.items.is _ _ _ e1 e3, h.items.is _ _ _ e2 e4⟩
  · rw [List.drop_eq_getElem_cons (by omega), List.drop_eq_getElem_cons (by omega), show 2 * (j + 1) = 2 * j + 1 + 1 from by omega]
  · have hs := sortIt_srt (numbered_nodup L)
    exact ⟨hs.le.sublist (List.drop_sublist _ _), (hs.no).sublist ((List.drop_sublist _ _).map _)⟩
end

set_option maxRecDepth 100000 in
set_option maxHeartbeats 2000000 in
theorem pairs_some (f : Nat → Int) (m : Nat) (w : World) (a : Addr) (n c : Nat) (L : List It) (T : List Tr) (ho : Own w 85 3 (.slice (some a) n c) (ics L)) (hi : Items w f m L T) (hn : n ≤ 1000) (h0 : 0 < n)
    (hw : ∀ t ∈ T, 0 ≤ t.wt f ∧ t.wt f ≤ 1152921504606846976) (hu : ∀ t ∈ T, ∀ k, k < m → t.use k ≤ 1099511627776) (hm : 0 < m ∧ m ≤ 320) :
    Calls Try.prog 40 #[.slice (some a) n c] w (PairsPost f m T w) := by
  have hLn := (items_n ho.rd).1
  have HO := Lib.hid ho
  have HI := Lib.hid hi
  have HW := Lib.hid hw
  have HU := Lib.hid hu
  have HLN := Lib.hid hLn
  clear ho hi hw hu hLn
  go_enter Try.func40, Try.ntmps40
  go_wp2_with fail
  refine (clone_items w a n c L HO.out.rd (by have := HLN.out; omega) (by have := HLN.out; omega)).mono ?_
  rintro e w1 ⟨g, off, n', c', rfl, ho1, hk1, hg1⟩
  have hn' : n' = n := by have := (items_n ho1.rd).1; have := HLN.out; omega
  subst hn'
  have HO1 := Lib.hid ho1
  have HK1 := Lib.hid hk1
  clear ho1 hk1
  go_wp2_with fail
  have ho1 := HO1.out
  have hk1 := HK1.out
  have hb1 := alloc_new w1 (.cells #[.slice (some ⟨g, off, none⟩) n' c'] 87)
  have hq1 : Qu (w1.alloc (.cells #[.slice (some ⟨g, off, none⟩) n' c'] 87)) w1.heap.size g off n' c' L := ⟨hb1, ho1.kpF ((Kp.refl _ _).alloc _)⟩
  have hk2 := hk1.alloc (.cells #[.slice (some ⟨g, off, none⟩) n' c'] 87)
  generalize hw2 : w1.alloc (.cells #[.slice (some ⟨g, off, none⟩) n' c'] 87) = w2 at *
  have hbs : w.heap.size ≤ w1.heap.size := hk1.size
  generalize w1.heap.size = b at *
  have hc2 := hq1.cell
  have HQ1 := Lib.hid hq1
  have HK2 := Lib.hid hk2
  clear ho1 hk1 hb1 hq1 hk2 hw2 HO1 HK1
  go_loopw [4, 15] (fun _ i W => ∃ (k : Nat) (l : List It), i = .int .i64 k ∧ k ≤ n' ∧ Qu W b g off n' c' l ∧ NumTo L l k ∧ Kp (fun _ => False) w W) (fun _ i _ => n' - (intOf i).toNat)
  case atStart => exact ⟨0, L, rfl, by omega, HQ1.out, .start L, HK2.out⟩
  case round =>
    obtain ⟨k, l, rfl, hk, hq, hnum, hkk⟩ := hrel
    have hll := (items_n hq.own.rd).1
    have c0 := hq.cell
    have HQ := Lib.hid hq
    have HNUM := Lib.hid hnum
    have HKK := Lib.hid hkk
    have HLL := Lib.hid hll
    clear hq hnum hkk hll
    by_cases hlt : k < n'
    · obtain ⟨x, hx⟩ : ∃ x, l[k]? = some x := ⟨l[k]'(by have := HLL.out; omega), List.getElem?_eq_getElem _⟩
      obtain ⟨a0, a1, a2⟩ := item_at HQ.out.own.rd hx
      have hnc : n' ≤ c' ∧ c' ≤ 9223372036854775807 := (items_n HQ.out.own.rd).2
      have f1 : ∀ o, wr.frozen? ⟨g, o, none⟩ = false := fun o => HQ.out.own.frozenAt o
      have hgb := HQ.out.ne
      have HX := Lib.hid hx
      clear hx
      go_wp2_with fail
      go_roundw
      case rel =>
        refine ⟨k + 1, l.set k { x with no := k }, by go_num, by omega, ⟨?_, HQ.out.own.storeNo HX.out k⟩, HNUM.out.step HX.out, HKK.out.trans ((Kp.refl (fun b => b = g) wr).setCell ⟨g, off + k * 3 + 1, none⟩ _ (fun _ => rfl)) (fun b hb e => by have e' : b = g := e; omega)⟩
        exact setCell_oth HQ.out.blk _ _ (fun e => hgb e.symm)
      case measure => simp [intOf]; omega
    · have hnum2 := HNUM.out.done (by have := HLN.out; omega)
      subst hnum2
      go_wp2_with fail
      refine (Init_any wr b g off n' c' (numbered L) HQ.out (by omega)).mono ?_
      rintro e w3 ⟨l3, rfl, hq3, hp3, hh3, hk3⟩
      have hkp3 : Kp (fun _ => False) w w3 := HKK.out.trans hk3 (fun b hb e => by have e' : b = g := e; omega)
      have HP0 : Hid (PL w f m L T b g off n' c' [] none 0 0 0 0 w3) := Lib.hid {
        le := by omega
        hp := ⟨l3, hq3, hp3.trans (sortIt_perm _).symm, hh3⟩
        items := sort_both (numbered_items (HI.out.kp hkp3 (fun _ _ _ _ _ x => x))) (fun _ _ h => numbered_no h)
        own := Own.nil _ _ _
        oi := by simpa using Items.nil _ _ _
        nn := rfl
        len := HLN.out
        ob := by simp [Value.ownBlock]
        kp := hkp3
        gb := ⟨hg1, hbs⟩ }
      clear hq3 hp3 hh3 hk3 hkp3
      clear c0 hc2
      go_wp2_with fail
      go_loopw [5] (fun v W => ∃ (j : Nat) (Lo : List It) (A5 : Option Addr) (n5 c5 : Nat), v = .slice A5 n5 c5 ∧ PL w f m L T b g off n' c' Lo A5 n5 c5 j j W) (fun v _ => match v with | .slice _ q _ => n' - q | _ => 0)
      case atStart => exact ⟨0, [], none, 0, 0, rfl, HP0.out⟩
      case round =>
        clear HP0
        obtain ⟨j, Lo, A5, n5, c5, rfl, hpl⟩ := hrel
        have hc := hpl.cell
        have hlen := hpl.mlen
        have HPL := Lib.hid hpl
        have hle := hpl.le
        clear hpl
        obtain ⟨r, hr⟩ : ∃ r, r = n' - 2 * j := ⟨_, rfl⟩
        rw [← hr] at hc
        by_cases h2 : 2 ≤ r
        · obtain ⟨r', hr'⟩ : ∃ r', r = r' + 2 := ⟨r - 2, by omega⟩
          subst hr'
          obtain ⟨x, y, tx, ty, hx, hy, htx, hty, hdr, hsr, hix, hiy⟩ := HPL.out.two hr.symm
          have hh := HPL.out.hp
          rw [← hr, hdr] at hh
          have HH := Lib.hid hh
          rw [hdr] at hsr
          have HX := Lib.hid hx
          have HY := Lib.hid hy
          have HTX := Lib.hid htx
          have HTY := Lib.hid hty
          have HSR := Lib.hid hsr
          have HIX := Lib.hid hix
          have HIY := Lib.hid hiy
          have HR := Lib.hid hr
          have HLEN := Lib.hid hlen
          clear hh hx hy htx hty hdr hsr hix hiy hr hlen
          go_wp2_with fail
          refine (Len_any wr _ (r' + 2) c').mono ?_
          rintro e w4 ⟨rfl, rfl⟩
          go_wp2_with fail
          refine (take_any wr b g off (r' + 1) c' x _ HH.out HSR.out (by have := HR.out; omega)).mono ?_
          rintro e w5 ⟨rfl, hh5, hk5⟩
          have HH5 := Lib.hid hh5
          have HK5 := Lib.hid hk5
          clear hh5 hk5 hc
          go_wp2_with fail
          refine (take_any w5 b g off r' c' y _ HH5.out HSR.out.tail (by have := HR.out; omega)).mono ?_
          rintro e w6 ⟨rfl, hh6, hk6⟩
          have hkk6 := HK5.out.trans' hk6
          obtain ⟨⟨cg, hgr⟩, ⟨cb, hbr⟩⟩ := HPL.out.row
          have hix6 := HIX.out.kp hkk6 (fun k hk _ e => e.elim (HIX.out.2.off hgr (by decide) k hk) (HIX.out.2.off hbr (by decide) k hk))
          have hiy6 := HIY.out.kp hkk6 (fun k hk _ e => e.elim (HIY.out.2.off hgr (by decide) k hk) (HIY.out.2.off hbr (by decide) k hk))
          have hpl6 := HPL.out.taken hkk6 (by have := HR.out; omega) (by rw [show n' - 2 * (j + 1) = r' from by have := HR.out; omega]; exact hh6)
          obtain ⟨xw, xn, xA, xm, xc⟩ := x
          obtain ⟨yw, yn, yA, ym, yc⟩ := y
          have hxm : m = xm := by
            obtain ⟨_, n1, _, he, h1, _⟩ := hix6.2.len
            simp only [Value.slice.injEq] at he
            obtain ⟨_, rfl, _⟩ := he
            simpa [Tr.uses_len] using h1
          have hym : m = ym := by
            obtain ⟨_, n1, _, he, h1, _⟩ := hiy6.2.len
            simp only [Value.slice.injEq] at he
            obtain ⟨_, rfl, _⟩ := he
            simpa [Tr.uses_len] using h1
          subst hxm hym
          obtain ⟨gx, ox, hgx⟩ := hix6.2.isSome hm.1
          obtain ⟨gy, oy, hgy⟩ := hiy6.2.isSome hm.1
          subst hgx hgy
          have htxT : tx ∈ T := (sortT_perm f T).subset (List.mem_of_getElem? HTX.out)
          have htyT : ty ∈ T := (sortT_perm f T).subset (List.mem_of_getElem? HTY.out)
          obtain ⟨hwx0, hwx1⟩ := HW.out tx htxT
          obtain ⟨hwy0, hwy1⟩ := HW.out ty htyT
          have hxw : xw = tx.wt f := hix6.1
          have hyw : yw = ty.wt f := hiy6.1
          have hx0 : 0 ≤ xw ∧ xw ≤ 1152921504606846976 := by omega
          have hy0 : 0 ≤ yw ∧ yw ≤ 1152921504606846976 := by omega
          have HXW := Lib.hid hxw
          have HYW := Lib.hid hyw
          have HTXT := Lib.hid htxT
          have HTYT := Lib.hid htyT
          have HIX6 := Lib.hid hix6
          have HIY6 := Lib.hid hiy6
          have HPL6 := Lib.hid hpl6
          have HRX : ∀ W, Kp (fun _ => False) w6 W → Hid (RdI W .i64 (.slice (some ⟨gx, ox, none⟩) m xc) (tx.uses m)) := fun W hW => Lib.hid (Rd.kpF hix6.2.rd hW)
          clear hxw hyw htxT htyT hix6 hiy6 hpl6 hwx0 hwx1 hwy0 hwy1 hgr hbr hkk6 hk6 hh6
          go_upto_region 11 with (fail)
          have hk7 := ((Kp.refl (fun _ => False) w6).alloc (.cells #[.int .i64 xw, .int .i64 xn, .slice (some ⟨gx, ox, none⟩) m xc] 85)).alloc (.cells #[.int .i64 yw, .int .i64 yn, .slice (some ⟨gy, oy, none⟩) m yc] 85)
          have hbx := alloc_oth (alloc_new w6 (.cells #[.int .i64 xw, .int .i64 xn, .slice (some ⟨gx, ox, none⟩) m xc] 85)) (.cells #[.int .i64 yw, .int .i64 yn, .slice (some ⟨gy, oy, none⟩) m yc] 85)
          have hby := alloc_new (w6.alloc (.cells #[.int .i64 xw, .int .i64 xn, .slice (some ⟨gx, ox, none⟩) m xc] 85)) (.cells #[.int .i64 yw, .int .i64 yn, .slice (some ⟨gy, oy, none⟩) m yc] 85)
          rw [World.size_alloc] at hby
          generalize hw7 : (w6.alloc (.cells #[.int .i64 xw, .int .i64 xn, .slice (some ⟨gx, ox, none⟩) m xc] 85)).alloc (.cells #[.int .i64 yw, .int .i64 yn, .slice (some ⟨gy, oy, none⟩) m yc] 85) = w7 at *
          generalize w6.heap.size = bx at *
          have cx0 : w7.cell? ⟨bx, 0, none⟩ = some (.int .i64 xw) := (cell_blk hbx 0).trans rfl
          have cx2 : w7.cell? ⟨bx, 2, none⟩ = some (.slice (some ⟨gx, ox, none⟩) m xc) := (cell_blk hbx 2).trans rfl
          have cy0 : w7.cell? ⟨bx + 1, 0, none⟩ = some (.int .i64 yw) := (cell_blk hby 0).trans rfl
          have HK7 := Lib.hid hk7
          have HBX := Lib.hid hbx
          have HBY := Lib.hid hby
          clear hk7 hbx hby hw7
          go_cut [8] from 31 to 60 (fun p wc => ∃ (b8 g8 o8 n8 c8 : Nat), p = .pointer (some ⟨b8, 0, none⟩) ∧ wc.heap[b8]? = some (.cells #[.int .i64 (xw + yw), .int .i64 0, .slice (some ⟨g8, o8, none⟩) n8 c8] 85 (0, 0)) ∧
              Own wc 3 1 (.slice (some ⟨g8, o8, none⟩) n8 c8) ((tx.uses m).map (Value.int .i64)) ∧ Kp (fun _ => False) w7 wc ∧ w7.heap.size ≤ g8)
          case first =>
            have hsum : IntKind.i64.wrap (xw + yw) = xw + yw := IntWalk.i64_in _ (by omega)
            go_region_held3 (fun w' => w'.cell? ⟨bx, 0, none⟩ = some (.int .i64 xw) ∧ w'.cell? ⟨bx, 2, none⟩ = some (.slice (some ⟨gx, ox, none⟩) m xc) ∧ w'.cell? ⟨bx + 1, 0, none⟩ = some (.int .i64 yw))
              (first | go_keep | (refine ⟨?_, ?_, ?_⟩ <;> exact Kp.cell (S := fun _ => False) (w := w7) (by repeat (first | exact Kp.refl _ _ | refine Kp.drew ?_ | refine Kp.alloc ?_ _ | refine Kp.setCell ?_ _ _ (fun h => absurd h (Nat.lt_irrefl _)) | refine Kp.trans' ?_ hk8)) (by assumption) (fun x => x)))
              (first | (go_at_call 81; refine (clone_ints _ ⟨gx, ox, none⟩ m xc (tx.uses m) (HRX _ (HK7.out.trans' (by repeat (first | exact Kp.refl _ _ | refine Kp.drew ?_ | refine Kp.alloc ?_ _)))).out (by rw [Tr.uses_len]; omega) (by rw [Tr.uses_len]; omega)).mono ?_; rintro e w8 ⟨g8, o8, n8, c8, rfl, ho8, hk8, hg8⟩; try (have nb0 : w8.cell? ⟨w7.heap.size, 0, none⟩ = some (.int .i64 0) := hk8.cell (show (w7.alloc (.cells #[.int .i64 0, .int .i64 0, .slice none 0 0] 85)).cell? _ = _ from (cell_blk (alloc_new w7 _) 0).trans rfl) (fun x => x); have nb1 : w8.cell? ⟨w7.heap.size, 1, none⟩ = some (.int .i64 0) := hk8.cell (show (w7.alloc (.cells #[.int .i64 0, .int .i64 0, .slice none 0 0] 85)).cell? _ = _ from (cell_blk (alloc_new w7 _) 1).trans rfl) (fun x => x); have nb2 : w8.cell? ⟨w7.heap.size, 2, none⟩ = some (.slice none 0 0) := hk8.cell (show (w7.alloc (.cells #[.int .i64 0, .int .i64 0, .slice none 0 0] 85)).cell? _ = _ from (cell_blk (alloc_new w7 _) 2).trans rfl) (fun x => x); have nbf : ∀ o, w8.frozen? ⟨w7.heap.size, o, none⟩ = false := fun o => frozen_blk (hk8.heap (show (w7.alloc (.cells #[.int .i64 0, .int .i64 0, .slice none 0 0] 85)).heap[w7.heap.size]? = _ from alloc_new w7 _) (fun x => x)) o)))
            all_goals (go_wp2_with fail; go_meet; first
              | (have h7 := hk8.size
                 refine ⟨w8.heap.size, g8, o8, n8, c8, rfl, alloc_new w8 _, ho8.kpF ((Kp.refl _ _).alloc _), ?_, by simp at hg8; omega⟩
                 repeat (first | exact Kp.refl _ _ | refine Kp.drew ?_ | refine Kp.alloc ?_ _ | refine Kp.trans' ?_ hk8))
              | (have hb0 := hk8.heap (show (w7.alloc (.cells #[.int .i64 0, .int .i64 0, .slice none 0 0] 85)).heap[w7.heap.size]? = _ from alloc_new w7 _) (fun x => x)
                 have hgn : w7.heap.size + 1 ≤ g8 := by simpa using hg8
                 have hne : ∀ k, (Value.slice (some ⟨g8, o8, none⟩) n8 c8).ownBlock = some k → k ≠ w7.heap.size := fun k hk => by
                   have : g8 = k := Option.some.inj hk
                   omega
                 refine ⟨w7.heap.size, g8, o8, n8, c8, rfl, setCell_blk (setCell_blk (setCell_blk hb0 0 _) 1 _) 2 _, ((ho8.setCell ⟨w7.heap.size, 0, none⟩ _ hne).setCell ⟨w7.heap.size, 1, none⟩ _ hne).setCell ⟨w7.heap.size, 2, none⟩ _ hne, ?_, by omega⟩
                 repeat (first | exact Kp.refl _ _ | refine Kp.drew ?_ | refine Kp.alloc ?_ _ | refine Kp.setCell ?_ _ _ (fun h => absurd h (Nat.lt_irrefl _)) | refine Kp.trans' ?_ hk8)))
          case rest =>
            obtain ⟨b8, g8, o8, n8, c8, rfl, hb8, ho8, hkc, hg8⟩ := hcut
            have hn8 : m = n8 := by
              obtain ⟨_, n1, _, he, h1, _⟩ := ho8.len
              simp only [Value.slice.injEq] at he
              obtain ⟨_, rfl, _⟩ := he
              simpa [Tr.uses_len] using h1
            subst hn8
            have hbyc := hkc.heap HBY.out (fun x => x)
            have cy2 : wc.cell? ⟨bx + 1, 2, none⟩ = some (.slice (some ⟨gy, oy, none⟩) m yc) := (cell_blk hbyc 2).trans rfl
            have hk6c := HK7.out.trans' hkc
            have hbg : b8 ≠ g8 := fun e => ho8.off (cs := #[.int .i64 (xw + yw), .int .i64 0, .slice (some ⟨g8, o8, none⟩) m c8]) hb8 (by decide) g8 rfl e.symm
            have hyg : gy ≠ g8 := by
              have h1 : gy < w6.heap.size := HIY6.out.2.lt rfl
              have h2 := HK7.out.size
              omega
            have hmc : m ≤ c8 := by
              obtain ⟨_, n1, _, he, h1, h2, _⟩ := ho8.len
              simp only [Value.slice.injEq] at he
              obtain ⟨_, rfl, rfl⟩ := he
              exact h2
            have HB8 := Lib.hid hb8
            have HO8 := Lib.hid ho8
            have HK6C := Lib.hid hk6c
            have HG8 : Hid (w6.heap.size ≤ g8) := Lib.hid (by have := HK7.out.size; omega)
            have HYC := Lib.hid ((HIY6.out.2.kpF hk6c))
            clear hb8 ho8 hkc hbyc hk6c HBX HBY HK7 cx0 cx2 cy0
            go_wp2_with fail
            go_loopw [43] (fun i W => ∃ (k : Nat), i = .int .i64 k ∧ k ≤ m ∧ Own W 3 1 (.slice (some ⟨g8, o8, none⟩) m c8) ((addTo m tx ty k).map (Value.int .i64)) ∧ Kp (fun k => k = g8) wc W) (fun i _ => m - (intOf i).toNat)
            case atStart => exact ⟨0, rfl, by omega, by rw [addTo_zero]; exact HO8.out, Kp.refl _ _⟩
            case round =>
              obtain ⟨q, rfl, hq, hoq, hkq⟩ := hrel
              have hb8' := hkq.heap HB8.out hbg
              have hcy := HYC.out.kp hkq (fun k hk _ e => hyg ((Option.some.inj hk).trans e))
              by_cases hqm : q < m
              · have e2 : wr.cell? ⟨b8, 2, none⟩ = some (.slice (some ⟨g8, o8, none⟩) m c8) := (cell_blk hb8' 2).trans rfl
                have ey : wr.cell? ⟨gy, oy + q, none⟩ = some (.int .i64 (ty.use q)) := hcy.cellAt (by rw [List.getElem?_map, Tr.uses_get ty hqm]; rfl)
                have ex : wr.cell? ⟨g8, o8 + q, none⟩ = some (.int .i64 (tx.use q)) := hoq.cellAt (by rw [List.getElem?_map, addTo_get hqm, if_neg (by omega)]; rfl)
                have ef : ∀ o, wr.frozen? ⟨g8, o, none⟩ = false := fun o => hoq.frozenAt o
                have hux : 0 ≤ tx.use q ∧ tx.use q ≤ 1099511627776 := ⟨tx.use_nn q, HU.out tx HTXT.out q hqm⟩
                have huy : 0 ≤ ty.use q ∧ ty.use q ≤ 1099511627776 := ⟨ty.use_nn q, HU.out ty HTYT.out q hqm⟩
                have hst := hoq.store q (.int .i64 (tx.use q + ty.use q))
                rw [addTo_step hqm] at hst
                have HST := Lib.hid hst
                have HKQ := Lib.hid hkq
                clear hoq hkq hb8' hcy hst
                generalize tx.use q = ux at *
                generalize ty.use q = uy at *
                go_wp2_with fail
                go_roundw
                case rel => exact ⟨q + 1, by go_num, by omega, HST.out, HKQ.out.setCell _ _ (fun _ => rfl)⟩
                case measure => simp [intOf]; omega
              · have d0 : wr.cell? ⟨b8, 0, none⟩ = some (.int .i64 (xw + yw)) := (cell_blk hb8' 0).trans rfl
                have d1 : wr.cell? ⟨b8, 1, none⟩ = some (.int .i64 0) := (cell_blk hb8' 1).trans rfl
                have d2 : wr.cell? ⟨b8, 2, none⟩ = some (.slice (some ⟨g8, o8, none⟩) m c8) := (cell_blk hb8' 2).trans rfl
                have hk6 : Kp (fun _ => False) w6 wr := HK6C.out.trans hkq (fun k hk e => by have e' : k = g8 := e; have := HG8.out; omega)
                have hoq2 : Own wr 3 1 (.slice (some ⟨g8, o8, none⟩) m c8) (((Tr.node tx ty).uses m).map (Value.int .i64)) := by
                  rw [show q = m from by omega, addTo_all] at hoq; exact hoq
                have hpl := HPL6.out.kpF (hk6.alloc (.cells #[.int .i64 (xw + yw), .int .i64 0, .slice (some ⟨g8, o8, none⟩) m c8] 85))
                have HPL8 := Lib.hid hpl
                have HIS : Hid (Is (wr.alloc (.cells #[.int .i64 (xw + yw), .int .i64 0, .slice (some ⟨g8, o8, none⟩) m c8] 85)) f m ⟨xw + yw, 0, some ⟨g8, o8, none⟩, m, c8⟩ (.node tx ty)) :=
                  Lib.hid ⟨by simp only [Tr.wt]; rw [HXW.out, HYW.out], hoq2.kpF ((Kp.refl _ _).alloc _)⟩
                have hnl : (ics Lo).length + 3 ≤ 2000 * 3 := by
                  have h1 := (items_n hpl.own.rd).1
                  have h2 := hpl.nn
                  have h3 := hpl.le
                  rw [ics_len]; omega
                have HNL := Lib.hid hnl
                clear hk6 hoq2 hpl hnl hoq hkq hb8' hcy cy2
                go_wp2_with (first | (at_builtin; refine wpList_append_Own _ rfl (.tmp 57) (.tmp 59) 83 rfl 85 (.agg #[.int .i64 0, .int .i64 0, .slice none 0 0]) 3 40 Try.info85 (by kernel_rfl) rfl (by omega) (.slice A5 n5 c5) (ics Lo) rfl HPL8.out.own _ [.int .i64 (xw + yw), .int .i64 0, .slice (some ⟨g8, o8, none⟩) m c8] rfl (Rd.lit (n := 1) (alloc_new wr _) rfl (by omega)) (by simp [Value.oneCell']) 2000 (by have := HNL.out; simp; omega) (by omega) (by omega) ?_; intro A9 n9 c9 w9 ho9 hk9 hb9; have HO9 := Lib.hid ho9; have HK9 := Lib.hid hk9; have HB9 := Lib.hid hb9; clear ho9 hk9 hb9))
                go_roundw
                case rel =>
                  exact ⟨j + 1, Lo ++ [⟨xw + yw, 0, some ⟨g8, o8, none⟩, m, c8⟩], A9, n9, c9, rfl, HPL8.out.more (x8 := ⟨xw + yw, 0, some ⟨g8, o8, none⟩, m, c8⟩) HIS.out HTX.out HTY.out HO9.out HK9.out HB9.out⟩
                case measure =>
                  have h1 := HPL.out.nn
                  have h2 := (HPL8.out.more (x8 := ⟨xw + yw, 0, some ⟨g8, o8, none⟩, m, c8⟩) HIS.out HTX.out HTY.out HO9.out HK9.out HB9.out).nn
                  have h3 := HR.out
                  simp; omega
        · have hr1 : r ≤ 1 := by omega
          have HR := Lib.hid hr
          clear hr h2 hlen
          go_wp2_with fail
          refine (Len_any wr _ r c').mono ?_
          rintro e w4 ⟨rfl, rfl⟩
          go_wp2_with fail
          go_ret
          have hp := HPL.out
          have hTl : T.length = n' := by rw [← HI.out.len]; exact HLN.out
          refine ⟨A5, n5, c5, Lo, rfl, hp.own, ?_, hp.kp, fun k hk => (hp.ob k hk).1⟩
          have hoi := hp.oi
          rwa [List.take_of_length_le (by rw [pairsT_len, hTl]; have := HR.out; omega)] at hoi
end Go.Proofs.Ytnhinhcgdchdkaa
