/- Lengths: what is refused; the row of the used symbols; few symbols. -/
import Derived.Test.YtnhinhcgdchdkaaHH
import Derived.Test.YtnhinhcgdchdkaaHI
set_option linter.unusedSimpArgs false
set_option linter.unusedVariables false
namespace Go.Proofs.Ytnhinhcgdchdkaa
open Go Go.Proofs Go.RowKit

theorem Try.info5 : (Try.prog.info? 5).map (fun i => (i.zero, i.size, i.bytes)) = some (some (.int .u8 0), 1, 1) := by kernel_rfl

def ErrPost (code : Int) (w : World) (e : Ending) (w' : World) : Prop := e = .returned (.tuple #[.slice none 0 0, .int .i64 code]) ∧ Kp (fun _ => False) w w'

set_option maxRecDepth 100000 in
set_option maxHeartbeats 1000000 in
theorem Lengths_arg (w : World) (A : Option Addr) (n c : Nat) (l : List Int) (z : Int) (hr : RdI w .i64 (.slice A n c) l) (h : z < 1 ∨ 15 < z ∨ 320 < n ∨ ∃ x ∈ l, ¬ okF x) :
    Calls Try.prog 14 #[.slice A n c, .int .i64 z] w (ErrPost 1 w) := by
  have HR := Lib.hid hr
  clear hr
  by_cases h1 : z < 1
  · clear h
    go_enter Try.func14, Try.ntmps14
    go_wp2
    go_ret2
    exact ⟨rfl, Kp.refl _ _⟩
  by_cases h2 : 15 < z
  · clear h
    go_enter Try.func14, Try.ntmps14
    go_wp2
    go_ret2
    exact ⟨rfl, Kp.refl _ _⟩
  by_cases h3 : 320 < n
  · clear h
    go_enter Try.func14, Try.ntmps14
    go_wp2
    go_ret2
    exact ⟨rfl, Kp.refl _ _⟩
  · have HX : Hid (∃ x ∈ l, ¬ okF x) := Lib.hid (by rcases h with h | h | h | h; omega; omega; omega; exact h)
    clear h
    go_enter Try.func14, Try.ntmps14
    go_wp2_with fail
    refine (contains39_yes w A n c l HR.out HX.out).mono ?_
    rintro e w1 ⟨rfl, rfl⟩
    go_wp2_with fail
    go_ret2
    exact ⟨rfl, Kp.refl _ _⟩

def LenPost (res : List Int) (w : World) (e : Ending) (w' : World) : Prop :=
  ∃ A n c, e = .returned (.tuple #[.slice A n c, .int .i64 0]) ∧ Own w' 5 1 (.slice A n c) (res.map (Value.int .u8)) ∧ Kp (fun _ => False) w w' ∧ (∀ k, (Value.slice A n c).ownBlock = some k → w.heap.size ≤ k)

theorem made_one (z : Value) (h : z.cells = #[z]) (n : Nat) : (madeCells z.cells (n * 1)).toList = List.replicate n z := by
  rw [h]
  apply List.ext_getElem?
  intro i
  by_cases hi : i < n
  · simp [madeCells, hi, Nat.mod_one]
  · rw [List.getElem?_eq_none (by simp [madeCells]; omega), List.getElem?_eq_none (by simp; omega)]

/-- What 'Lengths' answers, where nothing is out of bounds. -/
def LengthsPost (l : List Int) (lim : Nat) (w : World) (e : Ending) (w' : World) : Prop :=
  (2 ^ lim < (usedL l).length ∧ ErrPost 60 w e w') ∨ ((usedL l).length ≤ 2 ^ lim ∧ (usedL l).length ≤ 1 ∧ LenPost (outOf l fun _ => (usedL l).length) w e w') ∨
    ((usedL l).length ≤ 2 ^ lim ∧ 2 ≤ (usedL l).length ∧ LenPost (lensOf l lim) w e w')

theorem pow15 {lim : Nat} (h : lim ≤ 15) : 2 ^ lim ≤ 32768 := by
  have := Nat.pow_le_pow_right (n := 2) (by omega) h
  omega
theorem wrap_pow {lim : Nat} (h : lim ≤ 15) : wrap64 ((2 : Int) ^ lim) = ((2 ^ lim : Nat) : Int) := by
  have h1 := pow15 h
  rw [show ((2 : Int) ^ lim) = ((2 ^ lim : Nat) : Int) from by simp]
  generalize 2 ^ lim = P at *
  unfold wrap64; omega
theorem outOf_none {l : List Int} (h : (usedL l).length = 0) (c : Nat → Int) : outOf l c = List.replicate l.length 0 := by
  rw [← outOf_zero]
  unfold outOf
  apply List.map_congr_left
  intro s hs
  have : ¬ 0 < l.getD s 0 := fun hp => by
    have := usedL_mem.2 ⟨by simpa using hs, hp⟩
    rw [List.eq_nil_of_length_eq_zero h] at this
    simp at this
  rw [if_neg this, if_neg this]
theorem outOf_one {l : List Int} (h : (usedL l).length = 1) : outOf l (fun _ => 1) = (List.replicate l.length (0 : Int)).set ((usedL l)[0]) 1 := by
  rw [← outOf_zero, outOf_set (by omega)]
  unfold outOf
  apply List.map_congr_left
  intro s hs
  by_cases hp : 0 < l.getD s 0
  · rw [if_pos hp, if_pos hp]
    have h1 := List.idxOf_lt_length_iff.2 (usedL_mem.2 ⟨by simpa using hs, hp⟩)
    show (1 : Int) = if List.idxOf s (usedL l) = 0 then 1 else 0
    rw [if_pos (by omega)]
  · rw [if_neg hp, if_neg hp]

theorem run_make_ints (n : Nat) (h : n ≤ 1000) : ∃ Z : Array Value, Z.toList = List.replicate n (.int .i64 0) ∧ ∀ W : World, (Instr.makeSlice 22 (.int .i64 n) (.int .i64 n)).run Try.prog W = .ok (.slice (some ⟨W.heap.size, 0, none⟩) n n) (W.alloc (.cells Z 3)) := by
  obtain ⟨i, hi, hz0, hz1, hz2⟩ := info_parts Try.info3
  refine ⟨_, made_one (.int .i64 0) rfl n, fun W => ?_⟩
  have h1 := run_make (P := Try.prog) W 22 3 i (.int .i64 0) Try.underlying22 hi hz0 .i64 .i64 n n (by omega) (by omega) (by rw [hz2]; omega) (by omega)
  rw [hz1] at h1
  simpa using h1

theorem leaf_uses {m k : Nat} (h : k < m) : ((List.replicate m (Value.int .i64 0)).set k (.int .i64 1)) = ((Tr.leaf k).uses m).map (Value.int .i64) := by
  apply List.ext_getElem?
  intro i
  rw [List.getElem?_set, List.getElem?_map, List.getElem?_replicate]
  by_cases hi : i < m
  · rw [Tr.uses_get _ hi]
    by_cases e : k = i
    · subst e; simp [Tr.use, hi]
    · simp [Tr.use, hi, e]
  · rw [List.getElem?_eq_none (by rw [Tr.uses_len]; omega), if_neg (by omega), if_neg hi]; rfl

/-- Where the row of the leaves stands. -/
structure LV (w : World) (l : List Int) (W : World) (O : Nat) (A7 : Option Addr) (n7 c7 k : Nat) (Lf : List It) (A11 : Option Addr) (n11 c11 : Nat) : Prop where
  own : Own W 3 1 (.slice A7 n7 c7) ((usedL l).map (fun s : Nat => Value.int .i64 s))
  out : Own W 5 1 (.slice (some ⟨O, 0, none⟩) l.length l.length) ((List.replicate l.length (0 : Int)).map (Value.int .u8))
  lo : Own W 85 3 (.slice A11 n11 c11) (ics Lf)
  li : Items W (wtOf l) n7 Lf ((List.range k).map Tr.leaf)
  kp : Kp (fun _ => False) w W
  ub : ∀ q, (Value.slice A7 n7 c7).ownBlock = some q → w.heap.size ≤ q
  lb : ∀ q, (Value.slice A11 n11 c11).ownBlock = some q → w.heap.size ≤ q

theorem LV.kpF {w : World} {l : List Int} {W W' : World} {O : Nat} {A7 : Option Addr} {n7 c7 k : Nat} {Lf : List It} {A11 : Option Addr} {n11 c11 : Nat} (h : LV w l W O A7 n7 c7 k Lf A11 n11 c11) (hk : Kp (fun _ => False) W W') : LV w l W' O A7 n7 c7 k Lf A11 n11 c11 :=
  ⟨h.own.kpF hk, h.out.kpF hk, h.lo.kpF hk, h.li.kp hk (fun _ _ _ _ _ x => x), h.kp.trans' hk, h.ub, h.lb⟩
theorem Items.us {W : World} {f : Nat → Int} {m : Nat} {L : List It} {T : List Tr} (h : Items W f m L T) {x : It} (hx : x ∈ L) : ∃ t, Is W f m x t := by
  obtain ⟨i, hi⟩ := List.getElem?_of_mem hx
  exact ⟨_, h.is i x _ hi (List.getElem?_eq_getElem (by rw [← h.len]; exact (List.getElem?_eq_some_iff.1 hi).1))⟩
theorem LV.more {w : World} {l : List Int} {W W' : World} {O : Nat} {A7 : Option Addr} {n7 c7 k : Nat} {Lf : List It} {A11 A' : Option Addr} {n11 c11 n' c' : Nat} {x : It} (h : LV w l W O A7 n7 c7 k Lf A11 n11 c11) (hx : Is W (wtOf l) n7 x (.leaf k))
    (ho : Own W' 85 3 (.slice A' n' c') (ics Lf ++ x.cells)) (hk : Kp (fun q => (Value.slice A11 n11 c11).ownBlock = some q) W W') (hb : ∀ q, (Value.slice A' n' c').ownBlock = some q → (Value.slice A11 n11 c11).ownBlock = some q ∨ W.heap.size ≤ q) :
    LV w l W' O A7 n7 c7 (k + 1) (Lf ++ [x]) A' n' c' := by
  refine ⟨h.own.kp hk (fun q hq _ e => h.lo.ne h.own (by decide) e hq), h.out.kp hk (fun q hq _ e => h.lo.ne h.out (by decide) e hq), by rw [ics_app]; simpa [ics] using ho, ?_, h.kp.trans hk (fun q hq e => by have := h.lb q e; omega), h.ub, fun q hq => ?_⟩
  · rw [List.range_succ, List.map_append]
    exact (h.li.kp hk (fun y hy q hq _ e => by obtain ⟨t, ht⟩ := h.li.us hy; exact h.lo.ne ht.2 (by decide) e hq)).snoc (hx.kp hk (fun q hq _ e => h.lo.ne hx.2 (by decide) e hq))
  · rcases hb q hq with e | e
    · exact h.lb q e
    · have := h.kp.size; omega

/-- Where the row of the used symbols stands. -/
structure Used (w : World) (l : List Int) (W : World) (O k : Nat) (A7 : Option Addr) (n7 c7 : Nat) : Prop where
  own : Own W 3 1 (.slice A7 n7 c7) ((usedTo l k).map (fun s : Nat => Value.int .i64 s))
  out : Own W 5 1 (.slice (some ⟨O, 0, none⟩) l.length l.length) ((List.replicate l.length (0 : Int)).map (Value.int .u8))
  kp : Kp (fun _ => False) w W
  ub : ∀ q, (Value.slice A7 n7 c7).ownBlock = some q → w.heap.size ≤ q
theorem Used.n7 {w W : World} {l : List Int} {O k : Nat} {A7 : Option Addr} {n7 c7 : Nat} (h : Used w l W O k A7 n7 c7) : (usedTo l k).length = n7 := by
  obtain ⟨_, n', _, he, h1, _⟩ := h.own.len
  simp only [Value.slice.injEq] at he
  obtain ⟨_, rfl, _⟩ := he
  simpa using h1
theorem Used.no {w W : World} {l : List Int} {O k : Nat} {A7 : Option Addr} {n7 c7 : Nat} (h : Used w l W O k A7 n7 c7) (hz : ¬ 0 < l.getD k 0) : Used w l W O (k + 1) A7 n7 c7 :=
  ⟨by rw [usedTo_no hz]; exact h.own, h.out, h.kp, h.ub⟩
theorem Used.yes {w W W' : World} {l : List Int} {O k : Nat} {A7 A' : Option Addr} {n7 c7 n' c' : Nat} (h : Used w l W O k A7 n7 c7) (hz : 0 < l.getD k 0)
    (ho : Own W' 3 1 (.slice A' n' c') ((usedTo l k).map (fun s : Nat => Value.int .i64 s) ++ [.int .i64 k])) (hk : Kp (fun b => (Value.slice A7 n7 c7).ownBlock = some b) W W') (hb : ∀ q, (Value.slice A' n' c').ownBlock = some q → (Value.slice A7 n7 c7).ownBlock = some q ∨ W.heap.size ≤ q) :
    Used w l W' O (k + 1) A' n' c' := by
  refine ⟨by rw [usedTo_yes hz]; simpa using ho, h.out.kp hk (fun q hq _ hq2 => h.own.ne h.out (by decide) hq2 hq), h.kp.trans hk (fun q hq e => by have := h.ub q e; omega), fun q hq => ?_⟩
  rcases hb q hq with e | e
  · exact h.ub q e
  · have := h.kp.size; omega

theorem pairs_any (f : Nat → Int) (m : Nat) (w : World) (A : Option Addr) (n c : Nat) (L : List It) (T : List Tr) (ho : Own w 85 3 (.slice A n c) (ics L)) (hi : Items w f m L T) (hn : n ≤ 1000) (h0 : n = 0 → A = none ∧ c = 0)
    (hw : ∀ t ∈ T, 0 ≤ t.wt f ∧ t.wt f ≤ 1152921504606846976) (hu : ∀ t ∈ T, ∀ k, k < m → t.use k ≤ 1099511627776) (hm : 0 < m ∧ m ≤ 320) :
    Calls Try.prog 40 #[.slice A n c] w (PairsPost f m T w) := by
  by_cases h : n = 0
  · obtain ⟨h1, h2⟩ := h0 h
    subst h h1 h2
    have h3 : L.length = 0 := (items_n ho.rd).1
    have h4 : T = [] := List.eq_nil_of_length_eq_zero (by rw [← hi.len]; exact h3)
    subst h4
    exact pairs_nil f m w
  · obtain ⟨g, o, hA⟩ := ho.isSome (by omega)
    subst hA
    exact pairs_some f m w _ n c L T ho hi hn (by omega) hw hu hm

/-- Where the rounds of levels stand. -/
structure AV (w : World) (l : List Int) (W : World) (O : Nat) (A7 : Option Addr) (n7 c7 : Nat) (Lf : List It) (A11 : Option Addr) (n11 c11 r : Nat) (La : List It) (A12 : Option Addr) (n12 c12 : Nat) : Prop where
  lv : LV w l W O A7 n7 c7 n7 Lf A11 n11 c11
  ao : Own W 85 3 (.slice A12 n12 c12) (ics La)
  ai : Items W (wtOf l) n7 La (lev (wtOf l) n7 r)
  ab : ∀ q, (Value.slice A12 n12 c12).ownBlock = some q → w.heap.size ≤ q
  az : n12 = 0 → A12 = none ∧ c12 = 0

theorem AV.n12 {w : World} {l : List Int} {W : World} {O : Nat} {A7 : Option Addr} {n7 c7 : Nat} {Lf : List It} {A11 : Option Addr} {n11 c11 r : Nat} {La : List It} {A12 : Option Addr} {n12 c12 : Nat} (h : AV w l W O A7 n7 c7 Lf A11 n11 c11 r La A12 n12 c12) : n12 = (lev (wtOf l) n7 r).length ∧ n12 ≤ 2 * n7 := by
  have h1 := (items_n h.ao.rd).1
  have h2 := h.ai.len
  have h3 := lev_len_le (wtOf l) n7 r
  omega
theorem AV.next {w : World} {l : List Int} {W W1 W2 : World} {O : Nat} {A7 : Option Addr} {n7 c7 : Nat} {Lf : List It} {A11 : Option Addr} {n11 c11 r : Nat} {La : List It} {A12 : Option Addr} {n12 c12 : Nat} (h : AV w l W O A7 n7 c7 Lf A11 n11 c11 r La A12 n12 c12)
    {A' : Option Addr} {n' c' : Nat} {Lp : List It} (hk1 : Kp (fun _ => False) W W1) (hi1 : Items W1 (wtOf l) n7 Lp (pairsT (wtOf l) (lev (wtOf l) n7 r))) (ho1 : Own W1 85 3 (.slice A' n' c') (ics Lp)) (hb1 : ∀ q, (Value.slice A' n' c').ownBlock = some q → W.heap.size ≤ q)
    {A2 : Option Addr} {n2 c2 : Nat} (ho2 : Own W2 85 3 (.slice A2 n2 c2) (ics Lp ++ ics Lf)) (hk2 : Kp (fun q => (Value.slice A' n' c').ownBlock = some q) W1 W2) (hb2 : ∀ q, (Value.slice A2 n2 c2).ownBlock = some q → (Value.slice A' n' c').ownBlock = some q ∨ W1.heap.size ≤ q) (hn7 : 2 ≤ n7) :
    AV w l W2 O A7 n7 c7 Lf A11 n11 c11 (r + 1) (Lp ++ Lf) A2 n2 c2 := by
  have hk : Kp (fun _ => False) W W2 := hk1.trans hk2 (fun q hq e => by have := hb1 q e; omega)
  have ho : Own W2 85 3 (.slice A2 n2 c2) (ics (Lp ++ Lf)) := by rw [ics_app]; exact ho2
  have hlf := h.lv.li.len
  rw [List.length_map, List.length_range] at hlf
  refine ⟨h.lv.kpF hk, ho, ?_, fun q hq => ?_, fun e => ?_⟩
  · exact (hi1.kp hk2 (fun x hx q hq _ e => by obtain ⟨t, ht⟩ := hi1.us hx; exact ho1.ne ht.2 (by decide) e hq)).append (h.lv.li.kp hk (fun _ _ _ _ _ x => x))
  · have h0 := h.lv.kp.size
    have h1 := hk1.size
    rcases hb2 q hq with e | e
    · have := hb1 q e; omega
    · omega
  · have h1 := (items_n ho.rd).1
    rw [List.length_append] at h1
    omega

/-- Where the takings stand: d items are taken, j of them are counted. -/
structure TQ (w : World) (l : List Int) (W : World) (O : Nat) (A7 : Option Addr) (n7 c7 b g off n c : Nat) (La : List It) (lim d : Nat) (cc : Nat → Int) : Prop where
  own : Own W 3 1 (.slice A7 n7 c7) ((usedL l).map (fun s : Nat => Value.int .i64 s))
  out : Own W 5 1 (.slice (some ⟨O, 0, none⟩) l.length l.length) ((outOf l cc).map (Value.int .u8))
  items : Items W (wtOf l) n7 (sortIt (numbered La)) (sortT (wtOf l) (lev (wtOf l) n7 lim))
  hp : Hp W b g off (n - d) c ((sortIt (numbered La)).drop d)
  kp : Kp (fun _ => False) w W
  gb : w.heap.size ≤ g ∧ w.heap.size ≤ b ∧ w.heap.size ≤ O
  le : d ≤ n
  len : La.length = n

section
variable {w : World} {l : List Int} {W W' : World} {O : Nat} {A7 : Option Addr} {n7 c7 b g off n c : Nat} {La : List It} {lim d : Nat} {cc : Nat → Int}
theorem TQ.row (h : TQ w l W O A7 n7 c7 b g off n c La lim d cc) : (∃ cs, W.heap[g]? = some (.cells cs 85 (0, 0))) ∧ ∃ cs, W.heap[b]? = some (.cells cs 87 (0, 0)) := by
  obtain ⟨l, hq, _⟩ := h.hp
  obtain ⟨cur, h0, _⟩ := hq.own.open
  exact ⟨⟨cur, h0⟩, ⟨_, hq.blk⟩⟩
theorem TQ.taken (h : TQ w l W O A7 n7 c7 b g off n c La lim d cc) (hk : Kp (fun k => k = g ∨ k = b) W W') (hd : d + 1 ≤ n) (hp : Hp W' b g off (n - (d + 1)) c ((sortIt (numbered La)).drop (d + 1))) : TQ w l W' O A7 n7 c7 b g off n c La lim (d + 1) cc := by
  obtain ⟨⟨cg, hg⟩, ⟨cb, hb⟩⟩ := h.row
  refine ⟨h.own.kp hk ?_, h.out.kp hk ?_, h.items.kp hk ?_, hp, h.kp.trans hk (fun k hk' e => by have := h.gb; omega), h.gb, hd, h.len⟩
  · rintro k hk' _ (e | e)
    · exact h.own.off hg (by decide) k hk' e
    · exact h.own.off hb (by decide) k hk' e
  · rintro k hk' _ (e | e)
    · exact h.out.off hg (by decide) k hk' e
    · exact h.out.off hb (by decide) k hk' e
  · rintro x hx k hk' _ (e | e)
    · obtain ⟨t, ht⟩ := h.items.us hx; exact ht.2.off hg (by decide) k hk' e
    · obtain ⟨t, ht⟩ := h.items.us hx; exact ht.2.off hb (by decide) k hk' e
theorem TQ.counted (h : TQ w l W O A7 n7 c7 b g off n c La lim d cc) {cc' : Nat → Int} (hk : Kp (fun k => k = O) W W') (ho : Own W' 5 1 (.slice (some ⟨O, 0, none⟩) l.length l.length) ((outOf l cc').map (Value.int .u8))) : TQ w l W' O A7 n7 c7 b g off n c La lim d cc' := by
  obtain ⟨⟨cg, hg⟩, ⟨cb, hb⟩⟩ := h.row
  refine ⟨h.own.kp hk ?_, ho, h.items.kp hk ?_, h.hp.kpS hk ?_ ?_, h.kp.trans hk (fun k hk' e => by have := h.gb; omega), h.gb, h.le, h.len⟩
  · rintro k hk' _ e
    exact h.own.ne h.out (by decide) hk' (by rw [e]; rfl)
  · rintro x hx k hk' _ e
    obtain ⟨t, ht⟩ := h.items.us hx
    exact ht.2.ne h.out (by decide) hk' (by rw [e]; rfl)
  · rintro e; exact h.out.off hb (by decide) O rfl e.symm
  · rintro e; exact h.out.off hg (by decide) O rfl e.symm
theorem TQ.mlen (h : TQ w l W O A7 n7 c7 b g off n c La lim d cc) : (sortIt (numbered La)).length = n := by
  rw [(sortIt_perm _).length_eq, numbered_len, h.len]
theorem TQ.one (h : TQ w l W O A7 n7 c7 b g off n c La lim d cc) (hd : d < n) :
    ∃ x tx, (sortIt (numbered La))[d]? = some x ∧ (sortT (wtOf l) (lev (wtOf l) n7 lim))[d]? = some tx ∧ (sortIt (numbered La)).drop d = x :: (sortIt (numbered La)).drop (d + 1) ∧ Srt ((sortIt (numbered La)).drop d) ∧ Is W (wtOf l) n7 x tx := by
  have hl := h.mlen
  have hT : (sortT (wtOf l) (lev (wtOf l) n7 lim)).length = n := by rw [← h.items.len]; exact hl
  have e1 : (sortIt (numbered La))[d]? = some ((sortIt (numbered La))[d]'(by omega)) := List.getElem?_eq_getElem _
  have e3 : (sortT (wtOf l) (lev (wtOf l) n7 lim))[d]? = some ((sortT (wtOf l) (lev (wtOf l) n7 lim))[d]'(by omega)) := List.getElem?_eq_getElem _
  refine ⟨_, _, e1, e3, ?_, ?_, h.items.is _ _ _ e1 e3⟩
  · rw [List.drop_eq_getElem_cons (by omega)]
  · have hs := sortIt_srt (numbered_nodup La)
    exact ⟨hs.le.sublist (List.drop_sublist _ _), (hs.no).sublist ((List.drop_sublist _ _).map _)⟩
end

/-- What is counted of the first j items, and of the next one the first q uses. -/
def cntJ (l : List Int) (m lim j q : Nat) (t : Tr) (k : Nat) : Int := sumT (Tr.use k) ((sortT (wtOf l) (lev (wtOf l) m lim)).take j) + if k < q then t.use k else 0

theorem field85 (a b c : Value) (w : World) : (Instr.field 85 (.agg #[a, b, c]) 2).run Try.prog w = .ok c w := by kernel_rfl
theorem cntJ_zero (l : List Int) (m lim j : Nat) (t t' : Tr) : cntJ l m lim j 0 t = cntJ l m lim j 0 t' := by funext k; simp [cntJ]
theorem outOf_congr {l : List Int} {c c' : Nat → Int} (h : ∀ k, k < (usedL l).length → c k = c' k) : outOf l c = outOf l c' := by
  unfold outOf
  apply List.map_congr_left
  intro s hs
  by_cases hp : 0 < l.getD s 0
  · rw [if_pos hp, if_pos hp]
    exact h _ (List.idxOf_lt_length_iff.2 (usedL_mem.2 ⟨by simpa using hs, hp⟩))
  · rw [if_neg hp, if_neg hp]
theorem take_one {T : List Tr} {j : Nat} {t : Tr} (h : T[j]? = some t) : T.take (j + 1) = T.take j ++ [t] := by rw [List.take_add_one, h]; rfl
theorem cntJ_next {l : List Int} {m lim j k : Nat} {t : Tr} (h : (sortT (wtOf l) (lev (wtOf l) m lim))[j]? = some t) (hk : k < m) (t' : Tr) : cntJ l m lim j m t k = cntJ l m lim (j + 1) 0 t' k := by
  unfold cntJ
  rw [take_one h, sumT_append, if_pos hk, if_neg (by omega)]
  simp [sumT]
theorem cntJ_step (l : List Int) (m lim j q : Nat) (t : Tr) : (fun i => if i = q then sumT (Tr.use q) ((sortT (wtOf l) (lev (wtOf l) m lim)).take j) + t.use q else cntJ l m lim j q t i) = cntJ l m lim j (q + 1) t := by
  funext i
  unfold cntJ
  by_cases e : i = q
  · subst e; rw [if_pos rfl, if_pos (by omega)]
  · rw [if_neg e]
    by_cases e2 : i < q
    · rw [if_pos e2, if_pos (by omega)]
    · rw [if_neg e2, if_neg (by omega)]
theorem cnt_bound {l : List Int} {lim j q : Nat} {t : Tr} (h : (sortT (wtOf l) (lev (wtOf l) (usedL l).length lim))[j]? = some t) :
    0 ≤ sumT (Tr.use q) ((sortT (wtOf l) (lev (wtOf l) (usedL l).length lim)).take j) ∧ sumT (Tr.use q) ((sortT (wtOf l) (lev (wtOf l) (usedL l).length lim)).take j) + t.use q ≤ lim := by
  refine ⟨sumT_nn (fun t _ => t.use_nn q), ?_⟩
  have h1 := cnt_le l lim q (j + 1)
  rw [take_one h, sumT_append] at h1
  simpa [sumT] using h1

set_option maxRecDepth 100000 in
set_option maxHeartbeats 4000000 in
theorem Lengths_any (w : World) (A : Option Addr) (n c : Nat) (l : List Int) (lim : Nat) (hr : RdI w .i64 (.slice A n c) l) (hz : 1 ≤ lim ∧ lim ≤ 15) (hn : n ≤ 320) (hok : ∀ x ∈ l, okF x) :
    Calls Try.prog 14 #[.slice A n c, .int .i64 lim] w (LengthsPost l lim w) := by
  obtain ⟨hl, hnc, hc⟩ := hr.len
  obtain ⟨hz1, hz2⟩ := hz
  have d1 : decide ((lim : Int) < 1) = false := by simp; omega
  have d2 : decide (15 < (lim : Int)) = false := by simp; omega
  have d3 : decide (320 < (n : Int)) = false := by simp; omega
  have HR := Lib.hid hr
  have HL := Lib.hid hl
  have HOK := Lib.hid hok
  clear hr hl hok
  go_enter Try.func14, Try.ntmps14
  go_wp2_with fail
  refine (contains39_no w A n c l HR.out HOK.out).mono ?_
  rintro e w1 ⟨rfl, rfl⟩
  go_wp2_with (at_make; refine wpList_make_Own _ rfl (.tmp 36) (.tmp 36) 23 rfl 5 (.int .u8 0) 1 1 Try.info5 (by kernel_rfl) .i64 .i64 n n n rfl rfl rfl rfl (by omega) (by omega) ?_; intro w1 ho1 hk1 hs1; rw [made_one _ rfl] at ho1; have HO1 := Lib.hid ho1; have HK1 := Lib.hid hk1; clear ho1 hk1)
  have HU0 : Hid (Used w l w1 w.heap.size 0 none 0 0) := Lib.hid ⟨Own.nil _ _ _, by rw [List.map_replicate, HL.out]; exact HO1.out, HK1.out, by simp [Value.ownBlock]⟩
  clear HO1 HK1 d1 d2 d3
  go_loopw [7, 40] (fun v i W => ∃ (k : Nat) (A7 : Option Addr) (n7 c7 : Nat), i = .int .i64 k ∧ k ≤ n ∧ v = .slice A7 n7 c7 ∧ Used w l W w.heap.size k A7 n7 c7) (fun _ i _ => n - (intOf i).toNat)
  case atStart => exact ⟨0, none, 0, 0, rfl, by omega, rfl, HU0.out⟩
  case round =>
    clear HU0
    obtain ⟨k, A7, n7, c7, rfl, hk, rfl, hu⟩ := hrel
    have HU := Lib.hid hu
    clear hu
    by_cases hlt : k < n
    · have hrk := (Rd.kpF HR.out HU.out.kp : RdI wr .i64 (.slice A n c) l)
      obtain ⟨g, off, hA⟩ := HR.out.some (by omega)
      subst hA
      obtain ⟨z, hz⟩ : ∃ z, l[k]? = some z := ⟨l[k]'(by have := HL.out; omega), List.getElem?_eq_getElem _⟩
      have hcell := RdI.at hrk hz
      have hgd : l.getD k 0 = z := by rw [List.getD_eq_getElem?_getD, hz]; rfl
      have HGD := Lib.hid hgd
      clear hrk hz hgd
      by_cases hp : 0 < z
      · have hnl : ((usedTo l k).map (fun s : Nat => Value.int .i64 s)).length + 1 ≤ 1000 * 1 := by have := usedTo_len l k; simp; omega
        have HNL := Lib.hid hnl
        clear hnl
        go_wp2_with (first | (at_builtin; refine wpList_append_Own _ rfl (.tmp 47) (.tmp 49) 22 rfl 3 (.int .i64 0) 1 8 Try.info3 (by kernel_rfl) rfl (by omega) (.slice A7 n7 c7) _ rfl (HU.out.own.kpF ((Kp.refl _ _).alloc _)) _ [.int .i64 k] rfl (Rd.lit (n := 1) (alloc_new wr _) rfl (by omega)) (by simp [Value.oneCell']) 1000 (by have := HNL.out; simpa using this) (by omega) (by omega) ?_; intro A2 n2 c2 w2 ho2 hk2 hb2; have HO2 := Lib.hid ho2; have HK2 := Lib.hid hk2; have HB2 := Lib.hid hb2; clear ho2 hk2 hb2))
        go_roundw
        case rel => exact ⟨k + 1, A2, n2, c2, by go_num, by omega, rfl, HU.out.yes (by rw [HGD.out]; exact hp) HO2.out (((Kp.refl (fun b => (Value.slice A7 n7 c7).ownBlock = some b) wr).alloc _).trans' HK2.out) (fun q hq => (HB2.out q hq).imp id (fun h => by simp at h; omega))⟩
        case measure => simp [intOf]; omega
      · go_wp2_with fail
        go_roundw
        case rel => exact ⟨k + 1, A7, n7, c7, by go_num, by omega, rfl, HU.out.no (by rw [HGD.out]; exact hp)⟩
        case measure => simp [intOf]; omega
    · have hu := HU.out
      rw [show k = l.length from by have := HL.out; omega] at hu
      have hm7 : (usedL l).length = n7 := hu.n7
      have hP : 1 ≤ 2 ^ lim ∧ 2 ^ lim ≤ 32768 := ⟨Nat.one_le_two_pow, pow15 hz2⟩
      have hw := wrap_pow hz2
      have HUE := Lib.hid hu
      have HLP : Hid (∀ e w', LengthsPost l lim w e w' ↔ (2 ^ lim < n7 ∧ ErrPost 60 w e w') ∨ (n7 ≤ 2 ^ lim ∧ n7 ≤ 1 ∧ LenPost (outOf l fun _ => n7) w e w') ∨ (n7 ≤ 2 ^ lim ∧ 2 ≤ n7 ∧ LenPost (lensOf l lim) w e w')) := Lib.hid (fun e w' => by unfold LengthsPost; rw [hm7])
      have HM := Lib.hid hm7
      clear hu HU hm7
      generalize hPe : 2 ^ lim = P at *
      have HPE := Lib.hid hPe
      clear hPe
      by_cases c1 : P < n7
      · go_wp2_with fail
        go_ret2
        exact (HLP.out _ _).2 (.inl ⟨c1, rfl, HUE.out.kp⟩)
      by_cases c2 : n7 = 0
      · subst c2
        go_wp2_with fail
        go_ret2
        refine (HLP.out _ _).2 (.inr (.inl ⟨by omega, by omega, some ⟨w.heap.size, 0, none⟩, n, n, rfl, ?_, HUE.out.kp, by simp [Value.ownBlock]⟩))
        rw [outOf_none HM.out]
        have := HUE.out.out
        rwa [HL.out] at this ⊢
      by_cases c3 : n7 = 1
      · subst c3
        obtain ⟨g7, o7, hA⟩ := HUE.out.own.isSome (by omega)
        subst hA
        have hu0 := usedL_get (l := l) (k := 0) (by rw [HM.out]; omega)
        obtain ⟨s, hs⟩ : ∃ s, s = (usedL l)[0]'(by rw [HM.out]; omega) := ⟨_, rfl⟩
        rw [← hs] at hu0
        have e0 : wr.cell? ⟨g7, o7, none⟩ = some (.int .i64 s) := HUE.out.own.cellAt (j := 0) (by rw [List.getElem?_map]; show Option.map _ (usedL l)[0]? = _; rw [hu0.1]; rfl)
        have hsn : s < n := by have := hu0.2.1; have := HL.out; omega
        have e1 : wr.cell? ⟨w.heap.size, s, none⟩ = some (.int .u8 0) := by
          have := HUE.out.out.cellAt (j := s) (u := .int .u8 0) (by rw [List.getElem?_map, List.getElem?_replicate, if_pos hu0.2.1]; rfl)
          rwa [Nat.zero_add] at this
        have ef : ∀ o, wr.frozen? ⟨w.heap.size, o, none⟩ = false := fun o => HUE.out.out.frozenAt o
        have hst := HUE.out.out.store s (.int .u8 1)
        have h1c : 1 ≤ c7 := by
          obtain ⟨_, n1, _, he, _, h2, _⟩ := HUE.out.own.len
          simp only [Value.slice.injEq] at he
          obtain ⟨_, rfl, rfl⟩ := he
          exact h2
        rw [Nat.zero_add, ← List.map_set, hs, ← outOf_one HM.out, ← hs] at hst
        have HST := Lib.hid hst
        clear hst hs hu0
        go_wp2_with fail
        go_ret2
        refine (HLP.out _ _).2 (.inr (.inl ⟨by omega, by omega, some ⟨w.heap.size, 0, none⟩, n, n, rfl, ?_, ?_, by simp [Value.ownBlock]⟩))
        · have := HST.out
          rw [HL.out] at this
          simpa using this
        · exact HUE.out.kp.trans ((Kp.refl (fun b => b = w.heap.size) wr).setCell ⟨w.heap.size, s, none⟩ _ (fun _ => rfl)) (fun b hb e => by have e' : b = w.heap.size := e; omega)
      · as_aux_lemma =>
          have c4 : 2 ≤ n7 := by omega
          have c5 : n7 ≤ P := by omega
          clear c1 c2 c3
          have hn7 : n7 ≤ 320 := by have := usedTo_len l l.length; have h2 : (usedL l).length = n7 := HM.out; unfold usedL at h2; have := HL.out; omega
          obtain ⟨Z, hZ, hmk⟩ := run_make_ints n7 (by omega)
          have HZ := Lib.hid hZ
          have HMK := Lib.hid hmk
          clear hZ hmk
          have hu7 := HUE.out.own
          have hcc : n7 ≤ c7 ∧ c7 ≤ 9223372036854775807 := by
            obtain ⟨_, n1, _, he, _, h2, h3⟩ := HUE.out.own.len
            simp only [Value.slice.injEq] at he
            obtain ⟨_, rfl, rfl⟩ := he
            exact ⟨h2, h3⟩
          obtain ⟨g7, o7, hA7⟩ := hu7.isSome (by omega)
          subst hA7
          have HLV : Hid (LV w l wr w.heap.size (some ⟨g7, o7, none⟩) n7 c7 0 [] none 0 0) := Lib.hid ⟨HUE.out.own, HUE.out.out, Own.nil _ _ _, by simpa using Items.nil _ _ _, HUE.out.kp, HUE.out.ub, by simp [Value.ownBlock]⟩
          clear hu7 HUE
          have b1 : (((n7 : Int)) == 1) = false := by simp; omega
          have b2 : (((n7 : Int)) == 0) = false := by simp; omega
          have b3 : decide ((P : Int) < (n7 : Int)) = false := by simp; omega
          have b4 : decide (P < n7) = false := by simp; omega
          go_wp2_with fail
          clear hP hw
          go_loopw [11, 74] (fun v i W => ∃ (k : Nat) (Lf : List It) (A11 : Option Addr) (n11 c11 : Nat), i = .int .i64 k ∧ k ≤ n7 ∧ v = .slice A11 n11 c11 ∧ LV w l W w.heap.size (some ⟨g7, o7, none⟩) n7 c7 k Lf A11 n11 c11) (fun _ i _ => n7 - (intOf i).toNat)
          case atStart => exact ⟨0, [], none, 0, 0, rfl, by omega, rfl, HLV.out⟩
          case round =>
            clear HLV
            obtain ⟨k, Lf, A11, n11, c11, rfl, hk, rfl, hv⟩ := hrel
            have HV := Lib.hid hv
            clear hv
            by_cases hlt : k < n7
            · obtain ⟨s, hs⟩ : ∃ s, s = (usedL l)[k]'(by rw [HM.out]; exact hlt) := ⟨_, rfl⟩
              obtain ⟨q1, q2, q3⟩ := usedL_get (l := l) (k := k) (by rw [HM.out]; exact hlt)
              rw [← hs] at q1 q2 q3
              have hsn : s < n := by have := HL.out; omega
              have e0 : wr.cell? ⟨g7, o7 + k, none⟩ = some (.int .i64 s) := HV.out.own.cellAt (by rw [List.getElem?_map, q1]; rfl)
              obtain ⟨g, off, hA⟩ := HR.out.some (by omega)
              subst hA
              obtain ⟨z, hz⟩ : ∃ z, l[s]? = some z := ⟨l[s]'q2, List.getElem?_eq_getElem _⟩
              have e1 : wr.cell? ⟨g, off + s, none⟩ = some (.int .i64 z) := RdI.at (Rd.kpF HR.out HV.out.kp) hz
              have hzw : z = wtOf l k := by
                rw [wtOf_eq (by rw [HM.out]; exact hlt), ← hs, List.getD_eq_getElem?_getD, hz]; rfl
              have HZW := Lib.hid hzw
              clear hs q1 q2 q3 hz hzw
              go_upto_region 23 with (fail)
              have hmk := HMK.out
              go_cut [15] from 79 to 95 (fun p wc => ∃ (b8 g8 : Nat), p = .pointer (some ⟨b8, 0, none⟩) ∧ wc.heap[b8]? = some (.cells #[.int .i64 z, .int .i64 0, .slice (some ⟨g8, 0, none⟩) n7 n7] 85 (0, 0)) ∧
                  wc.heap[g8]? = some (.cells Z 3 (0, 0)) ∧ Kp (fun _ => False) wr wc ∧ wr.heap.size ≤ g8 ∧ wr.heap.size ≤ b8)
              case first =>
                have hgs : g < wr.heap.size := lt_of_cell (a := ⟨g, off + s, none⟩) e1
                have n1 : g ≠ wr.heap.size := by omega
                have n2 : g ≠ wr.heap.size + 1 := by omega
                have k1 : ∀ o : Obj, (wr.alloc o).cell? ⟨g, off + s, none⟩ = some (.int .i64 z) := fun o => ((Kp.refl (fun _ => False) wr).alloc o).cell e1 (fun x => x)
                have k2 : ∀ o o' : Obj, ((wr.alloc o).alloc o').cell? ⟨g, off + s, none⟩ = some (.int .i64 z) := fun o o' => (((Kp.refl (fun _ => False) wr).alloc o).alloc o').cell e1 (fun x => x)
                go_region
                all_goals (go_wp2_with fail; go_meet; first
                  | exact ⟨wr.heap.size + 1, wr.heap.size, rfl, by have := alloc_new (wr.alloc (.cells Z 3)) (.cells #[.int .i64 z, .int .i64 0, .slice (some ⟨wr.heap.size, 0, none⟩) n7 n7] 85); rwa [World.size_alloc] at this, alloc_oth (alloc_new wr _) _, (((Kp.refl (fun _ => False) wr).alloc _).alloc _).drew, by omega, by omega⟩
                  | exact ⟨wr.heap.size, wr.heap.size + 1, rfl, alloc_oth (alloc_new wr _) _, by have := alloc_new (wr.alloc (.cells #[.int .i64 z, .int .i64 0, .slice (some ⟨wr.heap.size + 1, 0, none⟩) n7 n7] 85)) (.cells Z 3); rwa [World.size_alloc] at this, (((Kp.refl (fun _ => False) wr).alloc _).alloc _).drew, by omega, by omega⟩)
              case rest =>
                obtain ⟨b8, g8, rfl, hb8, hg8, hkc, hl1, hl2⟩ := hcut
                have hzn : Z.size = n7 := by have := congrArg List.length HZ.out; simpa using this
                have ho8 : Own wc 3 1 (.slice (some ⟨g8, 0, none⟩) n7 n7) (List.replicate n7 (.int .i64 0)) := by
                  rw [← HZ.out]
                  exact .inr ⟨g8, 0, n7, n7, Z, rfl, hg8, Nat.le_refl _, by omega, by omega, by simp [hzn], fun j u hj => by simpa using hj⟩
                have hne : b8 ≠ g8 := by rintro rfl; rw [hb8] at hg8; simp at hg8
                have d0 : wc.cell? ⟨b8, 0, none⟩ = some (.int .i64 z) := (cell_blk hb8 0).trans rfl
                have d1 : wc.cell? ⟨b8, 1, none⟩ = some (.int .i64 0) := (cell_blk hb8 1).trans rfl
                have d2 : wc.cell? ⟨b8, 2, none⟩ = some (.slice (some ⟨g8, 0, none⟩) n7 n7) := (cell_blk hb8 2).trans rfl
                have dg : wc.cell? ⟨g8, k, none⟩ = some (.int .i64 0) := by
                  have := ho8.cellAt (j := k) (u := .int .i64 0) (by rw [List.getElem?_replicate, if_pos hlt])
                  rwa [Nat.zero_add] at this
                have df : ∀ o, wc.frozen? ⟨g8, o, none⟩ = false := fun o => ho8.frozenAt o
                have hst := ho8.store k (.int .i64 1)
                rw [leaf_uses hlt, Nat.zero_add] at hst
                have hks : Kp (fun q => q = g8) wc (wc.setCell ⟨g8, k, none⟩ (.int .i64 1)) := (Kp.refl (fun q => q = g8) wc).setCell _ _ (fun _ => rfl)
                have hkw : Kp (fun _ => False) wr (wc.setCell ⟨g8, k, none⟩ (.int .i64 1)) := hkc.trans hks (fun q hq e => by have e' : q = g8 := e; omega)
                have hv9 := HV.out.kpF (hkw.alloc (.cells #[.int .i64 z, .int .i64 0, .slice (some ⟨g8, 0, none⟩) n7 n7] 85))
                have HV9 := Lib.hid hv9
                have HIS : Hid (Is ((wc.setCell ⟨g8, k, none⟩ (.int .i64 1)).alloc (.cells #[.int .i64 z, .int .i64 0, .slice (some ⟨g8, 0, none⟩) n7 n7] 85)) (wtOf l) n7 ⟨z, 0, some ⟨g8, 0, none⟩, n7, n7⟩ (.leaf k)) :=
                  Lib.hid ⟨HZW.out, hst.kpF ((Kp.refl _ _).alloc _)⟩
                have hnl : (ics Lf).length + 3 ≤ 2000 * 3 := by
                  have h2 := hv9.li.len
                  rw [List.length_map, List.length_range] at h2
                  rw [ics_len]; omega
                have hnb := alloc_new (wc.setCell ⟨g8, k, none⟩ (.int .i64 1)) (.cells #[.int .i64 z, .int .i64 0, .slice (some ⟨g8, 0, none⟩) n7 n7] 85)
                rw [show (wc.setCell ⟨g8, k, none⟩ (.int .i64 1)).heap.size = wc.heap.size from by simp [World.setCell]] at hnb
                have HNB := Lib.hid hnb
                have HNL := Lib.hid hnl
                clear hnb hb8 hg8 hkc hzn ho8 hst hks hkw hv9 hnl hmk e0 e1
                go_wp2_with (first | (at_builtin; refine wpList_append_Own _ rfl (.tmp 91) (.tmp 93) 83 rfl 85 (.agg #[.int .i64 0, .int .i64 0, .slice none 0 0]) 3 40 Try.info85 (by kernel_rfl) rfl (by omega) (.slice A11 n11 c11) (ics Lf) rfl HV9.out.lo _ [.int .i64 z, .int .i64 0, .slice (some ⟨g8, 0, none⟩) n7 n7] rfl (Rd.lit (n := 1) HNB.out rfl (by omega)) (by simp [Value.oneCell']) 2000 (by have := HNL.out; simp; omega) (by omega) (by omega) ?_; intro A9 n9 c9 w9 ho9 hk9 hb9; have HO9 := Lib.hid ho9; have HK9 := Lib.hid hk9; have HB9 := Lib.hid hb9; clear ho9 hk9 hb9))
                go_roundw
                case rel =>
                  exact ⟨k + 1, Lf ++ [⟨z, 0, some ⟨g8, 0, none⟩, n7, n7⟩], A9, n9, c9, by go_num, by omega, rfl, HV9.out.more (x := ⟨z, 0, some ⟨g8, 0, none⟩, n7, n7⟩) HIS.out HO9.out HK9.out HB9.out⟩
                case measure => simp [intOf]; omega
            · have hv : LV w l wr w.heap.size (some ⟨g7, o7, none⟩) n7 c7 n7 Lf A11 n11 c11 := by have := HV.out; rwa [show k = n7 from by omega] at this
              have HV := Lib.hid hv
              clear hv HZ HMK
              have HAV0 : Hid (AV w l wr w.heap.size (some ⟨g7, o7, none⟩) n7 c7 Lf A11 n11 c11 0 [] none 0 0) := Lib.hid ⟨HV.out, Own.nil _ _ _, Items.nil _ _ _, by simp [Value.ownBlock], fun _ => ⟨rfl, rfl⟩⟩
              obtain ⟨hnn, hBB⟩ := wtOf_bd HOK.out
              have HNN := Lib.hid hnn
              have HBB := Lib.hid hBB
              clear HV hnn hBB
              go_wp2_with fail
              go_loopw [12, 97] (fun v i W => ∃ (r : Nat) (La : List It) (A12 : Option Addr) (n12 c12 : Nat), i = .int .i64 r ∧ r ≤ lim ∧ v = .slice A12 n12 c12 ∧ AV w l W w.heap.size (some ⟨g7, o7, none⟩) n7 c7 Lf A11 n11 c11 r La A12 n12 c12) (fun _ i _ => lim - (intOf i).toNat)
              case atStart => exact ⟨0, [], none, 0, 0, rfl, by omega, rfl, HAV0.out⟩
              case round =>
                clear HAV0
                obtain ⟨r, La, A12, n12, c12, rfl, hr, rfl, hav⟩ := hrel
                have hn12 := hav.n12
                have HAV := Lib.hid hav
                clear hav
                by_cases hrl : r < lim
                · obtain ⟨hbw, hbu⟩ := lev_bounds HNN.out HBB.out (m := n7) (r := r) hn7 (by omega)
                  have HBW := Lib.hid hbw
                  have HBU := Lib.hid hbu
                  have HN12 := Lib.hid hn12
                  clear hbw hbu hn12
                  go_wp2_with fail
                  refine (pairs_any (wtOf l) n7 wr A12 n12 c12 La (lev (wtOf l) n7 r) HAV.out.ao HAV.out.ai (by have := HN12.out; omega) HAV.out.az HBW.out HBU.out (by omega)).mono ?_
                  rintro e w3 ⟨A3, n3, c3, Lp, rfl, ho3, hi3, hk3, hb3⟩
                  have hnl : (ics Lp).length + (ics Lf).length ≤ 2000 * 3 := by
                    have h1 := hi3.len
                    have h2 := HAV.out.lv.li.len
                    rw [pairsT_len] at h1
                    rw [List.length_map, List.length_range] at h2
                    have h3 := HN12.out
                    rw [ics_len, ics_len]; omega
                  have HLF := Lib.hid (HAV.out.lv.lo.rd.kpF hk3)
                  have HO3 := Lib.hid ho3
                  have HI3 := Lib.hid hi3
                  have HK3 := Lib.hid hk3
                  have HB3 := Lib.hid hb3
                  have HNL := Lib.hid hnl
                  clear ho3 hi3 hk3 hb3 hnl
                  go_wp2_with (first | (at_builtin; refine wpList_append_Own _ rfl (.tmp 100) (.tmp 101) 83 rfl 85 (.agg #[.int .i64 0, .int .i64 0, .slice none 0 0]) 3 40 Try.info85 (by kernel_rfl) rfl (by omega) (.slice A3 n3 c3) (ics Lp) rfl HO3.out (.slice A11 n11 c11) (ics Lf) rfl HLF.out (It.one Lf) 2000 HNL.out (by omega) (by omega) ?_; intro A9 n9 c9 w9 ho9 hk9 hb9; have HO9 := Lib.hid ho9; have HK9 := Lib.hid hk9; have HB9 := Lib.hid hb9; clear ho9 hk9 hb9))
                  go_roundw
                  case rel => exact ⟨r + 1, Lp ++ Lf, A9, n9, c9, by go_num, by omega, rfl, HAV.out.next HK3.out HI3.out HO3.out HB3.out HO9.out HK9.out HB9.out c4⟩
                  case measure => simp [intOf]; omega
                · have hav : AV w l wr w.heap.size (some ⟨g7, o7, none⟩) n7 c7 Lf A11 n11 c11 lim La A12 n12 c12 := by have := HAV.out; rwa [show r = lim from by omega] at this
                  have HAV := Lib.hid hav
                  clear hav hn12
                  have hge : 2 * n7 ≤ n12 + 2 := by
                    have h1 := HAV.out.n12.1
                    obtain ⟨lim', rfl⟩ : ∃ q, lim = q + 1 := ⟨lim - 1, by omega⟩
                    have h2 := lev_len_ge (wtOf l) n7 lim' 1 (by rw [HPE.out]; exact c5)
                    rw [h1]; simpa using h2
                  have hle : n12 ≤ 640 := by have := HAV.out.n12.2; omega
                  obtain ⟨g12, o12, hA12⟩ := HAV.out.ao.isSome (by omega)
                  subst hA12
                  go_wp2_with fail
                  have hba := alloc_new wr (.cells #[.slice (some ⟨g12, o12, none⟩) n12 c12] 87)
                  have hka := (Kp.refl (fun _ => False) wr).alloc (.cells #[.slice (some ⟨g12, o12, none⟩) n12 c12] 87)
                  have hgl : g12 < wr.heap.size := HAV.out.ao.lt rfl
                  have hgw : w.heap.size ≤ g12 := HAV.out.ab g12 rfl
                  have hbw : w.heap.size ≤ wr.heap.size := HAV.out.lv.kp.size
                  generalize hwq : wr.alloc (.cells #[.slice (some ⟨g12, o12, none⟩) n12 c12] 87) = wq at *
                  generalize hbq : wr.heap.size = bq at *
                  have HQ0 : Hid (Qu wq bq g12 o12 n12 c12 La) := Lib.hid ⟨hba, HAV.out.ao.kpF hka⟩
                  have HKA := Lib.hid hka
                  clear hwq hba hka hbq
                  go_loopw [17, 107] (fun _ i W => ∃ (k : Nat) (l' : List It), i = .int .i64 k ∧ k ≤ n12 ∧ Qu W bq g12 o12 n12 c12 l' ∧ NumTo La l' k ∧ Kp (fun q => q = g12) wq W) (fun _ i _ => n12 - (intOf i).toNat)
                  case atStart => exact ⟨0, La, rfl, by omega, HQ0.out, .start La, Kp.refl _ _⟩
                  case round =>
                    clear HQ0
                    obtain ⟨q, l', rfl, hq, hqu, hnum, hkk⟩ := hrel
                    have hll := (items_n hqu.own.rd).1
                    have c0 := hqu.cell
                    have HQ := Lib.hid hqu
                    have HNUM := Lib.hid hnum
                    have HKK := Lib.hid hkk
                    have HLL := Lib.hid hll
                    clear hqu hnum hkk hll
                    by_cases hqn : q < n12
                    · obtain ⟨x, hx⟩ : ∃ x, l'[q]? = some x := ⟨l'[q]'(by have := HLL.out; omega), List.getElem?_eq_getElem _⟩
                      obtain ⟨a0, a1, a2⟩ := item_at HQ.out.own.rd hx
                      have hnc : n12 ≤ c12 ∧ c12 ≤ 9223372036854775807 := (items_n HQ.out.own.rd).2
                      have f1 : ∀ o, wr.frozen? ⟨g12, o, none⟩ = false := fun o => HQ.out.own.frozenAt o
                      have hgb := HQ.out.ne
                      have HX := Lib.hid hx
                      clear hx
                      go_wp2_with fail
                      go_roundw
                      case rel =>
                        refine ⟨q + 1, l'.set q { x with no := q }, by go_num, by omega, ⟨?_, HQ.out.own.storeNo HX.out q⟩, HNUM.out.step HX.out, HKK.out.setCell _ _ (fun _ => rfl)⟩
                        exact setCell_oth HQ.out.blk _ _ (fun e => hgb e.symm)
                      case measure => simp [intOf]; omega
                    · have hnum2 := HNUM.out.done (by have := (items_n HAV.out.ao.rd).1; omega)
                      subst hnum2
                      go_wp2_with fail
                      refine (Init_any wr bq g12 o12 n12 c12 (numbered La) HQ.out (by omega)).mono ?_
                      rintro e w3 ⟨l3, rfl, hq3, hp3, hh3, hk3⟩
                      have hk13 : Kp (fun q => q = g12) wq w3 := HKK.out.trans' hk3
                      have hgt : ∃ cs, wq.heap[g12]? = some (.cells cs 85 (0, 0)) := by
                        obtain ⟨cur, h0, _⟩ := (HAV.out.ao.kpF HKA.out).open
                        exact ⟨cur, h0⟩
                      obtain ⟨cs, hcs⟩ := hgt
                      have hlv := HAV.out.lv.kpF HKA.out
                      have hais := HAV.out.ai.kp HKA.out (fun _ _ _ _ _ x => x)
                      have HT0 : Hid (TQ w l w3 w.heap.size (some ⟨g7, o7, none⟩) n7 c7 bq g12 o12 n12 c12 La lim 0 (cntJ l n7 lim 0 0 (.leaf 0))) := Lib.hid {
                        own := hlv.own.kp hk13 (fun k hk _ e => hlv.own.off hcs (by decide) k hk e)
                        out := by
                          have : cntJ l n7 lim 0 0 (.leaf 0) = fun _ => 0 := by funext k; simp [cntJ, sumT]
                          rw [this, outOf_zero]
                          exact hlv.out.kp hk13 (fun k hk _ e => hlv.out.off hcs (by decide) k hk e)
                        items := sort_both (numbered_items (hais.kp hk13 (fun x hx k hk _ e => by obtain ⟨t, ht⟩ := hais.us hx; exact ht.2.off hcs (by decide) k hk e))) (fun _ _ h => numbered_no h)
                        hp := ⟨l3, hq3, hp3.trans (sortIt_perm _).symm, hh3⟩
                        kp := hlv.kp.trans hk13 (fun k hk e => by have e' : k = g12 := e; omega)
                        gb := ⟨hgw, hbw, Nat.le_refl _⟩
                        le := by omega
                        len := (items_n HAV.out.ao.rd).1 }
                      clear hq3 hp3 hh3 hk3 hk13 hcs hlv hais c0
                      go_wp2_with fail
                      go_loopw [122] (fun i W => ∃ j : Nat, i = .int .i64 j ∧ j + 2 ≤ 2 * n7 ∧ TQ w l W w.heap.size (some ⟨g7, o7, none⟩) n7 c7 bq g12 o12 n12 c12 La lim j (cntJ l n7 lim j 0 (.leaf 0))) (fun i _ => 2 * n7 - (intOf i).toNat)
                      case atStart => exact ⟨0, rfl, by omega, HT0.out⟩
                      case round =>
                        clear HT0
                        obtain ⟨j, rfl, hj, ht⟩ := hrel
                        have HT := Lib.hid ht
                        clear ht
                        by_cases hjm : j + 2 < 2 * n7
                        · obtain ⟨x, tx, hx, htx, hdr, hsr, hix⟩ := HT.out.one (by omega)
                          obtain ⟨r', hr'⟩ : ∃ r', n12 - j = r' + 1 := ⟨n12 - j - 1, by omega⟩
                          have hh := HT.out.hp
                          rw [hdr, hr'] at hh
                          rw [hdr] at hsr
                          have HR' := Lib.hid hr'
                          have HX := Lib.hid hx
                          have HTX := Lib.hid htx
                          have HSR := Lib.hid hsr
                          have HH := Lib.hid hh
                          have HIX := Lib.hid hix
                          clear hr' hx htx hdr hsr hh hix
                          go_wp2_with fail
                          refine (take_any wr bq g12 o12 r' c12 x _ HH.out HSR.out (by have := HR'.out; omega)).mono ?_
                          rintro e w5 ⟨rfl, hh5, hk5⟩
                          have ht5 := HT.out.taken hk5 (by omega) (by rw [show n12 - (j + 1) = r' from by have := HR'.out; omega]; exact hh5)
                          have hix5 := ht5.items.is j x tx HX.out HTX.out
                          obtain ⟨xw, xn, xA, xm, xc⟩ := x
                          have hxm : n7 = xm := by
                            obtain ⟨_, n1, _, he, h1, _⟩ := hix5.2.len
                            simp only [Value.slice.injEq] at he
                            obtain ⟨_, rfl, _⟩ := he
                            simpa [Tr.uses_len] using h1
                          subst hxm
                          obtain ⟨gx, ox, hgx⟩ := hix5.2.isSome (show 0 < n7 by omega)
                          subst hgx
                          have hxc : n7 ≤ xc ∧ xc ≤ 9223372036854775807 := by
                            obtain ⟨_, n1, _, he, _, h2, h3⟩ := hix5.2.len
                            simp only [Value.slice.injEq] at he
                            obtain ⟨_, rfl, rfl⟩ := he
                            exact ⟨h2, h3⟩
                          rw [cntJ_zero l n7 lim j (.leaf 0) tx] at ht5
                          have HT5 := Lib.hid ht5
                          clear hix5 ht5 hh5 hk5
                          have hfi := field85 (.int .i64 xw) (.int .i64 xn) (.slice (some ⟨gx, ox, none⟩) n7 xc) w5
                          go_wp2_with fail
                          clear hfi
                          go_loopw [127] (fun i W => ∃ q : Nat, i = .int .i64 q ∧ q ≤ n7 ∧ TQ w l W w.heap.size (some ⟨g7, o7, none⟩) n7 c7 bq g12 o12 n12 c12 La lim (j + 1) (cntJ l n7 lim j q tx)) (fun i _ => n7 - (intOf i).toNat)
                          case atStart => exact ⟨0, rfl, by omega, HT5.out⟩
                          case round =>
                            clear HT5
                            obtain ⟨q, rfl, hqn, ht⟩ := hrel
                            by_cases hql : q < n7
                            · obtain ⟨s, hs⟩ : ∃ s, s = (usedL l)[q]'(by rw [HM.out]; exact hql) := ⟨_, rfl⟩
                              obtain ⟨q1, q2, q3⟩ := usedL_get (l := l) (k := q) (by rw [HM.out]; exact hql)
                              have qo := outOf_used (l := l) (c := cntJ l n7 lim j q tx) (k := q) (by rw [HM.out]; exact hql)
                              have qs := outOf_set (l := l) (c := cntJ l n7 lim j q tx) (k := q) (by rw [HM.out]; exact hql) (sumT (Tr.use q) ((sortT (wtOf l) (lev (wtOf l) n7 lim)).take j) + tx.use q)
                              rw [cntJ_step] at qs
                              rw [← hs] at q1 q2 q3 qo qs
                              have hcq : cntJ l n7 lim j q tx q = sumT (Tr.use q) ((sortT (wtOf l) (lev (wtOf l) n7 lim)).take j) := by unfold cntJ; rw [if_neg (by omega), Int.add_zero]
                              rw [hcq] at qo
                              have hsn : s < n := by have := HL.out; omega
                              have e0 : wr.cell? ⟨g7, o7 + q, none⟩ = some (.int .i64 s) := ht.own.cellAt (by rw [List.getElem?_map, q1]; rfl)
                              have e1 : wr.cell? ⟨gx, ox + q, none⟩ = some (.int .i64 (tx.use q)) := (ht.items.is j _ tx HX.out HTX.out).2.cellAt (by rw [List.getElem?_map, Tr.uses_get _ hql]; rfl)
                              have e2 : wr.cell? ⟨w.heap.size, s, none⟩ = some (.int .u8 (sumT (Tr.use q) ((sortT (wtOf l) (lev (wtOf l) n7 lim)).take j))) := by
                                have := ht.out.cellAt (j := s) (by rw [List.getElem?_map, qo]; rfl)
                                rwa [Nat.zero_add] at this
                              have ef : ∀ o, wr.frozen? ⟨w.heap.size, o, none⟩ = false := fun o => ht.out.frozenAt o
                              have hst := ht.out.store s (.int .u8 (sumT (Tr.use q) ((sortT (wtOf l) (lev (wtOf l) n7 lim)).take j) + tx.use q))
                              rw [← List.map_set, qs, Nat.zero_add] at hst
                              have hbd := cnt_bound (l := l) (lim := lim) (j := j) (q := q) (t := tx) (by rw [HM.out]; exact HTX.out)
                              rw [HM.out] at hbd
                              have hun := tx.use_nn q
                              have HT6 := Lib.hid ht
                              have HST := Lib.hid hst
                              clear hs q1 q2 q3 qo qs hcq ht hst
                              generalize sumT (Tr.use q) ((sortT (wtOf l) (lev (wtOf l) n7 lim)).take j) = cv at *
                              generalize tx.use q = uv at *
                              obtain ⟨hb1, hb2⟩ := hbd
                              go_wp2_with fail
                              go_roundw
                              case rel => exact ⟨q + 1, by go_num, by omega, HT6.out.counted ((Kp.refl (fun k => k = w.heap.size) wr).setCell _ _ (fun _ => rfl)) HST.out⟩
                              case measure => simp [intOf]; omega
                            · have ht9 : TQ w l wr w.heap.size (some ⟨g7, o7, none⟩) n7 c7 bq g12 o12 n12 c12 La lim (j + 1) (cntJ l n7 lim (j + 1) 0 (.leaf 0)) := by
                                refine { ht with out := ?_ }
                                have h1 := ht.out
                                rwa [outOf_congr (c' := cntJ l n7 lim (j + 1) 0 (.leaf 0)) (fun k hk => by rw [show q = n7 from by omega]; exact cntJ_next HTX.out (by rw [HM.out] at hk; exact hk) (.leaf 0))] at h1
                              have HT9 := Lib.hid ht9
                              clear ht ht9
                              go_wp2_with fail
                              go_roundw
                              case rel => exact ⟨j + 1, by go_num, by omega, HT9.out⟩
                              case measure => simp [intOf]; omega
                        · have hj2 : j = 2 * n7 - 2 := by omega
                          have HJ2 := Lib.hid hj2
                          clear hj2
                          go_wp2_with fail
                          go_ret2
                          refine (HLP.out _ _).2 (.inr (.inr ⟨c5, c4, some ⟨w.heap.size, 0, none⟩, n, n, rfl, ?_, HT.out.kp, by simp [Value.ownBlock]⟩))
                          have h1 := HT.out.out
                          have h2 : cntJ l n7 lim j 0 (.leaf 0) = cntOf l lim := by
                            funext k
                            unfold cntJ cntOf taken
                            rw [HM.out, HJ2.out, if_neg (by omega), Int.add_zero]
                          rw [h2, HL.out] at h1
                          exact h1
end Go.Proofs.Ytnhinhcgdchdkaa
