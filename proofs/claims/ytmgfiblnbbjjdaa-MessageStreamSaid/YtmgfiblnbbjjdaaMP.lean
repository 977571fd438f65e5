/- Plain: what a pen has written it reads as it was. -/
import Derived.Test.YtmgfiblnbbjjdaaMJ
set_option linter.unusedSimpArgs false
set_option linter.unusedVariables false
namespace Go.Proofs.Ytmgfiblnbbjjdaa
open Go

theorem rd_enc (n : Nat) (v : Int) (rest : List Int) (hn : Num (Enc n v) = v) :
    nB false (Enc n v ++ rest) n = false ∧ nV false (Enc n v ++ rest) n = v ∧ nL false (Enc n v ++ rest) n = rest := by
  have h : nB false (Enc n v ++ rest) n = false := by simp [nB, Enc_len]
  refine ⟨h, ?_, ?_⟩
  · unfold nV; rw [h]; simp only [Bool.false_eq_true, if_false]
    rw [List.take_append_of_le_length (by rw [Enc_len]; exact Nat.le_refl _), List.take_of_length_le (by rw [Enc_len]; exact Nat.le_refl _), hn]
  · unfold nL; rw [h]; simp only [Bool.false_eq_true, if_false]
    rw [List.drop_append_of_le_length (by rw [Enc_len]; exact Nat.le_refl _), List.drop_of_length_le (by rw [Enc_len]; exact Nat.le_refl _)]; rfl

section
variable (m : Mg) (sums body rest : List Int) (v : Int) (f : Mg → Int → Mg) (n : Nat)
theorem num_wr (l : List Int) : St.num true ⟨false, l, m, sums, body⟩ v n f = ⟨false, l ++ Enc n v, f m v, sums, body⟩ := by simp [St.num, nb, nl, nv]
theorem num_rd (x : Int) (hn : Num (Enc n v) = v) : St.num false ⟨false, Enc n v ++ rest, m, sums, body⟩ x n f = ⟨false, rest, f m v, sums, body⟩ := by
  have h := rd_enc n v rest hn
  simp [St.num, nb, nl, nv, h.1, h.2.1, h.2.2]
theorem num_rd0 (x : Int) (hn : Num (Enc n v) = v) : St.num false ⟨false, Enc n v, m, sums, body⟩ x n f = ⟨false, [], f m v, sums, body⟩ := by
  have h := num_rd m sums body [] v f n x hn
  rwa [List.append_nil] at h
theorem tr_wr (l : List Int) (x : Bool) (g : Mg → Bool → Mg) : St.tr true ⟨false, l, m, sums, body⟩ x g = ⟨false, l ++ Enc 1 (if x then 1 else 0), g m x, sums, body⟩ := by
  cases x <;> simp [St.tr, nb, nl, nv]
theorem tr_rd (y x : Bool) (g : Mg → Bool → Mg) : St.tr false ⟨false, Enc 1 (if x then 1 else 0) ++ rest, m, sums, body⟩ y g = ⟨false, rest, g m x, sums, body⟩ := by
  have h := rd_enc 1 (if x then 1 else 0) rest (Enc1 _ (by split <;> omega) (by split <;> omega))
  cases x <;> simp [St.tr, nb, nl, nv] at h ⊢ <;> simp [h.1, h.2.1, h.2.2]
end

def encs (xs : List Int) : List Int := xs.flatMap (Enc 4)
theorem encs_snoc (xs : List Int) (x : Int) : encs (xs ++ [x]) = encs xs ++ Enc 4 x := by simp [encs]

theorem sumsTo_wr (m : Mg) (sums body l : List Int) (k : Nat) (hk : k ≤ sums.length) : (St.sumsTo true ⟨false, l, m, sums, body⟩ k) = ⟨false, l ++ encs (sums.take k), m, sums, body⟩ := by
  induction k with
  | zero => simp [St.sumsTo, encs]
  | succ k ih =>
    rw [St.sumsTo, ih (by omega)]
    have hs : sums.take (k + 1) = sums.take k ++ [sums.getD k 0] := by
      rw [List.take_succ_eq_append_getElem (by omega)]; simp [List.getD_eq_getElem?_getD, List.getElem?_eq_getElem (show k < sums.length by omega)]
    simp only [St.sumStep, nb, nl, nv, if_true, hs, encs_snoc, List.append_assoc]
    congr 1
    apply List.ext_getElem?
    intro j
    rw [List.getElem?_set]
    by_cases h : k = j
    · subst h; simp [List.getD_eq_getElem?_getD, show k < sums.length by omega]
    · simp [h]

theorem sumsTo_rd (m : Mg) (sums body rest : List Int) (hs : ∀ c ∈ sums, 0 ≤ c ∧ c < 4294967296) (k : Nat) (hk : k ≤ sums.length) :
    (St.sumsTo false ⟨false, encs sums ++ rest, m, List.replicate sums.length 0, body⟩ k) = ⟨false, encs (sums.drop k) ++ rest, m, sums.take k ++ List.replicate (sums.length - k) 0, body⟩ := by
  induction k with
  | zero => simp [St.sumsTo]
  | succ k ih =>
    rw [St.sumsTo, ih (by omega)]
    have hlt : k < sums.length := by omega
    have hd : sums.drop k = sums[k] :: sums.drop (k + 1) := List.drop_eq_getElem_cons hlt
    have hb := hs sums[k] (List.getElem_mem hlt)
    have he : encs (sums.drop k) ++ rest = Enc 4 sums[k] ++ (encs (sums.drop (k + 1)) ++ rest) := by rw [hd]; simp only [encs, List.flatMap_cons, List.append_assoc]
    have h := rd_enc 4 sums[k] (encs (sums.drop (k + 1)) ++ rest) (Enc4 _ hb.1 hb.2)
    simp only [St.sumStep, nb, nl, nv, Bool.false_eq_true, if_false, he, h.1, h.2.1, h.2.2]
    congr 1
    rw [List.take_succ_eq_append_getElem hlt, List.append_assoc, List.set_append, if_neg (by simp; omega)]
    congr 1
    rw [show k - (List.take k sums).length = 0 from by rw [List.length_take]; omega, show sums.length - k = sums.length - (k + 1) + 1 from by omega, List.replicate_succ]
    rfl

theorem sums_wr' (m : Mg) (sums body l : List Int) (h : sums.length ≤ 256) : St.sumsF true ⟨false, l, m, sums, body⟩ = ⟨false, l ++ Enc 2 sums.length ++ encs sums, m, sums, body⟩ := by
  have hh : St.sumsHead true ⟨false, l, m, sums, body⟩ = ⟨false, l ++ Enc 2 sums.length, m, sums, body⟩ := by
    simp [St.sumsHead, St.sumsBad, St.sumsN, nb, nl, nv]; omega
  rw [St.sumsF, hh, sumsTo_wr _ _ _ _ _ (Nat.le_refl _)]
  simp

theorem sums_rd' (m : Mg) (sums body rest : List Int) (h : sums.length ≤ 256) (hs : ∀ c ∈ sums, 0 ≤ c ∧ c < 4294967296) :
    St.sumsF false ⟨false, Enc 2 sums.length ++ encs sums ++ rest, m, [], body⟩ = ⟨false, rest, m, sums, body⟩ := by
  have h2 := rd_enc 2 (sums.length : Int) (encs sums ++ rest) (Enc2 _ (by omega) (by omega))
  have hh : St.sumsHead false ⟨false, Enc 2 sums.length ++ encs sums ++ rest, m, [], body⟩ = ⟨false, encs sums ++ rest, m, List.replicate sums.length 0, body⟩ := by
    simp [St.sumsHead, St.sumsBad, St.sumsN, nb, nl, nv, h2.1, h2.2.1, h2.2.2]; omega
  rw [St.sumsF, hh]
  simp only [List.length_replicate]
  rw [sumsTo_rd _ _ _ _ hs _ (Nat.le_refl _)]
  simp [encs]

theorem sums_rd0 (m : Mg) (sums body : List Int) (h : sums.length ≤ 256) (hs : ∀ c ∈ sums, 0 ≤ c ∧ c < 4294967296) :
    St.sumsF false ⟨false, Enc 2 sums.length ++ encs sums, m, [], body⟩ = ⟨false, [], m, sums, body⟩ := by
  have := sums_rd' m sums body [] h hs
  rwa [List.append_nil] at this

/-- A message of a type: no other fields. -/
def Mg.bare (ty : Int) : Mg := ⟨ty, 0, 0, 0, false, false, 0, 0, 0, 0, 0, 0, 0⟩
def ofM (m : Mg) : Mg :=
  if m.ty = 1 then { Mg.bare 1 with life := m.life, has := m.has, frame := m.frame }
  else if m.ty = 2 then { Mg.bare 2 with life := m.life, w := m.w, h := m.h, seq := m.seq }
  else if m.ty = 4 then { Mg.bare 4 with base := m.base, frame := m.frame, full := m.full }
  else if m.ty = 5 then { Mg.bare 5 with seq := m.seq, ek := m.ek, ex := m.ex, ey := m.ey, ec := m.ec }
  else if m.ty = 6 then { Mg.bare 6 with seq := m.seq }
  else Mg.bare m.ty
def ofS (m : Mg) (sums : List Int) : List Int := if m.ty = 1 then sums else []
def ofB (m : Mg) (body : List Int) : List Int := if m.ty = 4 then body else []

def known (ty : Int) : Prop := ty = 1 ∨ ty = 2 ∨ ty = 3 ∨ ty = 4 ∨ ty = 5 ∨ ty = 6

/-- The bytes of a message's body. -/
def encOf (m : Mg) (sums body : List Int) : List Int := (acts true (fns m.ty) ⟨false, [], ofM m, ofS m sums, ofB m body⟩).l

theorem roundtrip (m : Mg) (sums body : List Int) (hok : m.ok) (hk : known m.ty) (hs : ∀ c ∈ sums, 0 ≤ c ∧ c < 4294967296) (hl : sums.length ≤ 256) :
    (acts true (fns m.ty) ⟨false, [], ofM m, ofS m sums, ofB m body⟩).bad = false ∧
    acts false (fns m.ty) ⟨false, encOf m sums body, Mg.bare m.ty, [], []⟩ = ⟨false, [], ofM m, ofS m sums, ofB m body⟩ := by
  have e32 := fun (x : Int) (h : 0 ≤ x ∧ x < 4294967296) => Enc4 x h.1 h.2
  have e16 := fun (x : Int) (h : 0 ≤ x ∧ x < 65536) => Enc2 x h.1 h.2
  have e8 := fun (x : Int) (h : 0 ≤ x ∧ x < 256) => Enc1 x h.1 h.2
  obtain ⟨ty, life, frame, base, has, full, w, h, seq, ek, ex, ey, ec⟩ := m
  obtain ⟨k0, k1, k2, k3, k4, k5, k6, k7, k8, k9, k10⟩ := hok
  simp only at k0 k1 k2 k3 k4 k5 k6 k7 k8 k9 k10 hk
  rcases hk with rfl | rfl | rfl | rfl | rfl | rfl
  · simp [encOf, fns, acts, List.foldl_cons, List.foldl_nil, act, ofM, ofS, ofB, Mg.bare, if_true, St.life, St.has, St.frame, St.base, St.full, St.seq, St.size, St.w, St.h, St.event, St.ek, St.ex, St.ey, St.ec, St.bodyF, num_wr, tr_wr, sums_wr' _ _ _ _ hl, List.nil_append, List.append_assoc, num_rd, num_rd0, tr_rd, sums_rd0 _ _ _ hl hs, e32 _ k1, e32 _ k2, e32 _ k3, e32 _ k6, e32 _ k10, e16 _ k4, e16 _ k5, e16 _ k8, e16 _ k9, e8 _ k7]
  · simp [encOf, fns, acts, List.foldl_cons, List.foldl_nil, act, ofM, ofS, ofB, Mg.bare, if_true, St.life, St.has, St.frame, St.base, St.full, St.seq, St.size, St.w, St.h, St.event, St.ek, St.ex, St.ey, St.ec, St.bodyF, num_wr, tr_wr, sums_wr' _ _ _ _ hl, List.nil_append, List.append_assoc, num_rd, num_rd0, tr_rd, sums_rd0 _ _ _ hl hs, e32 _ k1, e32 _ k2, e32 _ k3, e32 _ k6, e32 _ k10, e16 _ k4, e16 _ k5, e16 _ k8, e16 _ k9, e8 _ k7]
  · simp [encOf, fns, acts, List.foldl_cons, List.foldl_nil, act, ofM, ofS, ofB, Mg.bare, if_true, St.life, St.has, St.frame, St.base, St.full, St.seq, St.size, St.w, St.h, St.event, St.ek, St.ex, St.ey, St.ec, St.bodyF, num_wr, tr_wr, sums_wr' _ _ _ _ hl, List.nil_append, List.append_assoc, num_rd, num_rd0, tr_rd, sums_rd0 _ _ _ hl hs, e32 _ k1, e32 _ k2, e32 _ k3, e32 _ k6, e32 _ k10, e16 _ k4, e16 _ k5, e16 _ k8, e16 _ k9, e8 _ k7]
  · simp [encOf, fns, acts, List.foldl_cons, List.foldl_nil, act, ofM, ofS, ofB, Mg.bare, if_true, St.life, St.has, St.frame, St.base, St.full, St.seq, St.size, St.w, St.h, St.event, St.ek, St.ex, St.ey, St.ec, St.bodyF, num_wr, tr_wr, sums_wr' _ _ _ _ hl, List.nil_append, List.append_assoc, num_rd, num_rd0, tr_rd, sums_rd0 _ _ _ hl hs, e32 _ k1, e32 _ k2, e32 _ k3, e32 _ k6, e32 _ k10, e16 _ k4, e16 _ k5, e16 _ k8, e16 _ k9, e8 _ k7]
  · simp [encOf, fns, acts, List.foldl_cons, List.foldl_nil, act, ofM, ofS, ofB, Mg.bare, if_true, St.life, St.has, St.frame, St.base, St.full, St.seq, St.size, St.w, St.h, St.event, St.ek, St.ex, St.ey, St.ec, St.bodyF, num_wr, tr_wr, sums_wr' _ _ _ _ hl, List.nil_append, List.append_assoc, num_rd, num_rd0, tr_rd, sums_rd0 _ _ _ hl hs, e32 _ k1, e32 _ k2, e32 _ k3, e32 _ k6, e32 _ k10, e16 _ k4, e16 _ k5, e16 _ k8, e16 _ k9, e8 _ k7]
  · simp [encOf, fns, acts, List.foldl_cons, List.foldl_nil, act, ofM, ofS, ofB, Mg.bare, if_true, St.life, St.has, St.frame, St.base, St.full, St.seq, St.size, St.w, St.h, St.event, St.ek, St.ex, St.ey, St.ec, St.bodyF, num_wr, tr_wr, sums_wr' _ _ _ _ hl, List.nil_append, List.append_assoc, num_rd, num_rd0, tr_rd, sums_rd0 _ _ _ hl hs, e32 _ k1, e32 _ k2, e32 _ k3, e32 _ k6, e32 _ k10, e16 _ k4, e16 _ k5, e16 _ k8, e16 _ k9, e8 _ k7]
end Go.Proofs.Ytmgfiblnbbjjdaa
