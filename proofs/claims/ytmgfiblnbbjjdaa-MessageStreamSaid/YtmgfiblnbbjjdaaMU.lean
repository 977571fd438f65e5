/- Messages one behind the other, as bytes. -/
import Derived.Test.YtmgfiblnbbjjdaaMT
set_option linter.unusedSimpArgs false
set_option linter.unusedVariables false
namespace Go.Proofs.Ytmgfiblnbbjjdaa
open Go Go.Proofs Go.RowKit

theorem encs_len (xs : List Int) : (encs xs).length = 4 * xs.length := by
  induction xs with
  | nil => rfl
  | cons x xs ih => simp only [encs, List.flatMap_cons, List.length_append, Enc_len, List.length_cons] at ih ⊢; omega
theorem encs_byts (xs : List Int) : Byts (encs xs) := by
  intro c hc
  simp only [encs, List.mem_flatMap] at hc
  obtain ⟨x, _, hx⟩ := hc
  exact Enc_byts 4 x c hx

/-- A message that may be. -/
structure MOk (m : Mg) (sums body : List Int) : Prop where
  ok : m.ok
  ty : known m.ty
  s32 : ∀ c ∈ sums, 0 ≤ c ∧ c < 4294967296
  sl : sums.length ≤ 256
  by8 : Byts body
  bl : body.length ≤ 500

theorem encOf_ok {m : Mg} {sums body : List Int} (h : MOk m sums body) : (encOf m sums body).length ≤ 2000 ∧ Byts (encOf m sums body) := by
  obtain ⟨hok, hk, hs, hl, hb, hbl⟩ := h
  obtain ⟨ty, life, frame, base, has, full, w, h, seq, ek, ex, ey, ec⟩ := m
  simp only at hk
  rcases hk with rfl | rfl | rfl | rfl | rfl | rfl
  all_goals
    simp [encOf, fns, acts, act, ofM, ofS, ofB, Mg.bare, St.life, St.has, St.frame, St.base, St.full, St.seq, St.size, St.w, St.h, St.event, St.ek, St.ex, St.ey, St.ec, St.bodyF, num_wr, tr_wr, sums_wr' _ _ _ _ hl]
  all_goals first
    | exact ⟨by simp [Enc_len, encs_len] <;> omega, by repeat (first | exact Enc_byts _ _ | exact encs_byts _ | exact hb | refine Byts.append ?_ ?_)⟩
    | (intro c hc; simp at hc)

/-- A message's bytes. -/
def fr (m : Mg) (sums body : List Int) : List Int := Enc 1 m.ty ++ Enc 4 (encOf m sums body).length ++ encOf m sums body

theorem fr_len (m : Mg) (sums body : List Int) : (fr m sums body).length = 5 + (encOf m sums body).length := by simp [fr, Enc_len]; omega
theorem fr_byts {m : Mg} {sums body : List Int} (h : MOk m sums body) : Byts (fr m sums body) := ((Enc_byts _ _).append (Enc_byts _ _)).append (encOf_ok h).2

theorem Enc1_head {ty : Int} (h : 0 ≤ ty ∧ ty < 256) : Enc 1 ty = [ty] := by simp [Enc, List.range_succ]; omega

theorem ofM_ty (m : Mg) : (ofM m).ty = m.ty := by
  unfold ofM
  repeat (split; simp_all [Mg.bare])
  rfl

section
variable {m : Mg} {sums body p rest : List Int} (h : MOk m sums body)
include h

theorem fr_cons : fr m sums body = m.ty :: (Enc 4 (encOf m sums body).length ++ encOf m sums body) := by
  rw [fr, Enc1_head h.ok.ty]; rfl

theorem fr_num (hl : 5 ≤ p.length) (hp : p ++ rest = fr m sums body ∨ p = fr m sums body ++ rest) : Num ((p.drop 1).take 4) = ((encOf m sums body).length : Int) := by
  have hE : Num (Enc 4 ((encOf m sums body).length : Int)) = ((encOf m sums body).length : Int) := Enc4 _ (by omega) (by have := (encOf_ok h).1; omega)
  have hx : (p.drop 1).take 4 = Enc 4 ((encOf m sums body).length : Int) := by
    rcases hp with hp | hp
    · have h1 : p = (fr m sums body).take p.length := by rw [← hp]; simp
      rw [h1, fr_cons h]
      obtain ⟨k, hk⟩ : ∃ k, p.length = k + 5 := ⟨p.length - 5, by omega⟩
      rw [hk]
      simp only [List.take_succ_cons, List.drop_succ_cons, List.drop_zero]
      rw [List.take_take, Nat.min_eq_left (by omega), List.take_append_of_le_length (by rw [Enc_len]; exact Nat.le_refl _), List.take_of_length_le (by rw [Enc_len]; exact Nat.le_refl _)]
    · rw [hp, fr_cons h]
      simp only [List.cons_append, List.drop_succ_cons, List.drop_zero, List.append_assoc]
      rw [List.take_append_of_le_length (by rw [Enc_len]; exact Nat.le_refl _), List.take_of_length_le (by rw [Enc_len]; exact Nat.le_refl _)]
  rw [hx, hE]

theorem fr_head (hl : p ≠ []) (hp : p ++ rest = fr m sums body ∨ p = fr m sums body ++ rest) : p.headD 0 = m.ty := by
  rcases hp with hp | hp
  · rw [fr_cons h] at hp
    cases p with
    | nil => exact absurd rfl hl
    | cons x p => simp at hp; simp [hp.1]
  · rw [hp, fr_cons h]; rfl

/-- 'Read' of a part of a message. -/
theorem Read_part (w : World) (A : Option Addr) (n c : Nat) (hr : RdI w .u8 (.slice A n c) p) (hrest : rest ≠ []) (hp : p ++ rest = fr m sums body) :
    Calls Try.prog 6 #[.slice A n c] w fun e w' => e = .returned (.tuple #[.agg zeroM, .int .i64 0, .int .i64 0]) ∧ Kp (fun _ => False) w w' := by
  obtain ⟨hn, hnc, hc⟩ := hr.n
  by_cases h0 : p = []
  · subst h0
    simp at hn
    subst hn
    exact Read_nil w A c
  have hn1 : 1 ≤ n := by
    cases p with
    | nil => exact absurd rfl h0
    | cons x p => simp at hn; omega
  obtain ⟨g, off, rfl, hcell⟩ := hr.first h0
  rw [fr_head h h0 (.inl hp)] at hcell
  by_cases h5 : n < 5
  · exact Read_short w g off n c m.ty h.ty hcell hn1 h5 hnc
  have hnum := fr_num h (by omega) (.inl hp)
  have hlen : p.length + rest.length = 5 + (encOf m sums body).length := by rw [← fr_len, ← hp]; simp
  have hrl : 1 ≤ rest.length := by
    cases rest with
    | nil => exact absurd rfl hrest
    | cons x r => simp
  have hby : Byts p := fun x hx => fr_byts h x (by rw [← hp]; simp [hx])
  refine Read_wait w g off n c m.ty p h.ty hr (fr_head h h0 (.inl hp)) hby (by omega) ?_ ?_
  · rw [hnum]; have := (encOf_ok h).1; omega
  · rw [hnum]; omega

/-- 'Read' of a message, and whatever stands behind. -/
theorem Read_msg (w : World) (A : Option Addr) (n c : Nat) (hr : RdI w .u8 (.slice A n c) p) (hp : p = fr m sums body ++ rest) (hby : Byts rest) :
    Calls Try.prog 6 #[.slice A n c] w fun e w' => ∃ S sn sc D dn dc, e = .returned (.tuple #[.agg ((ofM m).cells (.slice S sn sc) (.slice D dn dc)).toArray, .int .i64 (fr m sums body).length, .int .i64 0]) ∧
      RdI w' .u32 (.slice S sn sc) (ofS m sums) ∧ RdI w' .u8 (.slice D dn dc) (ofB m body) ∧ Kp (fun _ => False) w w' := by
  obtain ⟨hn, hnc, hc⟩ := hr.n
  have h0 : p ≠ [] := by rw [hp, fr_cons h]; simp
  obtain ⟨g, off, rfl, hcell⟩ := hr.first h0
  have hlen : p.length = 5 + (encOf m sums body).length + rest.length := by rw [hp, List.length_append, fr_len]
  have hnum := fr_num h (by omega) (.inr hp)
  have hmid : (p.drop 5).take (encOf m sums body).length = encOf m sums body := by
    rw [hp, fr, List.append_assoc, List.append_assoc, ← List.append_assoc (Enc 1 m.ty), List.drop_append, List.drop_of_length_le (by simp [Enc_len]), List.nil_append]
    simp [Enc_len]
  have hrt := (roundtrip m sums body h.ok h.ty h.s32 h.sl).2
  refine (Read_full w g off n c m.ty p (ofM m) (ofS m sums) (ofB m body) (encOf m sums body).length h.ty hr (fr_head h h0 (.inr hp)) ?_ (by omega) (by have := (encOf_ok h).1; omega) hnum h.ok.ty ?_).mono ?_
  · rw [hp]; exact (fr_byts h).append hby
  · rw [hmid]; exact hrt
  · rintro e w' ⟨S, sn, sc, D, dn, dc, rfl, h1, h2, h3⟩
    refine ⟨S, sn, sc, D, dn, dc, ?_, h1, h2, h3⟩
    rw [fr_len]; simp

theorem ofM_ok : (ofM m).ok := by
  have k := h.ok
  have b0 : ∀ n : Int, 0 < n → 0 ≤ (0 : Int) ∧ (0 : Int) < n := fun n hn => ⟨Int.le_refl _, hn⟩
  unfold ofM
  split
  · exact ⟨by simp [Mg.bare], k.life, k.frame, b0 _ (by omega), b0 _ (by omega), b0 _ (by omega), b0 _ (by omega), b0 _ (by omega), b0 _ (by omega), b0 _ (by omega), b0 _ (by omega)⟩
  split
  · exact ⟨by simp [Mg.bare], k.life, b0 _ (by omega), b0 _ (by omega), k.w, k.h, k.seq, b0 _ (by omega), b0 _ (by omega), b0 _ (by omega), b0 _ (by omega)⟩
  split
  · exact ⟨by simp [Mg.bare], b0 _ (by omega), k.frame, k.base, b0 _ (by omega), b0 _ (by omega), b0 _ (by omega), b0 _ (by omega), b0 _ (by omega), b0 _ (by omega), b0 _ (by omega)⟩
  split
  · exact ⟨by simp [Mg.bare], b0 _ (by omega), b0 _ (by omega), b0 _ (by omega), b0 _ (by omega), b0 _ (by omega), k.seq, k.ek, k.ex, k.ey, k.ec⟩
  split
  · exact ⟨by simp [Mg.bare], b0 _ (by omega), b0 _ (by omega), b0 _ (by omega), b0 _ (by omega), b0 _ (by omega), k.seq, b0 _ (by omega), b0 _ (by omega), b0 _ (by omega), b0 _ (by omega)⟩
  · exact ⟨k.ty, b0 _ (by omega), b0 _ (by omega), b0 _ (by omega), b0 _ (by omega), b0 _ (by omega), b0 _ (by omega), b0 _ (by omega), b0 _ (by omega), b0 _ (by omega), b0 _ (by omega)⟩

/-- 'Write' of a message of its type. -/
theorem Write_of (w : World) (sA dA : Option Addr) (sn sc dn dc : Nat) (hs : RdI w .u32 (.slice sA sn sc) (ofS m sums)) (hd : RdI w .u8 (.slice dA dn dc) (ofB m body)) :
    Calls Try.prog 5 #[.agg ((ofM m).cells (.slice sA sn sc) (.slice dA dn dc)).toArray] w fun e w' => ∃ A n c, e = .returned (.tuple #[.slice A n c, .int .i64 0]) ∧
      Own w' 5 1 (.slice A n c) ((fr m sums body).map (Value.int .u8)) ∧ Kp (fun _ => False) w w' ∧ (∀ k, (Value.slice A n c).ownBlock = some k → w.heap.size ≤ k) := by
  have hrt := (roundtrip m sums body h.ok h.ty h.s32 h.sl).2
  have hen := encOf_ok h
  have e1 : (acts true (fns (ofM m).ty) ⟨false, [], ofM m, ofS m sums, ofB m body⟩).l = encOf m sums body := by rw [ofM_ty m]; rfl
  have hw := Write_ok w (ofM m) sA dA sn sc dn dc (ofS m sums) (ofB m body) hs hd (by rw [ofM_ty m]; exact h.ty) (ofM_ok h) (by unfold ofS; split; exact h.sl; simp) (by unfold ofB; split; have := h.bl; omega; simp)
    (by unfold ofS; split; exact h.s32; simp) (by unfold ofB; split; exact h.by8; intro c hc; simp at hc) (by rw [e1, ofM_ty m]; exact hrt) (by rw [e1]; omega) (by rw [e1]; exact hen.2)
  rw [e1, ofM_ty m] at hw
  exact hw
end
end Go.Proofs.Ytmgfiblnbbjjdaa
