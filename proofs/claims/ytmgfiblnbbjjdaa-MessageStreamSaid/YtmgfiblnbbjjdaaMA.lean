/- Plain words for messages: numbers as bytes, the greatest first. No program in sight. -/
import Derived.Laws.BitsAllLaws
import Derived.WalkKit
set_option linter.unusedSimpArgs false
set_option linter.unusedVariables false
namespace Go.Proofs.Ytmgfiblnbbjjdaa
open Go

def Num (l : List Int) : Int := l.foldl (fun v c => v * 256 + c) 0
def Byts (l : List Int) : Prop := ∀ c ∈ l, 0 ≤ c ∧ c < 256

theorem Num_snoc (l : List Int) (c : Int) : Num (l ++ [c]) = Num l * 256 + c := by simp [Num, List.foldl_append]

theorem take_snoc' (l : List Int) (k : Nat) (h : k < l.length) : l.take (k + 1) = l.take k ++ [l[k]?.getD 0] := by
  rw [List.take_succ_eq_append_getElem h]; simp [h]

theorem Byts.at {l : List Int} (h : Byts l) (k : Nat) (hk : k < l.length) : 0 ≤ l[k]?.getD 0 ∧ l[k]?.getD 0 < 256 := by
  rw [List.getElem?_eq_getElem hk]; exact h _ (List.getElem_mem hk)
theorem Byts.take {l : List Int} (h : Byts l) (n : Nat) : Byts (l.take n) := fun c hc => h c (List.mem_of_mem_take hc)
theorem Byts.drop {l : List Int} (h : Byts l) (n : Nat) : Byts (l.drop n) := fun c hc => h c (List.mem_of_mem_drop hc)
theorem Byts.append {l m : List Int} (h : Byts l) (k : Byts m) : Byts (l ++ m) := fun c hc => (List.mem_append.1 hc).elim (h c) (k c)

theorem snocInd {α : Type} {p : List α → Prop} (h0 : p []) (hs : ∀ l c, p l → p (l ++ [c])) (l : List α) : p l := by
  have : ∀ m : List α, p m.reverse := fun m => by
    induction m with
    | nil => exact h0
    | cons c m ih => rw [List.reverse_cons]; exact hs _ _ ih
  simpa using this l.reverse

theorem Num_nonneg {l : List Int} (h : Byts l) : 0 ≤ Num l := by
  revert h
  induction l using snocInd with
  | h0 => simp [Num]
  | hs l c ih =>
    intro h
    rw [Num_snoc]
    have h1 := ih fun x hx => h x (by simp [hx])
    have h2 := h c (by simp)
    omega

theorem Num_lt {l : List Int} (h : Byts l) : Num l < 256 ^ l.length := by
  revert h
  induction l using snocInd with
  | h0 => simp [Num]
  | hs l c ih =>
    intro h
    rw [Num_snoc, List.length_append, List.length_singleton, Int.pow_succ]
    have h1 := ih fun x hx => h x (by simp [hx])
    have h2 := h c (by simp)
    omega

theorem pow_le7 {n : Nat} (hn : n ≤ 7) : (256 : Int) ^ n ≤ 72057594037927936 := by
  have h : ((256 ^ n : Nat) : Int) ≤ ((256 ^ 7 : Nat) : Int) := by exact_mod_cast Nat.pow_le_pow_right (by omega) hn
  simpa using h

/-- 'v << 8 | c'. -/
theorem or_byte {v c : Int} (h0 : 0 ≤ v) (h1 : v < 72057594037927936) (h2 : 0 ≤ c) (h3 : c < 256) :
    bits .or .u64 (IntKind.u64.wrap (v * 256)) (IntKind.u64.wrap c) = v * 256 + c := by
  rw [IntKind.wrap_u64, IntKind.wrap_u64, Int.emod_eq_of_lt (by omega) (by omega), Int.emod_eq_of_lt (by omega) (by omega),
    u64_or _ _ (by omega) (by omega) (by omega) (by omega), nat_join 8 _ _ (by omega) (by omega)]
  omega

theorem Num_step {l : List Int} (h : Byts l) {n k : Nat} (hn : n ≤ 7) (hk : k < n) (hl : k < l.length) :
    bits .or .u64 (IntKind.u64.wrap (Num (l.take k) * 256)) (IntKind.u64.wrap (l[k]?.getD 0)) = Num (l.take (k + 1)) := by
  have hb := h.at k hl
  have hlt := Num_lt (h.take k)
  have hge := Num_nonneg (h.take k)
  have hp := pow_le7 (n := (l.take k).length) (by simp; omega)
  rw [or_byte hge (by omega) hb.1 hb.2, take_snoc' l k hl, Num_snoc]

/-- The bytes of a number. -/
def Enc (n : Nat) (v : Int) : List Int := (List.range n).map fun j => v / 256 ^ (n - 1 - j) % 256
theorem Enc_len (n : Nat) (v : Int) : (Enc n v).length = n := by simp [Enc]
theorem Enc_byts (n : Nat) (v : Int) : Byts (Enc n v) := by
  intro c hc
  simp only [Enc, List.mem_map] at hc
  obtain ⟨j, _, rfl⟩ := hc
  omega
theorem Enc1 (v : Int) (h0 : 0 ≤ v) (h1 : v < 256) : Num (Enc 1 v) = v := by
  simp [Enc, Num, List.range_succ]; omega
theorem Enc2 (v : Int) (h0 : 0 ≤ v) (h1 : v < 65536) : Num (Enc 2 v) = v := by
  simp [Enc, Num, List.range_succ]; omega
theorem Enc4 (v : Int) (h0 : 0 ≤ v) (h1 : v < 4294967296) : Num (Enc 4 v) = v := by
  simp [Enc, Num, List.range_succ]; omega

theorem Enc_step (n j k : Nat) (v : Int) (h : n = j + 1 + k) : (Enc n v).take (j + 1) = (Enc n v).take j ++ [IntKind.u8.wrap (v / 2 ^ (8 * (k : Int)).toNat)] := by
  subst h
  rw [take_snoc' _ _ (by rw [Enc_len]; omega)]
  congr 2
  have e : (8 * (k : Int)).toNat = 8 * k := by omega
  rw [IntKind.wrap_u8', e, Int.pow_mul]
  simp [Enc, List.getElem?_range (show j < j + 1 + k by omega)]
  try (congr 3; omega)

/-- A number read: whether all is well, what it is, what is left. -/
def nB (bad : Bool) (l : List Int) (n : Nat) : Bool := bad || !decide (n ≤ l.length)
def nV (bad : Bool) (l : List Int) (n : Nat) : Int := if nB bad l n then 0 else Num (l.take n)
def nL (bad : Bool) (l : List Int) (n : Nat) : List Int := if nB bad l n then l else l.drop n

theorem nL_byts {bad : Bool} {l : List Int} {n : Nat} (h : Byts l) : Byts (nL bad l n) := by unfold nL; split; exact h; exact h.drop n
theorem nV_bd {bad : Bool} {l : List Int} {n : Nat} (h : Byts l) : 0 ≤ nV bad l n ∧ nV bad l n < 256 ^ n := by
  unfold nV
  split
  · exact ⟨by omega, Int.pow_pos (by omega)⟩
  · rename_i hb
    simp [nB] at hb
    have h1 := Num_nonneg (h.take n)
    have h2 := Num_lt (h.take n)
    rw [List.length_take, Nat.min_eq_left hb.2] at h2
    exact ⟨h1, h2⟩
end Go.Proofs.Ytmgfiblnbbjjdaa
