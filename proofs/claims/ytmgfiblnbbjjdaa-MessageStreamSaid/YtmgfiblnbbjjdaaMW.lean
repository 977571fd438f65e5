/- Messages as they are given, and as they are wanted. -/
import Derived.Test.YtmgfiblnbbjjdaaMV
import Derived.Test.YtmgfiblnbbjjdaaMQ
set_option linter.unusedSimpArgs false
set_option linter.unusedVariables false
namespace Go.Proofs.Ytmgfiblnbbjjdaa
open Go Go.Proofs Go.RowKit

structure Src where
  m : Mg
  sums : List Int
  body : List Int
  sA : Option Addr
  sn : Nat
  sc : Nat
  dA : Option Addr
  dn : Nat
  dc : Nat

def Src.cells (x : Src) : List Value := x.m.cells (.slice x.sA x.sn x.sc) (.slice x.dA x.dn x.dc)
def Src.wcells (x : Src) : List Value := (ofM x.m).cells (.slice x.sA x.sn x.sc) (.slice x.dA x.dn x.dc)
def Src.fr (x : Src) : List Int := Ytmgfiblnbbjjdaa.fr x.m x.sums x.body

/-- A message as it is given. -/
structure Src.In (B : Nat) (w : World) (x : Src) : Prop where
  ok : x.m.ok
  s : RdI w .u32 (.slice x.sA x.sn x.sc) x.sums
  d : RdI w .u8 (.slice x.dA x.dn x.dc) x.body
  s32 : ∀ c ∈ x.sums, 0 ≤ c ∧ c < 4294967296
  d8 : Byts x.body
  sl : ∀ k, lvB (.slice x.sA x.sn x.sc) = some k → k < B
  dl : ∀ k, lvB (.slice x.dA x.dn x.dc) = some k → k < B

/-- A message as it is wanted. -/
structure Src.Win (B : Nat) (w : World) (x : Src) : Prop where
  mok : MOk x.m x.sums x.body
  s : RdI w .u32 (.slice x.sA x.sn x.sc) (ofS x.m x.sums)
  d : RdI w .u8 (.slice x.dA x.dn x.dc) (ofB x.m x.body)
  sl : ∀ k, lvB (.slice x.sA x.sn x.sc) = some k → k < B
  dl : ∀ k, lvB (.slice x.dA x.dn x.dc) = some k → k < B

theorem Src.In.kp {B : Nat} {w w' : World} {x : Src} (h : x.In B w) (hk : Kp (fun b => B ≤ b) w w') : x.In B w' :=
  ⟨h.ok, Rd.kpl h.s hk (fun g hg _ hb => by have := h.sl g hg; have : B ≤ g := hb; omega), Rd.kpl h.d hk (fun g hg _ hb => by have := h.dl g hg; have : B ≤ g := hb; omega), h.s32, h.d8, h.sl, h.dl⟩
theorem Src.Win.kp {B : Nat} {w w' : World} {x : Src} (h : x.Win B w) (hk : Kp (fun b => B ≤ b) w w') : x.Win B w' :=
  ⟨h.mok, Rd.kpl h.s hk (fun g hg _ hb => by have := h.sl g hg; have : B ≤ g := hb; omega), Rd.kpl h.d hk (fun g hg _ hb => by have := h.dl g hg; have : B ≤ g := hb; omega), h.sl, h.dl⟩

theorem Of_known (B : Nat) (w : World) (x : Src) (hx : x.In B w) (hk : known x.m.ty) (h1 : x.sums.length ≤ 256) (h2 : x.body.length ≤ 500) :
    Calls Try.prog 4 #[.agg x.cells.toArray] w fun e w' => ∃ y : Src, e = .returned (.agg y.wcells.toArray) ∧ (∀ W', x.In B W' → y.Win B W') ∧ Kp (fun _ => False) w w' := by
  have hm : MOk x.m x.sums x.body := ⟨hx.ok, hk, hx.s32, h1, hx.d8, h2⟩
  have hno : ∀ k, lvB (.slice none 0 0) = some k → k < B := fun k hk => by simp [lvB] at hk
  rcases hk with h | h | h | h | h | h
  · refine (Of_1 w x.m x.sA x.dA x.sn x.sc x.dn x.dc h).mono ?_
    rintro e w' ⟨rfl, hk⟩
    refine ⟨⟨x.m, x.sums, x.body, x.sA, x.sn, x.sc, none, 0, 0⟩, rfl, fun W hW => ⟨hm, ?_, ?_, hW.sl, hno⟩, hk⟩
    · simpa [ofS, h] using hW.s
    · simpa [ofB, h] using RdI.nil W .u8
  · refine (Of_2 w x.m x.sA x.dA x.sn x.sc x.dn x.dc h).mono ?_
    rintro e w' ⟨rfl, hk⟩
    refine ⟨⟨x.m, x.sums, x.body, none, 0, 0, none, 0, 0⟩, rfl, fun W hW => ⟨hm, ?_, ?_, hno, hno⟩, hk⟩
    · simpa [ofS, h] using RdI.nil W .u32
    · simpa [ofB, h] using RdI.nil W .u8
  · refine (Of_3 w x.m x.sA x.dA x.sn x.sc x.dn x.dc h).mono ?_
    rintro e w' ⟨rfl, hk⟩
    refine ⟨⟨x.m, x.sums, x.body, none, 0, 0, none, 0, 0⟩, rfl, fun W hW => ⟨hm, ?_, ?_, hno, hno⟩, hk⟩
    · simpa [ofS, h] using RdI.nil W .u32
    · simpa [ofB, h] using RdI.nil W .u8
  · refine (Of_4 w x.m x.sA x.dA x.sn x.sc x.dn x.dc h).mono ?_
    rintro e w' ⟨rfl, hk⟩
    refine ⟨⟨x.m, x.sums, x.body, none, 0, 0, x.dA, x.dn, x.dc⟩, rfl, fun W hW => ⟨hm, ?_, ?_, hno, hW.dl⟩, hk⟩
    · simpa [ofS, h] using RdI.nil W .u32
    · simpa [ofB, h] using hW.d
  · refine (Of_5 w x.m x.sA x.dA x.sn x.sc x.dn x.dc h).mono ?_
    rintro e w' ⟨rfl, hk⟩
    refine ⟨⟨x.m, x.sums, x.body, none, 0, 0, none, 0, 0⟩, rfl, fun W hW => ⟨hm, ?_, ?_, hno, hno⟩, hk⟩
    · simpa [ofS, h] using RdI.nil W .u32
    · simpa [ofB, h] using RdI.nil W .u8
  · refine (Of_6 w x.m x.sA x.dA x.sn x.sc x.dn x.dc h).mono ?_
    rintro e w' ⟨rfl, hk⟩
    refine ⟨⟨x.m, x.sums, x.body, none, 0, 0, none, 0, 0⟩, rfl, fun W hW => ⟨hm, ?_, ?_, hno, hno⟩, hk⟩
    · simpa [ofS, h] using RdI.nil W .u32
    · simpa [ofB, h] using RdI.nil W .u8

theorem Own.ne {w : World} {e e' : TypeId} {size size' : Nat} {v v' : Value} {xs xs' : List Value} (h : Own w e size v xs) (h' : Own w e' size' v' xs') (hne : e ≠ e') {k : Nat} (hk : v.ownBlock = some k) (hk' : v'.ownBlock = some k) : False := by
  rcases h with ⟨rfl, _⟩ | ⟨g, off, n, cap, cur, rfl, hg, _⟩
  · simp [Value.ownBlock] at hk
  rcases h' with ⟨rfl, _⟩ | ⟨g', off', n', cap', cur', rfl, hg', _⟩
  · simp [Value.ownBlock] at hk'
  simp only [Value.ownBlock, Option.some.injEq] at hk hk'
  subst hk; subst hk'
  rw [hg] at hg'
  simp only [Option.some.injEq, Obj.cells.injEq] at hg'
  exact hne hg'.2.1

theorem Own.tail {w : World} {e : TypeId} {g off n cap lo : Nat} {xs : List Value} (h : Own w e 1 (.slice (some ⟨g, off, none⟩) n cap) xs) (hlo : lo ≤ n) :
    Own w e 1 (.slice (if cap = lo then some ⟨g, off, none⟩ else some ⟨g, off + lo, none⟩) (n - lo) (cap - lo)) (xs.drop lo) := by
  obtain ⟨cur, hg, h1, h2, h3, h4, h5⟩ := h.open
  split
  · refine .inr ⟨g, off, n - lo, cap - lo, cur, rfl, hg, by omega, by omega, by omega, by simp [h4], fun j u hj => ?_⟩
    have : xs.length ≤ lo := by omega
    simp [List.drop_of_length_le this] at hj
  · refine .inr ⟨g, off + lo, n - lo, cap - lo, cur, rfl, hg, by omega, by omega, by omega, by simp [h4], fun j u hj => ?_⟩
    rw [List.getElem?_drop] at hj
    rw [Nat.add_assoc]
    exact h5 _ _ hj
end Go.Proofs.Ytmgfiblnbbjjdaa
