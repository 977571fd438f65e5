/- A pen goes over all fields of a page. -/
import Derived.Test.YtmgfiblnbbjjdaaMI
set_option linter.unusedSimpArgs false
set_option linter.unusedVariables false
namespace Go.Proofs.Ytmgfiblnbbjjdaa
open Go Go.Proofs Go.RowKit

def act (wr : Bool) : Nat → St → St
  | 15 => St.life wr | 16 => St.has wr | 17 => St.frame wr | 18 => St.sumsF wr | 19 => St.size wr | 20 => St.seq wr | 21 => St.base wr | 22 => St.full wr | 23 => St.bodyF wr | 24 => St.event wr
  | _ => id
def acts (wr : Bool) (fs : List Nat) (s : St) : St := fs.foldl (fun s f => act wr f s) s

/-- How great a page may be. -/
def Fit (wr : Bool) (s : St) (n : Nat) : Prop := (wr = true → s.l.length ≤ n ∧ s.sums.length ≤ 256) ∧ (wr = false → s.l.length ≤ 1099511627786)

theorem nl_len (wr bad : Bool) (l : List Int) (v : Int) (n : Nat) : (nl wr bad l v n).length ≤ l.length + n ∧ (wr = false → (nl wr bad l v n).length ≤ l.length) := by
  unfold nl nL
  cases wr <;> simp [Enc_len]
  split <;> simp
  omega

theorem Fit.num {wr : Bool} {s : St} {n : Nat} (h : Fit wr s n) (v : Int) (k : Nat) (f : Mg → Int → Mg) : Fit wr (s.num wr v k f) (n + k) := by
  have h1 := nl_len wr s.bad s.l v k
  exact ⟨fun e => ⟨by have := (h.1 e).1; simp only [St.num]; omega, (h.1 e).2⟩, fun e => by have := h.2 e; have := h1.2 e; simp only [St.num]; omega⟩
theorem Fit.tr {wr : Bool} {s : St} {n : Nat} (h : Fit wr s n) (v : Bool) (f : Mg → Bool → Mg) : Fit wr (s.tr wr v f) (n + 1) := by
  have h1 := nl_len wr s.bad s.l (if v then 1 else 0) 1
  exact ⟨fun e => ⟨by have := (h.1 e).1; simp only [St.tr]; omega, (h.1 e).2⟩, fun e => by have := h.2 e; have := h1.2 e; simp only [St.tr]; omega⟩
theorem Fit.le {wr : Bool} {s : St} {n m : Nat} (h : Fit wr s n) (hm : n ≤ m) : Fit wr s m := ⟨fun e => ⟨Nat.le_trans (h.1 e).1 hm, (h.1 e).2⟩, h.2⟩

theorem Fit.act {wr : Bool} {s : St} {n : Nat} (h : Fit wr s n) {f : Nat} (hf : f ∈ [15, 16, 17, 19, 20, 21, 22]) : Fit wr (act wr f s) (n + 4) := by
  simp only [List.mem_cons, List.not_mem_nil, or_false] at hf
  rcases hf with rfl | rfl | rfl | rfl | rfl | rfl | rfl
  · exact h.num _ 4 _
  · exact (h.tr _ _).le (by omega)
  · exact h.num _ 4 _
  · exact ((h.num _ 2 _).num _ 2 _).le (by omega)
  · exact h.num _ 4 _
  · exact h.num _ 4 _
  · exact (h.tr _ _).le (by omega)

theorem body_goes (wr : Bool) (w : World) (B : Nat → Prop) (g : Nat) (s : St) (bv sv dv : Value) (hp : Pg w B g wr s bv sv dv) (hf : Fit wr s 100000) :
    Calls Try.prog 23 #[.pointer (some ⟨g, 0, none⟩)] w fun e w' => e = .returned (.tuple #[]) ∧ Kp B w w' ∧ ∃ bv' sv' dv', Pg w' B g wr (St.bodyF wr s) bv' sv' dv' := by
  cases wr
  · exact body_rd w B g s bv sv dv hp (hf.2 rfl)
  · exact body_wr w B g s bv sv dv hp (fun e => (hf.1 e).1)

theorem Pg.kp {S : Nat → Prop} {w w' : World} {B B' : Nat → Prop} {g : Nat} {wr : Bool} {s : St} {bv sv dv : Value} (h : Pg w B g wr s bv sv dv) (hk : Kp S w w') (hS : ∀ k, k < w.heap.size → ¬ S k) (hB : ∀ k, k < w.heap.size → B k → B' k)
    (hB' : ∀ k, w'.heap.size ≤ k → B' k) : Pg w' B' g wr s bv sv dv := by
  have hg := lt_of_blk h.blk
  refine ⟨hk.heap h.blk (hS g hg), ?_, h.ok, fun k hd => Pg.lt (h.dlt k hd) hk, hB', h.s32, h.slen, h.blen⟩
  have hr := h.r.kp hk (fun k hb => hS k (h.r.blt k hb)) (fun k hs => hS k (h.r.sums.lt hs)) (fun k hd => hS k (h.dlt k hd))
  exact { hr with gB := hB g hg h.r.gB, bB := fun e k hb => hB k (h.r.blt k hb) (h.r.bB e k hb), sB := fun k hs => hB k (h.r.sums.lt hs) (h.r.sB k hs), dB := fun e k hd => hB k (h.dlt k hd) (h.r.dB e k hd) }

/-- What 'over' does at a page. -/
def Overs (wr : Bool) (ty : Int) : Prop := ∀ (w : World) (B : Nat → Prop) (g : Nat) (s : St) (bv sv dv : Value), Pg w B g wr s bv sv dv → s.m.ty = ty → Fit wr s 1000 →
  Calls Try.prog 11 #[.pointer (some ⟨g, 0, none⟩)] w fun e w' => e = .returned (.tuple #[]) ∧ Kp B w w' ∧ ∃ bv' sv' dv', Pg w' B g wr (acts wr (fns ty) s) bv' sv' dv'

set_option maxHeartbeats 1000000 in
theorem over_1 (md : Bool) : Overs md 1 := by
  intro w B g s bv sv dv hp hty hfit
  have hc : w.cell? ⟨g, 3, none⟩ = some (.int .u8 1) := by rw [cell_blk hp.blk]; simp [Mg.cells, hty]
  have HP := Lib.hid hp
  have HF := Lib.hid hfit
  clear hp hty hfit
  go_enter Try.func11, Try.ntmps11
  go_wp2_with fail
  refine (fields_1 w g hc).mono ?_
  rintro e w1 ⟨b, rfl, hb, hk, hnew⟩
  have hbl := lt_of_blk hb
  have HB := Lib.hid hb
  have HK := Lib.hid hk
  have HW := Lib.hid hnew
  have HP1 : Hid (Pg w1 (fun k => B k ∧ k ≠ b) g md s bv sv dv) := HP.out.kp hk (fun _ _ x => x) (fun k h1 h2 => ⟨h2, by omega⟩) (fun k h => ⟨HP.out.hB k (Nat.le_trans hk.size h), by omega⟩)
  clear hb hk hnew hc
  go_wp2_with fail
  go_loopw [3, 7] (fun _ i W => ∃ (k : Nat) (bv' sv' dv' : Value), k ≤ 4 ∧ i = .int .i64 k ∧ Pg W (fun k => B k ∧ k ≠ b) g md (acts md ((fns 1).take k) s) bv' sv' dv' ∧ Kp (fun k => B k ∧ k ≠ b) w1 W) (fun _ i _ => 4 - (intOf i).toNat)
  case atStart => exact ⟨0, bv, sv, dv, by omega, rfl, by simpa [acts] using HP1.out, Kp.refl _ _⟩
  case round =>
    obtain ⟨k, bv', sv', dv', hk4, rfl, hq, hkk⟩ := hrel
    have hbl2 := hkk.heap HB.out (fun h => h.2 rfl)
    have HQ := Lib.hid hq
    have HKK := Lib.hid hkk
    have HBL := Lib.hid hbl2
    clear hq hkk hbl2
    have hks : k = 0 ∨ k = 1 ∨ k = 2 ∨ k = 3 ∨ k = 4 := by omega
    rcases hks with rfl | rfl | rfl | rfl | rfl
    · have hcl : wr.cell? ⟨b, 0, none⟩ = some (cl g 15) := by rw [cell_blk HBL.out]; rfl
      unfold cl at hcl
      go_wp2_with fail
      refine (life_goes md _ _ g _ bv' sv' dv' HQ.out (fun e => Nat.le_trans (HF.out.1 e).1 (by omega))).mono ?_
      rintro e w3 ⟨rfl, hk3, bv3, sv3, dv3, hp3⟩
      have HP3 := Lib.hid hp3
      have HK3 := Lib.hid (HKK.out.trans' hk3)
      clear hp3 hk3
      go_wp2
      go_roundw
      case rel => exact ⟨1, bv3, sv3, dv3, by omega, by go_num, HP3.out, HK3.out⟩
      case measure => simp [intOf]
    · have hcl : wr.cell? ⟨b, 1, none⟩ = some (cl g 16) := by rw [cell_blk HBL.out]; rfl
      unfold cl at hcl
      go_wp2_with fail
      refine (has_goes md _ _ g _ bv' sv' dv' HQ.out (fun e => Nat.le_trans ((HF.out.act (f := 15) (by simp)).1 e).1 (by omega))).mono ?_
      rintro e w3 ⟨rfl, hk3, bv3, sv3, dv3, hp3⟩
      have HP3 := Lib.hid hp3
      have HK3 := Lib.hid (HKK.out.trans' hk3)
      clear hp3 hk3
      go_wp2
      go_roundw
      case rel => exact ⟨2, bv3, sv3, dv3, by omega, by go_num, HP3.out, HK3.out⟩
      case measure => simp [intOf]
    · have hcl : wr.cell? ⟨b, 2, none⟩ = some (cl g 17) := by rw [cell_blk HBL.out]; rfl
      unfold cl at hcl
      go_wp2_with fail
      refine (frame_goes md _ _ g _ bv' sv' dv' HQ.out (fun e => Nat.le_trans (((HF.out.act (f := 15) (by simp)).act (f := 16) (by simp)).1 e).1 (by omega))).mono ?_
      rintro e w3 ⟨rfl, hk3, bv3, sv3, dv3, hp3⟩
      have HP3 := Lib.hid hp3
      have HK3 := Lib.hid (HKK.out.trans' hk3)
      clear hp3 hk3
      go_wp2
      go_roundw
      case rel => exact ⟨3, bv3, sv3, dv3, by omega, by go_num, HP3.out, HK3.out⟩
      case measure => simp [intOf]
    · have hcl : wr.cell? ⟨b, 3, none⟩ = some (cl g 18) := by rw [cell_blk HBL.out]; rfl
      unfold cl at hcl
      go_wp2_with fail
      refine (sums_goes md _ _ g _ bv' sv' dv' HQ.out (fun e => Nat.le_trans ((((HF.out.act (f := 15) (by simp)).act (f := 16) (by simp)).act (f := 17) (by simp)).1 e).1 (by omega))).mono ?_
      rintro e w3 ⟨rfl, hk3, bv3, sv3, dv3, hp3⟩
      have HP3 := Lib.hid hp3
      have HK3 := Lib.hid (HKK.out.trans' hk3)
      clear hp3 hk3
      go_wp2
      go_roundw
      case rel => exact ⟨4, bv3, sv3, dv3, by omega, by go_num, HP3.out, HK3.out⟩
      case measure => simp [intOf]
    · go_wp2
      go_end0
      have hfin := HQ.out.kp (B' := B) (Kp.refl (fun _ => False) _) (fun _ _ x => x) (fun k _ h => h.1) (fun k h => ((HQ.out.hB k h).1))
      exact ⟨rfl, (HK.out.mono (fun _ _ x => x.elim)).trans HKK.out (fun k _ h => h.1), bv', sv', dv', hfin⟩

set_option maxHeartbeats 1000000 in
theorem over_2 (md : Bool) : Overs md 2 := by
  intro w B g s bv sv dv hp hty hfit
  have hc : w.cell? ⟨g, 3, none⟩ = some (.int .u8 2) := by rw [cell_blk hp.blk]; simp [Mg.cells, hty]
  have HP := Lib.hid hp
  have HF := Lib.hid hfit
  clear hp hty hfit
  go_enter Try.func11, Try.ntmps11
  go_wp2_with fail
  refine (fields_2 w g hc).mono ?_
  rintro e w1 ⟨b, rfl, hb, hk, hnew⟩
  have hbl := lt_of_blk hb
  have HB := Lib.hid hb
  have HK := Lib.hid hk
  have HW := Lib.hid hnew
  have HP1 : Hid (Pg w1 (fun k => B k ∧ k ≠ b) g md s bv sv dv) := HP.out.kp hk (fun _ _ x => x) (fun k h1 h2 => ⟨h2, by omega⟩) (fun k h => ⟨HP.out.hB k (Nat.le_trans hk.size h), by omega⟩)
  clear hb hk hnew hc
  go_wp2_with fail
  go_loopw [3, 7] (fun _ i W => ∃ (k : Nat) (bv' sv' dv' : Value), k ≤ 3 ∧ i = .int .i64 k ∧ Pg W (fun k => B k ∧ k ≠ b) g md (acts md ((fns 2).take k) s) bv' sv' dv' ∧ Kp (fun k => B k ∧ k ≠ b) w1 W) (fun _ i _ => 3 - (intOf i).toNat)
  case atStart => exact ⟨0, bv, sv, dv, by omega, rfl, by simpa [acts] using HP1.out, Kp.refl _ _⟩
  case round =>
    obtain ⟨k, bv', sv', dv', hk4, rfl, hq, hkk⟩ := hrel
    have hbl2 := hkk.heap HB.out (fun h => h.2 rfl)
    have HQ := Lib.hid hq
    have HKK := Lib.hid hkk
    have HBL := Lib.hid hbl2
    clear hq hkk hbl2
    have hks : k = 0 ∨ k = 1 ∨ k = 2 ∨ k = 3 := by omega
    rcases hks with rfl | rfl | rfl | rfl
    · have hcl : wr.cell? ⟨b, 0, none⟩ = some (cl g 15) := by rw [cell_blk HBL.out]; rfl
      unfold cl at hcl
      go_wp2_with fail
      refine (life_goes md _ _ g _ bv' sv' dv' HQ.out (fun e => Nat.le_trans (HF.out.1 e).1 (by omega))).mono ?_
      rintro e w3 ⟨rfl, hk3, bv3, sv3, dv3, hp3⟩
      have HP3 := Lib.hid hp3
      have HK3 := Lib.hid (HKK.out.trans' hk3)
      clear hp3 hk3
      go_wp2
      go_roundw
      case rel => exact ⟨1, bv3, sv3, dv3, by omega, by go_num, HP3.out, HK3.out⟩
      case measure => simp [intOf]
    · have hcl : wr.cell? ⟨b, 1, none⟩ = some (cl g 19) := by rw [cell_blk HBL.out]; rfl
      unfold cl at hcl
      go_wp2_with fail
      refine (size_goes md _ _ g _ bv' sv' dv' HQ.out (fun e => Nat.le_trans ((HF.out.act (f := 15) (by simp)).1 e).1 (by omega))).mono ?_
      rintro e w3 ⟨rfl, hk3, bv3, sv3, dv3, hp3⟩
      have HP3 := Lib.hid hp3
      have HK3 := Lib.hid (HKK.out.trans' hk3)
      clear hp3 hk3
      go_wp2
      go_roundw
      case rel => exact ⟨2, bv3, sv3, dv3, by omega, by go_num, HP3.out, HK3.out⟩
      case measure => simp [intOf]
    · have hcl : wr.cell? ⟨b, 2, none⟩ = some (cl g 20) := by rw [cell_blk HBL.out]; rfl
      unfold cl at hcl
      go_wp2_with fail
      refine (seq_goes md _ _ g _ bv' sv' dv' HQ.out (fun e => Nat.le_trans (((HF.out.act (f := 15) (by simp)).act (f := 19) (by simp)).1 e).1 (by omega))).mono ?_
      rintro e w3 ⟨rfl, hk3, bv3, sv3, dv3, hp3⟩
      have HP3 := Lib.hid hp3
      have HK3 := Lib.hid (HKK.out.trans' hk3)
      clear hp3 hk3
      go_wp2
      go_roundw
      case rel => exact ⟨3, bv3, sv3, dv3, by omega, by go_num, HP3.out, HK3.out⟩
      case measure => simp [intOf]
    · go_wp2
      go_end0
      have hfin := HQ.out.kp (B' := B) (Kp.refl (fun _ => False) _) (fun _ _ x => x) (fun k _ h => h.1) (fun k h => ((HQ.out.hB k h).1))
      exact ⟨rfl, (HK.out.mono (fun _ _ x => x.elim)).trans HKK.out (fun k _ h => h.1), bv', sv', dv', hfin⟩

set_option maxHeartbeats 1000000 in
theorem over_3 (md : Bool) : Overs md 3 := by
  intro w B g s bv sv dv hp hty hfit
  have hc : w.cell? ⟨g, 3, none⟩ = some (.int .u8 3) := by rw [cell_blk hp.blk]; simp [Mg.cells, hty]
  have HP := Lib.hid hp
  have HF := Lib.hid hfit
  clear hp hty hfit
  go_enter Try.func11, Try.ntmps11
  go_wp2_with fail
  refine (fields_3 w g hc).mono ?_
  rintro e w1 ⟨b, rfl, hb, hk, hnew⟩
  have hbl := lt_of_blk hb
  have HB := Lib.hid hb
  have HK := Lib.hid hk
  have HW := Lib.hid hnew
  have HP1 : Hid (Pg w1 (fun k => B k ∧ k ≠ b) g md s bv sv dv) := HP.out.kp hk (fun _ _ x => x) (fun k h1 h2 => ⟨h2, by omega⟩) (fun k h => ⟨HP.out.hB k (Nat.le_trans hk.size h), by omega⟩)
  clear hb hk hnew hc
  go_wp2_with fail
  go_loopw [3, 7] (fun _ i W => ∃ (k : Nat) (bv' sv' dv' : Value), k ≤ 0 ∧ i = .int .i64 k ∧ Pg W (fun k => B k ∧ k ≠ b) g md (acts md ((fns 3).take k) s) bv' sv' dv' ∧ Kp (fun k => B k ∧ k ≠ b) w1 W) (fun _ i _ => 0 - (intOf i).toNat)
  case atStart => exact ⟨0, bv, sv, dv, by omega, rfl, by simpa [acts] using HP1.out, Kp.refl _ _⟩
  case round =>
    obtain ⟨k, bv', sv', dv', hk4, rfl, hq, hkk⟩ := hrel
    have hbl2 := hkk.heap HB.out (fun h => h.2 rfl)
    have HQ := Lib.hid hq
    have HKK := Lib.hid hkk
    have HBL := Lib.hid hbl2
    clear hq hkk hbl2
    obtain rfl : k = 0 := by omega
    · go_wp2
      go_end0
      have hfin := HQ.out.kp (B' := B) (Kp.refl (fun _ => False) _) (fun _ _ x => x) (fun k _ h => h.1) (fun k h => ((HQ.out.hB k h).1))
      exact ⟨rfl, (HK.out.mono (fun _ _ x => x.elim)).trans HKK.out (fun k _ h => h.1), bv', sv', dv', hfin⟩

set_option maxHeartbeats 1000000 in
theorem over_4 (md : Bool) : Overs md 4 := by
  intro w B g s bv sv dv hp hty hfit
  have hc : w.cell? ⟨g, 3, none⟩ = some (.int .u8 4) := by rw [cell_blk hp.blk]; simp [Mg.cells, hty]
  have HP := Lib.hid hp
  have HF := Lib.hid hfit
  clear hp hty hfit
  go_enter Try.func11, Try.ntmps11
  go_wp2_with fail
  refine (fields_4 w g hc).mono ?_
  rintro e w1 ⟨b, rfl, hb, hk, hnew⟩
  have hbl := lt_of_blk hb
  have HB := Lib.hid hb
  have HK := Lib.hid hk
  have HW := Lib.hid hnew
  have HP1 : Hid (Pg w1 (fun k => B k ∧ k ≠ b) g md s bv sv dv) := HP.out.kp hk (fun _ _ x => x) (fun k h1 h2 => ⟨h2, by omega⟩) (fun k h => ⟨HP.out.hB k (Nat.le_trans hk.size h), by omega⟩)
  clear hb hk hnew hc
  go_wp2_with fail
  go_loopw [3, 7] (fun _ i W => ∃ (k : Nat) (bv' sv' dv' : Value), k ≤ 4 ∧ i = .int .i64 k ∧ Pg W (fun k => B k ∧ k ≠ b) g md (acts md ((fns 4).take k) s) bv' sv' dv' ∧ Kp (fun k => B k ∧ k ≠ b) w1 W) (fun _ i _ => 4 - (intOf i).toNat)
  case atStart => exact ⟨0, bv, sv, dv, by omega, rfl, by simpa [acts] using HP1.out, Kp.refl _ _⟩
  case round =>
    obtain ⟨k, bv', sv', dv', hk4, rfl, hq, hkk⟩ := hrel
    have hbl2 := hkk.heap HB.out (fun h => h.2 rfl)
    have HQ := Lib.hid hq
    have HKK := Lib.hid hkk
    have HBL := Lib.hid hbl2
    clear hq hkk hbl2
    have hks : k = 0 ∨ k = 1 ∨ k = 2 ∨ k = 3 ∨ k = 4 := by omega
    rcases hks with rfl | rfl | rfl | rfl | rfl
    · have hcl : wr.cell? ⟨b, 0, none⟩ = some (cl g 21) := by rw [cell_blk HBL.out]; rfl
      unfold cl at hcl
      go_wp2_with fail
      refine (base_goes md _ _ g _ bv' sv' dv' HQ.out (fun e => Nat.le_trans (HF.out.1 e).1 (by omega))).mono ?_
      rintro e w3 ⟨rfl, hk3, bv3, sv3, dv3, hp3⟩
      have HP3 := Lib.hid hp3
      have HK3 := Lib.hid (HKK.out.trans' hk3)
      clear hp3 hk3
      go_wp2
      go_roundw
      case rel => exact ⟨1, bv3, sv3, dv3, by omega, by go_num, HP3.out, HK3.out⟩
      case measure => simp [intOf]
    · have hcl : wr.cell? ⟨b, 1, none⟩ = some (cl g 17) := by rw [cell_blk HBL.out]; rfl
      unfold cl at hcl
      go_wp2_with fail
      refine (frame_goes md _ _ g _ bv' sv' dv' HQ.out (fun e => Nat.le_trans ((HF.out.act (f := 21) (by simp)).1 e).1 (by omega))).mono ?_
      rintro e w3 ⟨rfl, hk3, bv3, sv3, dv3, hp3⟩
      have HP3 := Lib.hid hp3
      have HK3 := Lib.hid (HKK.out.trans' hk3)
      clear hp3 hk3
      go_wp2
      go_roundw
      case rel => exact ⟨2, bv3, sv3, dv3, by omega, by go_num, HP3.out, HK3.out⟩
      case measure => simp [intOf]
    · have hcl : wr.cell? ⟨b, 2, none⟩ = some (cl g 22) := by rw [cell_blk HBL.out]; rfl
      unfold cl at hcl
      go_wp2_with fail
      refine (full_goes md _ _ g _ bv' sv' dv' HQ.out (fun e => Nat.le_trans (((HF.out.act (f := 21) (by simp)).act (f := 17) (by simp)).1 e).1 (by omega))).mono ?_
      rintro e w3 ⟨rfl, hk3, bv3, sv3, dv3, hp3⟩
      have HP3 := Lib.hid hp3
      have HK3 := Lib.hid (HKK.out.trans' hk3)
      clear hp3 hk3
      go_wp2
      go_roundw
      case rel => exact ⟨3, bv3, sv3, dv3, by omega, by go_num, HP3.out, HK3.out⟩
      case measure => simp [intOf]
    · have hcl : wr.cell? ⟨b, 3, none⟩ = some (cl g 23) := by rw [cell_blk HBL.out]; rfl
      unfold cl at hcl
      go_wp2_with fail
      refine (body_goes md _ _ g _ bv' sv' dv' HQ.out ((((HF.out.act (f := 21) (by simp)).act (f := 17) (by simp)).act (f := 22) (by simp)).le (by omega))).mono ?_
      rintro e w3 ⟨rfl, hk3, bv3, sv3, dv3, hp3⟩
      have HP3 := Lib.hid hp3
      have HK3 := Lib.hid (HKK.out.trans' hk3)
      clear hp3 hk3
      go_wp2
      go_roundw
      case rel => exact ⟨4, bv3, sv3, dv3, by omega, by go_num, HP3.out, HK3.out⟩
      case measure => simp [intOf]
    · go_wp2
      go_end0
      have hfin := HQ.out.kp (B' := B) (Kp.refl (fun _ => False) _) (fun _ _ x => x) (fun k _ h => h.1) (fun k h => ((HQ.out.hB k h).1))
      exact ⟨rfl, (HK.out.mono (fun _ _ x => x.elim)).trans HKK.out (fun k _ h => h.1), bv', sv', dv', hfin⟩

set_option maxHeartbeats 1000000 in
theorem over_5 (md : Bool) : Overs md 5 := by
  intro w B g s bv sv dv hp hty hfit
  have hc : w.cell? ⟨g, 3, none⟩ = some (.int .u8 5) := by rw [cell_blk hp.blk]; simp [Mg.cells, hty]
  have HP := Lib.hid hp
  have HF := Lib.hid hfit
  clear hp hty hfit
  go_enter Try.func11, Try.ntmps11
  go_wp2_with fail
  refine (fields_5 w g hc).mono ?_
  rintro e w1 ⟨b, rfl, hb, hk, hnew⟩
  have hbl := lt_of_blk hb
  have HB := Lib.hid hb
  have HK := Lib.hid hk
  have HW := Lib.hid hnew
  have HP1 : Hid (Pg w1 (fun k => B k ∧ k ≠ b) g md s bv sv dv) := HP.out.kp hk (fun _ _ x => x) (fun k h1 h2 => ⟨h2, by omega⟩) (fun k h => ⟨HP.out.hB k (Nat.le_trans hk.size h), by omega⟩)
  clear hb hk hnew hc
  go_wp2_with fail
  go_loopw [3, 7] (fun _ i W => ∃ (k : Nat) (bv' sv' dv' : Value), k ≤ 2 ∧ i = .int .i64 k ∧ Pg W (fun k => B k ∧ k ≠ b) g md (acts md ((fns 5).take k) s) bv' sv' dv' ∧ Kp (fun k => B k ∧ k ≠ b) w1 W) (fun _ i _ => 2 - (intOf i).toNat)
  case atStart => exact ⟨0, bv, sv, dv, by omega, rfl, by simpa [acts] using HP1.out, Kp.refl _ _⟩
  case round =>
    obtain ⟨k, bv', sv', dv', hk4, rfl, hq, hkk⟩ := hrel
    have hbl2 := hkk.heap HB.out (fun h => h.2 rfl)
    have HQ := Lib.hid hq
    have HKK := Lib.hid hkk
    have HBL := Lib.hid hbl2
    clear hq hkk hbl2
    have hks : k = 0 ∨ k = 1 ∨ k = 2 := by omega
    rcases hks with rfl | rfl | rfl
    · have hcl : wr.cell? ⟨b, 0, none⟩ = some (cl g 20) := by rw [cell_blk HBL.out]; rfl
      unfold cl at hcl
      go_wp2_with fail
      refine (seq_goes md _ _ g _ bv' sv' dv' HQ.out (fun e => Nat.le_trans (HF.out.1 e).1 (by omega))).mono ?_
      rintro e w3 ⟨rfl, hk3, bv3, sv3, dv3, hp3⟩
      have HP3 := Lib.hid hp3
      have HK3 := Lib.hid (HKK.out.trans' hk3)
      clear hp3 hk3
      go_wp2
      go_roundw
      case rel => exact ⟨1, bv3, sv3, dv3, by omega, by go_num, HP3.out, HK3.out⟩
      case measure => simp [intOf]
    · have hcl : wr.cell? ⟨b, 1, none⟩ = some (cl g 24) := by rw [cell_blk HBL.out]; rfl
      unfold cl at hcl
      go_wp2_with fail
      refine (event_goes md _ _ g _ bv' sv' dv' HQ.out (fun e => Nat.le_trans ((HF.out.act (f := 20) (by simp)).1 e).1 (by omega))).mono ?_
      rintro e w3 ⟨rfl, hk3, bv3, sv3, dv3, hp3⟩
      have HP3 := Lib.hid hp3
      have HK3 := Lib.hid (HKK.out.trans' hk3)
      clear hp3 hk3
      go_wp2
      go_roundw
      case rel => exact ⟨2, bv3, sv3, dv3, by omega, by go_num, HP3.out, HK3.out⟩
      case measure => simp [intOf]
    · go_wp2
      go_end0
      have hfin := HQ.out.kp (B' := B) (Kp.refl (fun _ => False) _) (fun _ _ x => x) (fun k _ h => h.1) (fun k h => ((HQ.out.hB k h).1))
      exact ⟨rfl, (HK.out.mono (fun _ _ x => x.elim)).trans HKK.out (fun k _ h => h.1), bv', sv', dv', hfin⟩

set_option maxHeartbeats 1000000 in
theorem over_6 (md : Bool) : Overs md 6 := by
  intro w B g s bv sv dv hp hty hfit
  have hc : w.cell? ⟨g, 3, none⟩ = some (.int .u8 6) := by rw [cell_blk hp.blk]; simp [Mg.cells, hty]
  have HP := Lib.hid hp
  have HF := Lib.hid hfit
  clear hp hty hfit
  go_enter Try.func11, Try.ntmps11
  go_wp2_with fail
  refine (fields_6 w g hc).mono ?_
  rintro e w1 ⟨b, rfl, hb, hk, hnew⟩
  have hbl := lt_of_blk hb
  have HB := Lib.hid hb
  have HK := Lib.hid hk
  have HW := Lib.hid hnew
  have HP1 : Hid (Pg w1 (fun k => B k ∧ k ≠ b) g md s bv sv dv) := HP.out.kp hk (fun _ _ x => x) (fun k h1 h2 => ⟨h2, by omega⟩) (fun k h => ⟨HP.out.hB k (Nat.le_trans hk.size h), by omega⟩)
  clear hb hk hnew hc
  go_wp2_with fail
  go_loopw [3, 7] (fun _ i W => ∃ (k : Nat) (bv' sv' dv' : Value), k ≤ 1 ∧ i = .int .i64 k ∧ Pg W (fun k => B k ∧ k ≠ b) g md (acts md ((fns 6).take k) s) bv' sv' dv' ∧ Kp (fun k => B k ∧ k ≠ b) w1 W) (fun _ i _ => 1 - (intOf i).toNat)
  case atStart => exact ⟨0, bv, sv, dv, by omega, rfl, by simpa [acts] using HP1.out, Kp.refl _ _⟩
  case round =>
    obtain ⟨k, bv', sv', dv', hk4, rfl, hq, hkk⟩ := hrel
    have hbl2 := hkk.heap HB.out (fun h => h.2 rfl)
    have HQ := Lib.hid hq
    have HKK := Lib.hid hkk
    have HBL := Lib.hid hbl2
    clear hq hkk hbl2
    have hks : k = 0 ∨ k = 1 := by omega
    rcases hks with rfl | rfl
    · have hcl : wr.cell? ⟨b, 0, none⟩ = some (cl g 20) := by rw [cell_blk HBL.out]; rfl
      unfold cl at hcl
      go_wp2_with fail
      refine (seq_goes md _ _ g _ bv' sv' dv' HQ.out (fun e => Nat.le_trans (HF.out.1 e).1 (by omega))).mono ?_
      rintro e w3 ⟨rfl, hk3, bv3, sv3, dv3, hp3⟩
      have HP3 := Lib.hid hp3
      have HK3 := Lib.hid (HKK.out.trans' hk3)
      clear hp3 hk3
      go_wp2
      go_roundw
      case rel => exact ⟨1, bv3, sv3, dv3, by omega, by go_num, HP3.out, HK3.out⟩
      case measure => simp [intOf]
    · go_wp2
      go_end0
      have hfin := HQ.out.kp (B' := B) (Kp.refl (fun _ => False) _) (fun _ _ x => x) (fun k _ h => h.1) (fun k h => ((HQ.out.hB k h).1))
      exact ⟨rfl, (HK.out.mono (fun _ _ x => x.elim)).trans HKK.out (fun k _ h => h.1), bv', sv', dv', hfin⟩

end Go.Proofs.Ytmgfiblnbbjjdaa
