/- The sums of a page. -/
import Derived.Test.YtmgfiblnbbjjdaaMF
set_option linter.unusedSimpArgs false
set_option linter.unusedVariables false
namespace Go.Proofs.Ytmgfiblnbbjjdaa
open Go Go.Proofs Go.RowKit

theorem Try.info24 : (Try.prog.info? 24).map (fun i => (i.zero, i.size, i.bytes)) = some (some (.int .u32 0), 1, 4) := by kernel_rfl

/-- 'field' of four bytes, at one of the sums. -/
theorem field32_sum (T : TypeId) (w : World) (B : Nat → Prop) (g : Nat) (wr bad : Bool) (l sums body : List Int) (bv dv : Value) (sb so n c : Nat) (ms : List Value) (k p : Nat) (hop : so + k = p) (a : Int)
    (ha0 : 0 ≤ a) (ha1 : a < 4294967296) (hB : ∀ k, w.heap.size ≤ k → B k) (hll : wr = true → l.length ≤ 999990)
    (hdl : ∀ k, lvB dv = some k → k < w.heap.size) (hblk : PgB T w g wr bad bv ms) (h : PgR w B g wr l sums body bv (.slice (some ⟨sb, so, none⟩) n c) dv) (hk : sums[k]? = some a) :
    Calls Try.prog 27 #[.pointer (some ⟨g, 0, none⟩), .pointer (some ⟨sb, p, none⟩), .int .i64 4] w fun e w' => ∃ bv', e = .returned (.tuple #[]) ∧
      PgB T w' g wr (nb wr bad l 4) bv' ms ∧ PgR w' B g wr (nl wr bad l a 4) (sums.set k (nv wr bad l a 4)) body bv' (.slice (some ⟨sb, so, none⟩) n c) dv ∧ Kp B w w' := by
  subst hop
  have c0 : w.cell? ⟨sb, so + k, none⟩ = some (.int .u32 a) := h.sums.cellAt (by simp [hk])
  have hw := nv_bd (bad := bad) (n := 4) h.byts ha0 (by omega : a < 256 ^ 4)
  have HB := Lib.hid hblk
  have H := Lib.hid h
  have HM := Lib.hid hk
  have HD := Lib.hid hdl
  clear hblk h hk hdl
  go_enter Try.func27, Try.ntmps27
  go_wp2_with fail
  refine (number_pg T w B g wr bad l sums body bv _ dv ms a 4 (by omega) (by omega) ha0 (by omega) hB hll HD.out HB.out H.out).mono ?_
  rintro e w' ⟨bv', rfl, h1, h2, h3⟩
  have hk := HM.out
  have d0 : w'.cell? ⟨sb, so + k, none⟩ = some (.int .u32 a) := h2.sums.cellAt (by simp [hk])
  have f0 : w'.frozen? ⟨sb, so + k, none⟩ = false := h2.sums.frozenAt _
  have ew : IntKind.u32.wrap (nv wr bad l a 4) = nv wr bad l a 4 := wrap_u32_id hw.1 (by omega)
  have H1 := Lib.hid h1
  have H2 := Lib.hid h2
  have H3 := Lib.hid h3
  clear h1 h2 h3 hk
  go_wp2
  go_end0
  have hsg : sb ≠ g := H2.out.sg sb rfl
  refine ⟨bv', rfl, setCell_oth H1.out _ _ (fun e => hsg e.symm), ?_, H3.out.setCell _ _ (fun _ => H2.out.sB sb rfl)⟩
  have hkp := (Kp.refl (fun b => b = sb) w').setCell ⟨sb, so + k, none⟩ (.int .u32 (nv wr bad l a 4)) (fun _ => rfl)
  have hb : ∀ k, bv'.ownBlock = some k → ¬ k = sb := fun k hk e => H2.out.bs k hk (by rw [e]; rfl)
  have hd : ∀ k, lvB dv = some k → ¬ k = sb := fun k hk e => H2.out.ds k hk (by rw [e]; rfl)
  exact { H2.out with
    own := fun e => (H2.out.own e).kp hkp (fun k hk _ => hb k hk), rd := fun e => (H2.out.rd e).kp hkp (fun k hk _ => hb k hk), body := Rd.kpl H2.out.body hkp (fun k hk _ => hd k hk),
    sums := by rw [List.map_set]; exact H2.out.sums.store k _
    blt := fun k hk => by simpa using H2.out.blt k hk }

def St.sumStep (wr : Bool) (s : St) (i : Nat) : St :=
  { s with bad := nb wr s.bad s.l 4, l := nl wr s.bad s.l (s.sums.getD i 0) 4, sums := s.sums.set i (nv wr s.bad s.l (s.sums.getD i 0) 4) }
def St.sumsTo (wr : Bool) (s : St) : Nat → St
  | 0 => s
  | k + 1 => (s.sumsTo wr k).sumStep wr k
def St.sumsN (wr : Bool) (s : St) : Int := nv wr s.bad s.l s.sums.length 2
def St.sumsBad (wr : Bool) (s : St) : Bool := nb wr s.bad s.l 2 || !decide (s.sumsN wr ≤ 256)
def St.sumsHead (wr : Bool) (s : St) : St :=
  { s with bad := s.sumsBad wr, l := nl wr s.bad s.l s.sums.length 2, sums := if wr || s.sumsBad wr then s.sums else List.replicate (s.sumsN wr).toNat 0 }
def St.sumsF (wr : Bool) (s : St) : St := (s.sumsHead wr).sumsTo wr (s.sumsHead wr).sums.length

theorem sumsTo_len (wr : Bool) (s : St) (k : Nat) : (s.sumsTo wr k).sums.length = s.sums.length := by
  induction k with
  | zero => rfl
  | succ k ih => simp [St.sumsTo, St.sumStep, ih]
theorem sumsTo_l (s : St) (k : Nat) : (s.sumsTo true k).l.length = s.l.length + 4 * k := by
  induction k with
  | zero => rfl
  | succ k ih => simp [St.sumsTo, St.sumStep, ih, nl, Enc_len]; omega

/-- The loop over the sums, from its head on. -/
theorem Pg.undrew {w : World} {B : Nat → Prop} {g : Nat} {wr : Bool} {s : St} {bv sv dv : Value} (h : Pg w.drew B g wr s bv sv dv) : Pg w B g wr s bv sv dv :=
  ⟨h.blk, h.r.kp (w' := w) (S := fun _ => False) ⟨rfl, rfl, rfl, Nat.le_refl _, fun _ _ _ => rfl⟩ (fun _ _ x => x) (fun _ _ x => x) (fun _ _ x => x), h.ok, h.dlt, h.hB, h.s32, h.slen, h.blen⟩

theorem Pg.sumStep {w w' : World} {B : Nat → Prop} {g : Nat} {wr : Bool} {s : St} {bv sv dv bv' : Value} {k : Nat} {a : Int} (hp : Pg w B g wr s bv sv dv) (hk : s.sums[k]? = some a)
    (h1 : PgB 46 w' g wr (nb wr s.bad s.l 4) bv' (s.m.cells sv dv)) (h2 : PgR w' B g wr (nl wr s.bad s.l a 4) (s.sums.set k (nv wr s.bad s.l a 4)) s.body bv' sv dv) (h3 : Kp B w w') :
    Pg w' B g wr (s.sumStep wr k) bv' sv dv := by
  have ha := hp.s32 a (List.mem_of_getElem? hk)
  have hg : s.sums.getD k 0 = a := by simp [hk]
  have hb := nv_bd (bad := s.bad) (n := 4) hp.r.byts ha.1 (by omega)
  refine ⟨by unfold St.sumStep; rw [hg]; exact h1, by unfold St.sumStep; rw [hg]; exact h2, hp.ok, fun k hk => Pg.lt (hp.dlt k hk) h3, (fun k hk => hp.hB k (Nat.le_trans h3.size hk)), fun c hc => ?_, fun e => by simpa [St.sumStep] using hp.slen e, hp.blen⟩
  simp only [St.sumStep] at hc
  rw [hg] at hc
  rcases List.mem_or_eq_of_mem_set hc with h | h
  · exact hp.s32 c h
  · subst h; omega


set_option maxHeartbeats 400000 in
theorem sums_wr : ∀ (w : World) (B : Nat → Prop) (g : Nat) (s : St) (bv sv dv : Value), Pg w B g true s bv sv dv → (true = true → s.l.length ≤ 100000) → 
  Calls Try.prog 18 #[.pointer (some ⟨g, 0, none⟩)] w fun e w' => e = .returned (.tuple #[]) ∧ Kp B w w' ∧ ∃ bv' sv' dv', Pg w' B g true (s.sumsF true) bv' sv' dv' := by
  intro w B g s bv sv dv hp hl
  obtain ⟨A0, n0, cap0, rfl, hn0, hc0, hc1⟩ := hp.r.sums.len
  have hn0' : s.sums.length = n0 := by simpa using hn0
  have c2 : w.cell? ⟨g, 11, none⟩ = some (.slice A0 n0 cap0) := by rw [cell_blk hp.blk]; rfl
  have e1 : IntKind.u64.wrap (n0 : Int) = n0 := by rw [IntKind.wrap_u64]; omega
  have hx : 0 ≤ nv true s.bad s.l (n0 : Int) 2 ∧ nv true s.bad s.l (n0 : Int) 2 ≤ 9223372036854775807 := by
     unfold nv; rw [if_pos rfl]; omega
  have hx0 := hx.1
  have e2 : IntKind.i64.wrap (nv true s.bad s.l (n0 : Int) 2) = nv true s.bad s.l (n0 : Int) 2 := IntWalk.i64_in _ (by omega)
  have hl2 : s.l.length ≤ 999990 := by have := hl rfl; omega
  have Hl := Lib.hid hl2
  have HL := Lib.hid (hl rfl)
  clear hl2
  have HN := Lib.hid hn0'
  have HP := Lib.hid hp.drew
  have hbe : s.sumsBad true = (nb true s.bad s.l 2 || !decide (nv true s.bad s.l (n0 : Int) 2 ≤ 256)) := by unfold St.sumsBad St.sumsN; rw [HN.out]
  obtain ⟨b2, hbx⟩ : ∃ b2, (nb true s.bad s.l 2 || !decide (nv true s.bad s.l (n0 : Int) 2 ≤ 256)) = b2 := ⟨_, rfl⟩
  have HBX := Lib.hid hbx
  clear hbx
  clear hp hl hn0 hn0' hx
  go_enter Try.func18, Try.ntmps18
  go_wp2_with fail
  go_still_tail 10, (by kernel_rfl)
  go_wp2_with fail
  refine (number_pg 46 _ B g true s.bad s.l s.sums s.body bv _ dv _ (n0 : Int) 2 (by omega) (by omega) (by omega) (by omega) HP.out.hB (fun _ => Hl.out) HP.out.dlt HP.out.blk HP.out.r).mono ?_
  rintro e w1 ⟨bv1, rfl, h1, h2, h3⟩
  have d0 : w1.cell? ⟨g, 0, none⟩ = some (.bool (nb true s.bad s.l 2)) := by rw [cell_blk h1]; rfl
  have d1 : w1.cell? ⟨g, 1, none⟩ = some (.bool true) := by rw [cell_blk h1]; rfl
  have d11 : w1.cell? ⟨g, 11, none⟩ = some (.slice A0 n0 cap0) := by rw [cell_blk h1]; rfl
  have f0 : ∀ o, w1.frozen? ⟨g, o, none⟩ = false := fun _ => frozen_blk h1 _
  have H1 := Lib.hid h1
  have H2 := Lib.hid h2
  have H3 := Lib.hid (Kp.ofDrew h3)
  clear h1 h2 h3
  go_wp2_with fail
  refine (must_any g 0 _ _ _ d0 (f0 _)).mono ?_
  rintro e w2 ⟨rfl, rfl⟩
  rw [HBX.out]
  have hpb := setCell_blk H1.out 0 (.bool b2)
  have hpr := H2.out.kp ((Kp.refl (fun b => b = g) _).setCell ⟨g, 0, none⟩ (.bool b2) (fun _ => rfl)) H2.out.bg H2.out.sg H2.out.dg
  have hkk := H3.out.setCell ⟨g, 0, none⟩ (.bool b2) (fun _ => HP.out.r.gB)
  have HP2 : Hid (Pg (w1.setCell ⟨g, 0, none⟩ (.bool b2)) B g true (s.sumsHead true) bv1 (.slice A0 n0 cap0) dv) := by
    refine ⟨?_, ?_, HP.out.ok, fun k hk => Pg.lt (w := w) (HP.out.dlt k hk) hkk, (fun k hk => HP.out.hB k (Nat.le_trans hkk.size hk)), ?_, ?_, HP.out.blen⟩
    · unfold St.sumsHead; rw [hbe, HBX.out]; simpa [PgB] using hpb
    · unfold St.sumsHead; rw [if_pos (by simp [hbe, HBX.out]), HN.out]; exact hpr
    · unfold St.sumsHead; rw [if_pos (by simp [hbe, HBX.out])]; exact HP.out.s32
    · unfold St.sumsHead; rw [if_pos (by simp [hbe, HBX.out])]; exact HP.out.slen
  have HN2 : Hid ((s.sumsHead true).sums.length = n0) := by
    unfold St.sumsHead; rw [if_pos (by simp [hbe, HBX.out])]; exact HN.out
  have HK2 := Lib.hid hkk
  clear hpb hpr hkk hbe
  go_wp2_with fail
  go_loopw [3, 50] (fun _ i W' => ∃ (k : Nat) (bv' : Value), k ≤ n0 ∧ i = .int .i64 k ∧ Pg W' B g true ((s.sumsHead true).sumsTo true k) bv' (.slice A0 n0 cap0) dv ∧ Kp B w W') (fun _ i _ => n0 - (intOf i).toNat)
  case atStart => exact ⟨0, bv1, by omega, rfl, HP2.out, HK2.out⟩
  case round =>
    obtain ⟨k, bv', hk, rfl, hp, hkp⟩ := hrel
    have hkl : k < n0 → ((s.sumsHead true).sumsTo true k).sums[k]? = some (((s.sumsHead true).sumsTo true k).sums.getD k 0) := fun h => by
      have h2 := sumsTo_len true (s.sumsHead true) k
      rw [HN2.out] at h2
      rw [List.getD_eq_getElem?_getD, List.getElem?_eq_getElem (by omega)]; rfl
    have hll : ((s.sumsHead true).sumsTo true k).l.length ≤ 999990 := by
      have h1 := sumsTo_l (s.sumsHead true) k; have h2 := HL.out; have h3 := HP.out.slen rfl; have h4 := HN.out; have h5 : (s.sumsHead true).l.length = s.l.length + 2 := by simp [St.sumsHead, nl, Enc_len]
      omega
    have HLL := Lib.hid hll
    clear hll
    have c11 : wr.cell? ⟨g, 11, none⟩ = some (.slice A0 n0 cap0) := by rw [cell_blk hp.blk]; rfl
    have HQ := Lib.hid hp.drew
    have HKP := Lib.hid hkp
    have HKL := Lib.hid hkl
    clear hp hkp hkl
    by_cases hlt : k < n0
    · have hso := HQ.out.r.sums.isSome (by omega)
      obtain ⟨sb, so, hA⟩ := hso
      obtain rfl := hA
      go_wp2_with fail
      go_still_tail 10, (by kernel_rfl)
      go_wp2_with fail
      have ha := HQ.out.s32 _ (List.mem_of_getElem? (HKL.out hlt))
      refine (field32_sum 46 _ B g true _ _ _ _ bv' dv sb so n0 cap0 _ k _ rfl _ ha.1 ha.2 HQ.out.hB (fun _ => HLL.out) HQ.out.dlt HQ.out.blk HQ.out.r (HKL.out hlt)).mono ?_
      rintro e w3 ⟨bv3, rfl, h1, h2, h3⟩
      have HQ3 : Hid (Pg w3 B g true ((s.sumsHead true).sumsTo true (k + 1)) bv3 _ dv) := HQ.out.sumStep (HKL.out hlt) h1 h2 h3
      have HK3 : Hid (Kp B w w3) := (HKP.out.drew.trans' h3)
      clear h1 h2 h3 ha
      go_wp2
      go_roundw
      case rel => exact ⟨k + 1, bv3, by omega, by go_num, HQ3.out, HK3.out⟩
      case measure => simp [intOf]; omega
    · have hkn : k = n0 := by omega
      have HKN := Lib.hid hkn
      clear hkn
      go_wp2
      go_end0
      refine ⟨rfl, HKP.out, bv', .slice A0 n0 cap0, dv, ?_⟩
      have h := HQ.out
      rw [HKN.out] at h
      unfold St.sumsF
      rw [HN2.out]
      exact h.undrew

set_option maxHeartbeats 400000 in
theorem sums_rb : ∀ (w : World) (B : Nat → Prop) (g : Nat) (s : St) (bv sv dv : Value), Pg w B g false s bv sv dv → (false = true → s.l.length ≤ 100000) → s.sumsBad false = true →
  Calls Try.prog 18 #[.pointer (some ⟨g, 0, none⟩)] w fun e w' => e = .returned (.tuple #[]) ∧ Kp B w w' ∧ ∃ bv' sv' dv', Pg w' B g false (s.sumsF false) bv' sv' dv' := by
  intro w B g s bv sv dv hp hl hbad
  obtain ⟨A0, n0, cap0, rfl, hn0, hc0, hc1⟩ := hp.r.sums.len
  have hn0' : s.sums.length = n0 := by simpa using hn0
  have c2 : w.cell? ⟨g, 11, none⟩ = some (.slice A0 n0 cap0) := by rw [cell_blk hp.blk]; rfl
  have e1 : IntKind.u64.wrap (n0 : Int) = n0 := by rw [IntKind.wrap_u64]; omega
  have hx : 0 ≤ nv false s.bad s.l (n0 : Int) 2 ∧ nv false s.bad s.l (n0 : Int) 2 ≤ 9223372036854775807 := by
    have := nV_bd (bad := s.bad) (n := 2) (hp.r.byts rfl); unfold nv; rw [if_neg (by simp)]; omega
  have hx0 := hx.1
  have e2 : IntKind.i64.wrap (nv false s.bad s.l (n0 : Int) 2) = nv false s.bad s.l (n0 : Int) 2 := IntWalk.i64_in _ (by omega)
  
  have HN := Lib.hid hn0'
  have HP := Lib.hid hp.drew
  have hbe : s.sumsBad false = (nb false s.bad s.l 2 || !decide (nv false s.bad s.l (n0 : Int) 2 ≤ 256)) := by unfold St.sumsBad St.sumsN; rw [HN.out]
  have hbx : (nb false s.bad s.l 2 || !decide (nv false s.bad s.l (n0 : Int) 2 ≤ 256)) = true := by rw [← hbe]; exact hbad
  have HBX := Lib.hid hbx
  clear hbx hbad
  clear hp hl hn0 hn0' hx
  go_enter Try.func18, Try.ntmps18
  go_wp2_with fail
  go_still_tail 10, (by kernel_rfl)
  go_wp2_with fail
  refine (number_pg 46 _ B g false s.bad s.l s.sums s.body bv _ dv _ (n0 : Int) 2 (by omega) (by omega) (by omega) (by omega) HP.out.hB (fun e => by simp at e) HP.out.dlt HP.out.blk HP.out.r).mono ?_
  rintro e w1 ⟨bv1, rfl, h1, h2, h3⟩
  have d0 : w1.cell? ⟨g, 0, none⟩ = some (.bool (nb false s.bad s.l 2)) := by rw [cell_blk h1]; rfl
  have d1 : w1.cell? ⟨g, 1, none⟩ = some (.bool false) := by rw [cell_blk h1]; rfl
  have d11 : w1.cell? ⟨g, 11, none⟩ = some (.slice A0 n0 cap0) := by rw [cell_blk h1]; rfl
  have f0 : ∀ o, w1.frozen? ⟨g, o, none⟩ = false := fun _ => frozen_blk h1 _
  have H1 := Lib.hid h1
  have H2 := Lib.hid h2
  have H3 := Lib.hid (Kp.ofDrew h3)
  clear h1 h2 h3
  go_wp2_with fail
  refine (must_any g 0 _ _ _ d0 (f0 _)).mono ?_
  rintro e w2 ⟨rfl, rfl⟩
  rw [HBX.out]
  have hpb := setCell_blk H1.out 0 (.bool true)
  have hpr := H2.out.kp ((Kp.refl (fun b => b = g) _).setCell ⟨g, 0, none⟩ (.bool true) (fun _ => rfl)) H2.out.bg H2.out.sg H2.out.dg
  have hkk := H3.out.setCell ⟨g, 0, none⟩ (.bool true) (fun _ => HP.out.r.gB)
  have HP2 : Hid (Pg (w1.setCell ⟨g, 0, none⟩ (.bool true)) B g false (s.sumsHead false) bv1 (.slice A0 n0 cap0) dv) := by
    refine ⟨?_, ?_, HP.out.ok, fun k hk => Pg.lt (w := w) (HP.out.dlt k hk) hkk, (fun k hk => HP.out.hB k (Nat.le_trans hkk.size hk)), ?_, ?_, HP.out.blen⟩
    · unfold St.sumsHead; rw [hbe, HBX.out]; simpa [PgB] using hpb
    · unfold St.sumsHead; rw [if_pos (by simp [hbe, HBX.out]), HN.out]; exact hpr
    · unfold St.sumsHead; rw [if_pos (by simp [hbe, HBX.out])]; exact HP.out.s32
    · unfold St.sumsHead; rw [if_pos (by simp [hbe, HBX.out])]; exact HP.out.slen
  have HN2 : Hid ((s.sumsHead false).sums.length = n0) := by
    unfold St.sumsHead; rw [if_pos (by simp [hbe, HBX.out])]; exact HN.out
  have HK2 := Lib.hid hkk
  clear hpb hpr hkk hbe
  go_wp2_with fail
  go_loopw [3, 50] (fun _ i W' => ∃ (k : Nat) (bv' : Value), k ≤ n0 ∧ i = .int .i64 k ∧ Pg W' B g false ((s.sumsHead false).sumsTo false k) bv' (.slice A0 n0 cap0) dv ∧ Kp B w W') (fun _ i _ => n0 - (intOf i).toNat)
  case atStart => exact ⟨0, bv1, by omega, rfl, HP2.out, HK2.out⟩
  case round =>
    obtain ⟨k, bv', hk, rfl, hp, hkp⟩ := hrel
    have hkl : k < n0 → ((s.sumsHead false).sumsTo false k).sums[k]? = some (((s.sumsHead false).sumsTo false k).sums.getD k 0) := fun h => by
      have h2 := sumsTo_len false (s.sumsHead false) k
      rw [HN2.out] at h2
      rw [List.getD_eq_getElem?_getD, List.getElem?_eq_getElem (by omega)]; rfl
    have c11 : wr.cell? ⟨g, 11, none⟩ = some (.slice A0 n0 cap0) := by rw [cell_blk hp.blk]; rfl
    have HQ := Lib.hid hp.drew
    have HKP := Lib.hid hkp
    have HKL := Lib.hid hkl
    clear hp hkp hkl
    by_cases hlt : k < n0
    · have hso := HQ.out.r.sums.isSome (by omega)
      obtain ⟨sb, so, hA⟩ := hso
      obtain rfl := hA
      go_wp2_with fail
      go_still_tail 10, (by kernel_rfl)
      go_wp2_with fail
      have ha := HQ.out.s32 _ (List.mem_of_getElem? (HKL.out hlt))
      refine (field32_sum 46 _ B g false _ _ _ _ bv' dv sb so n0 cap0 _ k _ rfl _ ha.1 ha.2 HQ.out.hB (fun e => by simp at e) HQ.out.dlt HQ.out.blk HQ.out.r (HKL.out hlt)).mono ?_
      rintro e w3 ⟨bv3, rfl, h1, h2, h3⟩
      have HQ3 : Hid (Pg w3 B g false ((s.sumsHead false).sumsTo false (k + 1)) bv3 _ dv) := HQ.out.sumStep (HKL.out hlt) h1 h2 h3
      have HK3 : Hid (Kp B w w3) := (HKP.out.drew.trans' h3)
      clear h1 h2 h3 ha
      go_wp2
      go_roundw
      case rel => exact ⟨k + 1, bv3, by omega, by go_num, HQ3.out, HK3.out⟩
      case measure => simp [intOf]; omega
    · have hkn : k = n0 := by omega
      have HKN := Lib.hid hkn
      clear hkn
      go_wp2
      go_end0
      refine ⟨rfl, HKP.out, bv', .slice A0 n0 cap0, dv, ?_⟩
      have h := HQ.out
      rw [HKN.out] at h
      unfold St.sumsF
      rw [HN2.out]
      exact h.undrew

set_option maxHeartbeats 400000 in
theorem sums_rm : ∀ (w : World) (B : Nat → Prop) (g : Nat) (s : St) (bv sv dv : Value), Pg w B g false s bv sv dv → (false = true → s.l.length ≤ 100000) → s.sumsBad false = false →
  Calls Try.prog 18 #[.pointer (some ⟨g, 0, none⟩)] w fun e w' => e = .returned (.tuple #[]) ∧ Kp B w w' ∧ ∃ bv' sv' dv', Pg w' B g false (s.sumsF false) bv' sv' dv' := by
  intro w B g s bv sv dv hp hl hbad
  obtain ⟨A0, n0, cap0, rfl, hn0, hc0, hc1⟩ := hp.r.sums.len
  have hn0' : s.sums.length = n0 := by simpa using hn0
  have c2 : w.cell? ⟨g, 11, none⟩ = some (.slice A0 n0 cap0) := by rw [cell_blk hp.blk]; rfl
  have e1 : IntKind.u64.wrap (n0 : Int) = n0 := by rw [IntKind.wrap_u64]; omega
  have hx : 0 ≤ nv false s.bad s.l (n0 : Int) 2 ∧ nv false s.bad s.l (n0 : Int) 2 ≤ 9223372036854775807 := by
    have := nV_bd (bad := s.bad) (n := 2) (hp.r.byts rfl); unfold nv; rw [if_neg (by simp)]; omega
  have hx0 := hx.1
  have e2 : IntKind.i64.wrap (nv false s.bad s.l (n0 : Int) 2) = nv false s.bad s.l (n0 : Int) 2 := IntWalk.i64_in _ (by omega)
  
  have HN := Lib.hid hn0'
  have HP := Lib.hid hp.drew
  have hbe : s.sumsBad false = (nb false s.bad s.l 2 || !decide (nv false s.bad s.l (n0 : Int) 2 ≤ 256)) := by unfold St.sumsBad St.sumsN; rw [HN.out]
  have hbx : (nb false s.bad s.l 2 || !decide (nv false s.bad s.l (n0 : Int) 2 ≤ 256)) = false := by rw [← hbe]; exact hbad
  have HBX := Lib.hid hbx
  clear hbx hbad
  clear hp hl hn0 hn0' hx
  go_enter Try.func18, Try.ntmps18
  go_wp2_with fail
  go_still_tail 10, (by kernel_rfl)
  go_wp2_with fail
  refine (number_pg 46 _ B g false s.bad s.l s.sums s.body bv _ dv _ (n0 : Int) 2 (by omega) (by omega) (by omega) (by omega) HP.out.hB (fun e => by simp at e) HP.out.dlt HP.out.blk HP.out.r).mono ?_
  rintro e w1 ⟨bv1, rfl, h1, h2, h3⟩
  have d0 : w1.cell? ⟨g, 0, none⟩ = some (.bool (nb false s.bad s.l 2)) := by rw [cell_blk h1]; rfl
  have d1 : w1.cell? ⟨g, 1, none⟩ = some (.bool false) := by rw [cell_blk h1]; rfl
  have d11 : w1.cell? ⟨g, 11, none⟩ = some (.slice A0 n0 cap0) := by rw [cell_blk h1]; rfl
  have f0 : ∀ o, w1.frozen? ⟨g, o, none⟩ = false := fun _ => frozen_blk h1 _
  have H1 := Lib.hid h1
  have H2 := Lib.hid h2
  have H3 := Lib.hid (Kp.ofDrew h3)
  clear h1 h2 h3
  go_wp2_with fail
  refine (must_any g 0 _ _ _ d0 (f0 _)).mono ?_
  rintro e w2 ⟨rfl, rfl⟩
  rw [HBX.out]
  have hpb := setCell_blk H1.out 0 (.bool false)
  have hpr := H2.out.kp ((Kp.refl (fun b => b = g) _).setCell ⟨g, 0, none⟩ (.bool false) (fun _ => rfl)) H2.out.bg H2.out.sg H2.out.dg
  have hkk := H3.out.setCell ⟨g, 0, none⟩ (.bool false) (fun _ => HP.out.r.gB)
  have hblt := lt_of_blk hpb
  have g11 : (w1.setCell ⟨g, 0, none⟩ (.bool false)).cell? ⟨g, 11, none⟩ = some (.slice A0 n0 cap0) := by rw [cell_blk hpb]; rfl
  obtain ⟨n1, hn1⟩ : ∃ n1 : Nat, nv false s.bad s.l (n0 : Int) 2 = n1 := ⟨_, (Int.toNat_of_nonneg hx0).symm⟩
  have hn1' : n1 ≤ 256 := by have := HBX.out; simp at this; omega
  have HN1 := Lib.hid hn1
  have HPB := Lib.hid hpb
  have HPR := Lib.hid hpr
  have HKK := Lib.hid hkk
  have HBE := Lib.hid hbe
  rw [hn1]
  clear hpb hpr hkk hbe hn1 e2 hx0
  go_wp2_with (at_make; refine wpList_make_Own _ rfl _ _ 26 rfl 24 (.int .u32 0) 1 4 Try.info24 (by kernel_rfl) .i64 .i64 _ _ n1 rfl rfl rfl rfl (by omega) (by omega) ?_; intro w3 ho3 hk3 hz3; have hp3 := hk3.heap HPB.out (fun x => x); have k11 : w3.cell? ⟨g, 11, none⟩ = some (.slice A0 n0 cap0) := (cell_blk hp3 11).trans rfl; have kf := fun o => frozen_blk hp3 o; have HP3 := Lib.hid hp3; have HO3 := Lib.hid ho3; have HK3 := Lib.hid hk3; clear hp3 ho3 hk3)
  have hsz : (w1.setCell ⟨g, 0, none⟩ (.bool false)).heap.size = w1.heap.size := by simp
  have hkx : Kp (fun b => b = g) (w1.setCell ⟨g, 0, none⟩ (.bool false)) (w3.setCell ⟨g, 11, none⟩ (.slice (some ⟨w1.heap.size, 0, none⟩) n1 n1)) := (HK3.out.mono (fun _ _ x => x.elim)).setCell _ _ (fun _ => rfl)
  have hkk : Kp B w (w3.setCell ⟨g, 11, none⟩ (.slice (some ⟨w1.heap.size, 0, none⟩) n1 n1)) := HKK.out.trans hkx (fun b _ e => by cases (show b = g from e); exact HP.out.r.gB)
  have hB1 : ∀ k, w1.heap.size ≤ k → B k := fun k hk => HP.out.hB k (Nat.le_trans H3.out.size hk)
  have hnew : ∀ k, k < w1.heap.size → k ≠ w1.heap.size := fun k h => by omega
  have hgl : g < w1.heap.size := by rw [← hsz]; exact hblt
  have hlist : (madeCells (Value.int .u32 0).cells (n1 * 1)).toList = (List.replicate n1 (0 : Int)).map (Value.int .u32) := by rw [Nat.mul_one]; simp [Value.cells, toList_madeCells_one]
  have hbl : ∀ k, bv1.ownBlock = some k → k < w1.heap.size := fun k hk => by
    have := H2.out.blt k hk; exact this
  have hnn : (s.sumsN false).toNat = n1 := by unfold St.sumsN; rw [HN.out, HN1.out]; simp
  have hn2 : (s.sumsHead false).sums.length = n1 := by
    unfold St.sumsHead; rw [if_neg (by simp [HBE.out, HBX.out])]; simp [hnn]
  have HN2 := Lib.hid hn2
  clear hn2
  have HP2 : Hid (Pg (w3.setCell ⟨g, 11, none⟩ (.slice (some ⟨w1.heap.size, 0, none⟩) n1 n1)) B g false (s.sumsHead false) bv1 (.slice (some ⟨w1.heap.size, 0, none⟩) n1 n1) dv) := by
    have hs2 : (s.sumsHead false).sums = List.replicate n1 0 := by unfold St.sumsHead; rw [if_neg (by simp [HBE.out, HBX.out])]; simp [hnn]
    refine ⟨?_, ?_, HP.out.ok, fun k hk => Pg.lt (w := w) (HP.out.dlt k hk) hkk, (fun k hk => HP.out.hB k (Nat.le_trans hkk.size hk)), ?_, (by simp), (by simp)⟩
    · have := setCell_blk HP3.out 11 (.slice (some ⟨w1.heap.size, 0, none⟩) n1 n1)
      unfold St.sumsHead; rw [HBE.out, HBX.out]; simpa [PgB, Mg.cells] using this
    · have hr := HPR.out.kp hkx HPR.out.bg HPR.out.sg HPR.out.dg
      have hdl : ∀ k, lvB dv = some k → k < w1.heap.size := fun k hk => Pg.lt (w := w) (HP.out.dlt k hk) H3.out
      rw [hs2]
      unfold St.sumsHead
      rw [HN.out]
      exact { hr with
        sums := by
          rw [hlist] at HO3
          have := HO3.out.setCell ⟨g, 11, none⟩ (.slice (some ⟨w1.heap.size, 0, none⟩) n1 n1) (fun k hk => by simp [Value.ownBlock] at hk; subst hk; exact fun e => by have e' : w1.heap.size = g := e; omega)
          simpa using this
        sB := fun k hk => hB1 k (by simp [Value.ownBlock] at hk; omega)
        sg := fun k hk => by simp [Value.ownBlock] at hk; omega
        bs := fun k hk h => by simp [Value.ownBlock] at h; have := hbl k hk; omega
        ds := fun k hk h => by simp [Value.ownBlock] at h; have := hdl k hk; omega }
    · rw [hs2]; intro c hc; rw [(List.mem_replicate.1 hc).2]; omega
  have HK2 := Lib.hid hkk
  clear hkk hkx hnn hlist hbl hnew HBX HBE
  go_wp2_with fail
  go_loopw [3, 50] (fun _ i W' => ∃ (k : Nat) (bv' : Value), k ≤ n1 ∧ i = .int .i64 k ∧ Pg W' B g false ((s.sumsHead false).sumsTo false k) bv' (.slice (some ⟨w1.heap.size, 0, none⟩) n1 n1) dv ∧ Kp B w W') (fun _ i _ => n1 - (intOf i).toNat)
  case atStart => exact ⟨0, bv1, by omega, rfl, HP2.out, HK2.out⟩
  case round =>
    obtain ⟨k, bv', hk, rfl, hp, hkp⟩ := hrel
    have hkl : k < n1 → ((s.sumsHead false).sumsTo false k).sums[k]? = some (((s.sumsHead false).sumsTo false k).sums.getD k 0) := fun h => by
      have h2 := sumsTo_len false (s.sumsHead false) k
      rw [HN2.out] at h2
      rw [List.getD_eq_getElem?_getD, List.getElem?_eq_getElem (by omega)]; rfl
    have c11 : wr.cell? ⟨g, 11, none⟩ = some (.slice (some ⟨w1.heap.size, 0, none⟩) n1 n1) := by rw [cell_blk hp.blk]; rfl
    have HQ := Lib.hid hp.drew
    have HKP := Lib.hid hkp
    have HKL := Lib.hid hkl
    clear hp hkp hkl
    by_cases hlt : k < n1
    · have hso := HQ.out.r.sums.isSome (by omega)
      clear hso
      go_wp2_with fail
      go_still_tail 10, (by kernel_rfl)
      go_wp2_with fail
      have ha := HQ.out.s32 _ (List.mem_of_getElem? (HKL.out hlt))
      refine (field32_sum 46 _ B g false _ _ _ _ bv' dv w1.heap.size 0 n1 n1 _ k k (by omega) _ ha.1 ha.2 HQ.out.hB (fun e => by simp at e) HQ.out.dlt HQ.out.blk HQ.out.r (HKL.out hlt)).mono ?_
      rintro e w3 ⟨bv3, rfl, h1, h2, h3⟩
      have HQ3 : Hid (Pg w3 B g false ((s.sumsHead false).sumsTo false (k + 1)) bv3 _ dv) := HQ.out.sumStep (HKL.out hlt) h1 h2 h3
      have HK3 : Hid (Kp B w w3) := (HKP.out.drew.trans' h3)
      clear h1 h2 h3 ha
      go_wp2
      go_roundw
      case rel => exact ⟨k + 1, bv3, by omega, by go_num, HQ3.out, HK3.out⟩
      case measure => simp [intOf]; omega
    · have hkn : k = n1 := by omega
      have HKN := Lib.hid hkn
      clear hkn
      go_wp2
      go_end0
      refine ⟨rfl, HKP.out, bv', .slice (some ⟨w1.heap.size, 0, none⟩) n1 n1, dv, ?_⟩
      have h := HQ.out
      rw [HKN.out] at h
      unfold St.sumsF
      rw [HN2.out]
      exact h.undrew

end Go.Proofs.Ytmgfiblnbbjjdaa
