/- The fields of a page. -/
import Derived.Test.YtmgfiblnbbjjdaaMD
import Derived.Outline
set_option linter.unusedSimpArgs false
set_option linter.unusedVariables false
namespace Go.Proofs.Ytmgfiblnbbjjdaa
open Go Go.Proofs Go.RowKit

/-- A message's fields but its slices. -/
structure Mg where
  (ty life frame base : Int) (has full : Bool) (w h seq ek ex ey ec : Int)

def Mg.cells (m : Mg) (sv dv : Value) : List Value :=
  [.int .u8 m.ty, .int .u32 m.life, .int .u32 m.frame, .int .u32 m.base, .bool m.has, .bool m.full, .int .u16 m.w, .int .u16 m.h, sv, .int .u32 m.seq, .int .u8 m.ek, .int .u16 m.ex, .int .u16 m.ey, .int .u32 m.ec, dv]

structure Mg.ok (m : Mg) : Prop where
  ty : 0 ≤ m.ty ∧ m.ty < 256
  life : 0 ≤ m.life ∧ m.life < 4294967296
  frame : 0 ≤ m.frame ∧ m.frame < 4294967296
  base : 0 ≤ m.base ∧ m.base < 4294967296
  w : 0 ≤ m.w ∧ m.w < 65536
  h : 0 ≤ m.h ∧ m.h < 65536
  seq : 0 ≤ m.seq ∧ m.seq < 4294967296
  ek : 0 ≤ m.ek ∧ m.ek < 256
  ex : 0 ≤ m.ex ∧ m.ex < 65536
  ey : 0 ≤ m.ey ∧ m.ey < 65536
  ec : 0 ≤ m.ec ∧ m.ec < 4294967296

/-- A page's state: whether something is wrong, the bytes (laid, or left), the message. -/
structure St where
  (bad : Bool) (l : List Int) (m : Mg) (sums body : List Int)

structure Pg (w : World) (B : Nat → Prop) (g : Nat) (wr : Bool) (s : St) (bv sv dv : Value) : Prop where
  blk : PgB 46 w g wr s.bad bv (s.m.cells sv dv)
  r : PgR w B g wr s.l s.sums s.body bv sv dv
  ok : s.m.ok
  dlt : ∀ k, lvB dv = some k → k < w.heap.size
  hB : ∀ k, w.heap.size ≤ k → B k
  s32 : ∀ c ∈ s.sums, 0 ≤ c ∧ c < 4294967296
  slen : wr = true → s.sums.length ≤ 256
  blen : wr = true → s.body.length ≤ 524288

/-- What a function of a page does. -/
def Goes (f : FuncId) (wr : Bool) (F : St → St) : Prop := ∀ (w : World) (B : Nat → Prop) (g : Nat) (s : St) (bv sv dv : Value), Pg w B g wr s bv sv dv → (wr = true → s.l.length ≤ 100000) →
  Calls Try.prog f #[.pointer (some ⟨g, 0, none⟩)] w fun e w' => e = .returned (.tuple #[]) ∧ Kp B w w' ∧ ∃ bv' sv' dv', Pg w' B g wr (F s) bv' sv' dv'

def St.num (wr : Bool) (s : St) (v : Int) (n : Nat) (f : Mg → Int → Mg) : St :=
  { s with bad := nb wr s.bad s.l n, l := nl wr s.bad s.l v n, m := f s.m (nv wr s.bad s.l v n) }

def St.life (wr : Bool) (s : St) : St := s.num wr s.m.life 4 fun m x => { m with life := x }
def St.frame (wr : Bool) (s : St) : St := s.num wr s.m.frame 4 fun m x => { m with frame := x }
def St.base (wr : Bool) (s : St) : St := s.num wr s.m.base 4 fun m x => { m with base := x }
def St.seq (wr : Bool) (s : St) : St := s.num wr s.m.seq 4 fun m x => { m with seq := x }
def St.w (wr : Bool) (s : St) : St := s.num wr s.m.w 2 fun m x => { m with w := x }
def St.h (wr : Bool) (s : St) : St := s.num wr s.m.h 2 fun m x => { m with h := x }
def St.ek (wr : Bool) (s : St) : St := s.num wr s.m.ek 1 fun m x => { m with ek := x }
def St.ex (wr : Bool) (s : St) : St := s.num wr s.m.ex 2 fun m x => { m with ex := x }
def St.ey (wr : Bool) (s : St) : St := s.num wr s.m.ey 2 fun m x => { m with ey := x }
def St.ec (wr : Bool) (s : St) : St := s.num wr s.m.ec 4 fun m x => { m with ec := x }

def St.tr (wr : Bool) (s : St) (x : Bool) (f : Mg → Bool → Mg) : St :=
  { s with bad := nb wr s.bad s.l 1 || !decide (nv wr s.bad s.l (if x then 1 else 0) 1 < 2), l := nl wr s.bad s.l (if x then 1 else 0) 1, m := f s.m (nv wr s.bad s.l (if x then 1 else 0) 1 == 1) }
def St.has (wr : Bool) (s : St) : St := s.tr wr s.m.has fun m x => { m with has := x }
def St.full (wr : Bool) (s : St) : St := s.tr wr s.m.full fun m x => { m with full := x }
def St.size (wr : Bool) (s : St) : St := (s.w wr).h wr
def St.event (wr : Bool) (s : St) : St := (((s.ek wr).ex wr).ey wr).ec wr

theorem Pg.lt {w w' : World} {S : Nat → Prop} {k : Nat} (h : k < w.heap.size) (hk : Kp S w w') : k < w'.heap.size := Nat.lt_of_lt_of_le h hk.size

theorem Pg.drew {w : World} {B : Nat → Prop} {g : Nat} {wr : Bool} {s : St} {bv sv dv : Value} (h : Pg w B g wr s bv sv dv) : Pg w.drew B g wr s bv sv dv :=
  ⟨h.blk, h.r.kp ((Kp.refl (fun _ => False) w).drew) (fun _ _ x => x) (fun _ _ x => x) (fun _ _ x => x), h.ok, h.dlt, h.hB, h.s32, h.slen, h.blen⟩

theorem life_goes (wr : Bool) : Goes 15 wr (St.life wr) := by
  intro w B g s bv sv dv hp hl
  have hl' : wr = true → s.l.length ≤ 999990 := fun e => by have := hl e; omega
  have Hl := Lib.hid hl'
  have HP := Lib.hid hp.drew
  clear hp hl hl'
  go_enter Try.func15, Try.ntmps15
  go_wp2_with fail
  go_still_tail 7, (by kernel_rfl)
  go_wp2_with fail
  refine (field32_pg 46 _ B g wr s.bad s.l s.sums s.body bv sv dv _ 1 s.m.life HP.out.ok.life.1 HP.out.hB Hl.out HP.out.dlt HP.out.blk HP.out.r 4 rfl HP.out.ok.life.2 rfl).mono ?_
  rintro e w' ⟨bv', rfl, h1, h2, h3⟩
  go_wp2
  go_end0
  have hb : 0 ≤ nv wr s.bad s.l s.m.life 4 ∧ nv wr s.bad s.l s.m.life 4 < 4294967296 := by have := nv_bd (bad := s.bad) (n := 4) HP.out.r.byts HP.out.ok.life.1 (by have := HP.out.ok.life.2; omega); omega
  exact ⟨rfl, Kp.ofDrew h3, bv', sv, dv, h1, h2, { HP.out.ok with life := hb }, fun k hk => Pg.lt (HP.out.dlt k hk) h3, (fun k hk => HP.out.hB k (Nat.le_trans h3.size hk)), HP.out.s32, HP.out.slen, HP.out.blen⟩

theorem frame_goes (wr : Bool) : Goes 17 wr (St.frame wr) := by
  intro w B g s bv sv dv hp hl
  have hl' : wr = true → s.l.length ≤ 999990 := fun e => by have := hl e; omega
  have Hl := Lib.hid hl'
  have HP := Lib.hid hp.drew
  clear hp hl hl'
  go_enter Try.func17, Try.ntmps17
  go_wp2_with fail
  go_still_tail 7, (by kernel_rfl)
  go_wp2_with fail
  refine (field32_pg 46 _ B g wr s.bad s.l s.sums s.body bv sv dv _ 2 s.m.frame HP.out.ok.frame.1 HP.out.hB Hl.out HP.out.dlt HP.out.blk HP.out.r 5 rfl HP.out.ok.frame.2 rfl).mono ?_
  rintro e w' ⟨bv', rfl, h1, h2, h3⟩
  go_wp2
  go_end0
  have hb : 0 ≤ nv wr s.bad s.l s.m.frame 4 ∧ nv wr s.bad s.l s.m.frame 4 < 4294967296 := by have := nv_bd (bad := s.bad) (n := 4) HP.out.r.byts HP.out.ok.frame.1 (by have := HP.out.ok.frame.2; omega); omega
  exact ⟨rfl, Kp.ofDrew h3, bv', sv, dv, h1, h2, { HP.out.ok with frame := hb }, fun k hk => Pg.lt (HP.out.dlt k hk) h3, (fun k hk => HP.out.hB k (Nat.le_trans h3.size hk)), HP.out.s32, HP.out.slen, HP.out.blen⟩

theorem base_goes (wr : Bool) : Goes 21 wr (St.base wr) := by
  intro w B g s bv sv dv hp hl
  have hl' : wr = true → s.l.length ≤ 999990 := fun e => by have := hl e; omega
  have Hl := Lib.hid hl'
  have HP := Lib.hid hp.drew
  clear hp hl hl'
  go_enter Try.func21, Try.ntmps21
  go_wp2_with fail
  go_still_tail 7, (by kernel_rfl)
  go_wp2_with fail
  refine (field32_pg 46 _ B g wr s.bad s.l s.sums s.body bv sv dv _ 3 s.m.base HP.out.ok.base.1 HP.out.hB Hl.out HP.out.dlt HP.out.blk HP.out.r 6 rfl HP.out.ok.base.2 rfl).mono ?_
  rintro e w' ⟨bv', rfl, h1, h2, h3⟩
  go_wp2
  go_end0
  have hb : 0 ≤ nv wr s.bad s.l s.m.base 4 ∧ nv wr s.bad s.l s.m.base 4 < 4294967296 := by have := nv_bd (bad := s.bad) (n := 4) HP.out.r.byts HP.out.ok.base.1 (by have := HP.out.ok.base.2; omega); omega
  exact ⟨rfl, Kp.ofDrew h3, bv', sv, dv, h1, h2, { HP.out.ok with base := hb }, fun k hk => Pg.lt (HP.out.dlt k hk) h3, (fun k hk => HP.out.hB k (Nat.le_trans h3.size hk)), HP.out.s32, HP.out.slen, HP.out.blen⟩

theorem seq_goes (wr : Bool) : Goes 20 wr (St.seq wr) := by
  intro w B g s bv sv dv hp hl
  have hl' : wr = true → s.l.length ≤ 999990 := fun e => by have := hl e; omega
  have Hl := Lib.hid hl'
  have HP := Lib.hid hp.drew
  clear hp hl hl'
  go_enter Try.func20, Try.ntmps20
  go_wp2_with fail
  go_still_tail 7, (by kernel_rfl)
  go_wp2_with fail
  refine (field32_pg 46 _ B g wr s.bad s.l s.sums s.body bv sv dv _ 9 s.m.seq HP.out.ok.seq.1 HP.out.hB Hl.out HP.out.dlt HP.out.blk HP.out.r 12 rfl HP.out.ok.seq.2 rfl).mono ?_
  rintro e w' ⟨bv', rfl, h1, h2, h3⟩
  go_wp2
  go_end0
  have hb : 0 ≤ nv wr s.bad s.l s.m.seq 4 ∧ nv wr s.bad s.l s.m.seq 4 < 4294967296 := by have := nv_bd (bad := s.bad) (n := 4) HP.out.r.byts HP.out.ok.seq.1 (by have := HP.out.ok.seq.2; omega); omega
  exact ⟨rfl, Kp.ofDrew h3, bv', sv, dv, h1, h2, { HP.out.ok with seq := hb }, fun k hk => Pg.lt (HP.out.dlt k hk) h3, (fun k hk => HP.out.hB k (Nat.le_trans h3.size hk)), HP.out.s32, HP.out.slen, HP.out.blen⟩

set_option maxHeartbeats 400000 in
theorem size_goes (wr : Bool) : Goes 19 wr (St.size wr) := by
  intro w B g s bv sv dv hp hl
  have HL := Lib.hid hl
  have HP0 := Lib.hid hp
  clear hp hl
  go_enter Try.func19, Try.ntmps19
  go_wp2_with fail
  go_still_tail 7, (by kernel_rfl)
  go_wp2_with fail
  have HQ0 := Lib.hid HP0.out.drew
  have Hl0 : Hid (wr = true → (s).l.length ≤ 999990) := fun e => by have := HL.out e; simp [St.num,  nl, e, Enc_len] ; omega
  refine (field16_pg 46 _ B g wr (s).bad (s).l (s).sums (s).body bv sv dv _ 6 (s).m.w HQ0.out.ok.w.1 HQ0.out.hB Hl0.out HQ0.out.dlt HQ0.out.blk HQ0.out.r 9 rfl HQ0.out.ok.w.2 rfl).mono ?_
  rintro e w1 ⟨bv1, rfl, h1, h2, h3⟩
  have hb : 0 ≤ nv wr (s).bad (s).l (s).m.w 2 ∧ nv wr (s).bad (s).l (s).m.w 2 < 65536 := by have := nv_bd (bad := (s).bad) (n := 2) HQ0.out.r.byts HQ0.out.ok.w.1 (by have := HQ0.out.ok.w.2; omega); omega
  have HK1 := Lib.hid (Kp.ofDrew h3)
  have HP1 : Hid (Pg w1 B g wr ((s).w wr) bv1 sv dv) := ⟨h1, h2, { HQ0.out.ok with w := hb }, fun k hk => Pg.lt (HQ0.out.dlt k hk) h3, (fun k hk => HQ0.out.hB k (Nat.le_trans h3.size hk)), HQ0.out.s32, HQ0.out.slen, HQ0.out.blen⟩
  clear h1 h2 h3 hb
  go_wp2_with fail
  go_still_tail 7, (by kernel_rfl)
  go_wp2_with fail
  have HQ1 := Lib.hid HP1.out.drew
  have Hl1 : Hid (wr = true → ((s).w wr).l.length ≤ 999990) := fun e => by have := HL.out e; simp [St.num, St.w, nl, e, Enc_len] ; omega
  refine (field16_pg 46 _ B g wr ((s).w wr).bad ((s).w wr).l ((s).w wr).sums ((s).w wr).body bv1 sv dv _ 7 ((s).w wr).m.h HQ1.out.ok.h.1 HQ1.out.hB Hl1.out HQ1.out.dlt HQ1.out.blk HQ1.out.r 10 rfl HQ1.out.ok.h.2 rfl).mono ?_
  rintro e w2 ⟨bv2, rfl, h1, h2, h3⟩
  have hb : 0 ≤ nv wr ((s).w wr).bad ((s).w wr).l ((s).w wr).m.h 2 ∧ nv wr ((s).w wr).bad ((s).w wr).l ((s).w wr).m.h 2 < 65536 := by have := nv_bd (bad := ((s).w wr).bad) (n := 2) HQ1.out.r.byts HQ1.out.ok.h.1 (by have := HQ1.out.ok.h.2; omega); omega
  have HK2 := Lib.hid (Kp.ofDrew h3)
  have HP2 : Hid (Pg w2 B g wr (((s).w wr).h wr) bv2 sv dv) := ⟨h1, h2, { HQ1.out.ok with h := hb }, fun k hk => Pg.lt (HQ1.out.dlt k hk) h3, (fun k hk => HQ1.out.hB k (Nat.le_trans h3.size hk)), HQ1.out.s32, HQ1.out.slen, HQ1.out.blen⟩
  clear h1 h2 h3 hb
  go_wp2
  go_end0
  exact ⟨rfl, (HK1.out.trans' HK2.out), bv2, sv, dv, HP2.out⟩

set_option maxHeartbeats 400000 in
theorem event_goes (wr : Bool) : Goes 24 wr (St.event wr) := by
  intro w B g s bv sv dv hp hl
  have HL := Lib.hid hl
  have HP0 := Lib.hid hp
  clear hp hl
  go_enter Try.func24, Try.ntmps24
  go_wp2_with fail
  go_still_tail 8, (by kernel_rfl)
  go_wp2_with fail
  have HQ0 := Lib.hid HP0.out.drew
  have Hl0 : Hid (wr = true → (s).l.length ≤ 999990) := fun e => by have := HL.out e; simp [St.num,  nl, e, Enc_len] ; omega
  refine (field8_pg 46 _ B g wr (s).bad (s).l (s).sums (s).body bv sv dv _ 10 (s).m.ek HQ0.out.ok.ek.1 HQ0.out.hB Hl0.out HQ0.out.dlt HQ0.out.blk HQ0.out.r 13 rfl HQ0.out.ok.ek.2 rfl).mono ?_
  rintro e w1 ⟨bv1, rfl, h1, h2, h3⟩
  have hb : 0 ≤ nv wr (s).bad (s).l (s).m.ek 1 ∧ nv wr (s).bad (s).l (s).m.ek 1 < 256 := by have := nv_bd (bad := (s).bad) (n := 1) HQ0.out.r.byts HQ0.out.ok.ek.1 (by have := HQ0.out.ok.ek.2; omega); omega
  have HK1 := Lib.hid (Kp.ofDrew h3)
  have HP1 : Hid (Pg w1 B g wr ((s).ek wr) bv1 sv dv) := ⟨h1, h2, { HQ0.out.ok with ek := hb }, fun k hk => Pg.lt (HQ0.out.dlt k hk) h3, (fun k hk => HQ0.out.hB k (Nat.le_trans h3.size hk)), HQ0.out.s32, HQ0.out.slen, HQ0.out.blen⟩
  clear h1 h2 h3 hb
  go_wp2_with fail
  go_still_tail 8, (by kernel_rfl)
  go_wp2_with fail
  have HQ1 := Lib.hid HP1.out.drew
  have Hl1 : Hid (wr = true → ((s).ek wr).l.length ≤ 999990) := fun e => by have := HL.out e; simp [St.num, St.ek, nl, e, Enc_len] ; omega
  refine (field16_pg 46 _ B g wr ((s).ek wr).bad ((s).ek wr).l ((s).ek wr).sums ((s).ek wr).body bv1 sv dv _ 11 ((s).ek wr).m.ex HQ1.out.ok.ex.1 HQ1.out.hB Hl1.out HQ1.out.dlt HQ1.out.blk HQ1.out.r 14 rfl HQ1.out.ok.ex.2 rfl).mono ?_
  rintro e w2 ⟨bv2, rfl, h1, h2, h3⟩
  have hb : 0 ≤ nv wr ((s).ek wr).bad ((s).ek wr).l ((s).ek wr).m.ex 2 ∧ nv wr ((s).ek wr).bad ((s).ek wr).l ((s).ek wr).m.ex 2 < 65536 := by have := nv_bd (bad := ((s).ek wr).bad) (n := 2) HQ1.out.r.byts HQ1.out.ok.ex.1 (by have := HQ1.out.ok.ex.2; omega); omega
  have HK2 := Lib.hid (Kp.ofDrew h3)
  have HP2 : Hid (Pg w2 B g wr (((s).ek wr).ex wr) bv2 sv dv) := ⟨h1, h2, { HQ1.out.ok with ex := hb }, fun k hk => Pg.lt (HQ1.out.dlt k hk) h3, (fun k hk => HQ1.out.hB k (Nat.le_trans h3.size hk)), HQ1.out.s32, HQ1.out.slen, HQ1.out.blen⟩
  clear h1 h2 h3 hb
  go_wp2_with fail
  go_still_tail 8, (by kernel_rfl)
  go_wp2_with fail
  have HQ2 := Lib.hid HP2.out.drew
  have Hl2 : Hid (wr = true → (((s).ek wr).ex wr).l.length ≤ 999990) := fun e => by have := HL.out e; simp [St.num, St.ek, St.ex, nl, e, Enc_len] ; omega
  refine (field16_pg 46 _ B g wr (((s).ek wr).ex wr).bad (((s).ek wr).ex wr).l (((s).ek wr).ex wr).sums (((s).ek wr).ex wr).body bv2 sv dv _ 12 (((s).ek wr).ex wr).m.ey HQ2.out.ok.ey.1 HQ2.out.hB Hl2.out HQ2.out.dlt HQ2.out.blk HQ2.out.r 15 rfl HQ2.out.ok.ey.2 rfl).mono ?_
  rintro e w3 ⟨bv3, rfl, h1, h2, h3⟩
  have hb : 0 ≤ nv wr (((s).ek wr).ex wr).bad (((s).ek wr).ex wr).l (((s).ek wr).ex wr).m.ey 2 ∧ nv wr (((s).ek wr).ex wr).bad (((s).ek wr).ex wr).l (((s).ek wr).ex wr).m.ey 2 < 65536 := by have := nv_bd (bad := (((s).ek wr).ex wr).bad) (n := 2) HQ2.out.r.byts HQ2.out.ok.ey.1 (by have := HQ2.out.ok.ey.2; omega); omega
  have HK3 := Lib.hid (Kp.ofDrew h3)
  have HP3 : Hid (Pg w3 B g wr ((((s).ek wr).ex wr).ey wr) bv3 sv dv) := ⟨h1, h2, { HQ2.out.ok with ey := hb }, fun k hk => Pg.lt (HQ2.out.dlt k hk) h3, (fun k hk => HQ2.out.hB k (Nat.le_trans h3.size hk)), HQ2.out.s32, HQ2.out.slen, HQ2.out.blen⟩
  clear h1 h2 h3 hb
  go_wp2_with fail
  go_still_tail 8, (by kernel_rfl)
  go_wp2_with fail
  have HQ3 := Lib.hid HP3.out.drew
  have Hl3 : Hid (wr = true → ((((s).ek wr).ex wr).ey wr).l.length ≤ 999990) := fun e => by have := HL.out e; simp [St.num, St.ek, St.ex, St.ey, nl, e, Enc_len] ; omega
  refine (field32_pg 46 _ B g wr ((((s).ek wr).ex wr).ey wr).bad ((((s).ek wr).ex wr).ey wr).l ((((s).ek wr).ex wr).ey wr).sums ((((s).ek wr).ex wr).ey wr).body bv3 sv dv _ 13 ((((s).ek wr).ex wr).ey wr).m.ec HQ3.out.ok.ec.1 HQ3.out.hB Hl3.out HQ3.out.dlt HQ3.out.blk HQ3.out.r 16 rfl HQ3.out.ok.ec.2 rfl).mono ?_
  rintro e w4 ⟨bv4, rfl, h1, h2, h3⟩
  have hb : 0 ≤ nv wr ((((s).ek wr).ex wr).ey wr).bad ((((s).ek wr).ex wr).ey wr).l ((((s).ek wr).ex wr).ey wr).m.ec 4 ∧ nv wr ((((s).ek wr).ex wr).ey wr).bad ((((s).ek wr).ex wr).ey wr).l ((((s).ek wr).ex wr).ey wr).m.ec 4 < 4294967296 := by have := nv_bd (bad := ((((s).ek wr).ex wr).ey wr).bad) (n := 4) HQ3.out.r.byts HQ3.out.ok.ec.1 (by have := HQ3.out.ok.ec.2; omega); omega
  have HK4 := Lib.hid (Kp.ofDrew h3)
  have HP4 : Hid (Pg w4 B g wr (((((s).ek wr).ex wr).ey wr).ec wr) bv4 sv dv) := ⟨h1, h2, { HQ3.out.ok with ec := hb }, fun k hk => Pg.lt (HQ3.out.dlt k hk) h3, (fun k hk => HQ3.out.hB k (Nat.le_trans h3.size hk)), HQ3.out.s32, HQ3.out.slen, HQ3.out.blen⟩
  clear h1 h2 h3 hb
  go_wp2
  go_end0
  exact ⟨rfl, (((HK1.out.trans' HK2.out).trans' HK3.out).trans' HK4.out), bv4, sv, dv, HP4.out⟩

end Go.Proofs.Ytmgfiblnbbjjdaa
