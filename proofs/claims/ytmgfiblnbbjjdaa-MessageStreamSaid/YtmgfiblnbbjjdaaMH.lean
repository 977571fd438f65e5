/- The clones; the body of a page. -/
import Derived.Test.YtmgfiblnbbjjdaaMG
set_option linter.unusedSimpArgs false
set_option linter.unusedVariables false
namespace Go.Proofs.Ytmgfiblnbbjjdaa
open Go Go.Proofs Go.RowKit

theorem sums_goes (wr : Bool) : Goes 18 wr (St.sumsF wr) := by
  intro w B g s bv sv dv hp hl
  cases wr
  · cases hb : s.sumsBad false
    · exact sums_rm w B g s bv sv dv hp hl hb
    · exact sums_rb w B g s bv sv dv hp hl hb
  · exact sums_wr w B g s bv sv dv hp hl

set_option maxHeartbeats 400000 in
theorem clone8 (w : World) (v : Value) (l : List Int) (hr : RdI w .u8 v l) (hl : l.length ≤ 1099511627786) :
    Calls Try.prog 30 #[v] w fun e w' => ∃ A n c, e = .returned (.slice A n c) ∧ Own w' 5 1 (.slice A n c) (l.map (Value.int .u8)) ∧ Kp (fun _ => False) w w' ∧ (∀ k, (Value.slice A n c).ownBlock = some k → w.heap.size ≤ k) := by
  obtain ⟨A, n, cap, rfl, h1, h2, h3, h4⟩ := hr
  have hn : l.length = n := by simpa using h1
  have HR : ∀ W, Kp (fun _ => False) w W → Hid (RdI W .u8 (.slice A n cap) l) := fun W hW => Lib.hid (Rd.kp ⟨A, n, cap, rfl, h1, h2, h3, h4⟩ hW (fun _ _ _ x => x))
  cases A with
  | none =>
    have hl0 : l = [] := by
      cases l with
      | nil => rfl
      | cons x l => obtain ⟨g, off, h, _⟩ := h4 0 (.int .u8 x) rfl; simp at h
    have HL0 := Lib.hid hl0
    clear h1 h4 hn hl0 HR
    have he := fun (w : World) => Lib.run_eql_slice_nil (P := Try.prog) w 23 5 none n cap 0 0 Try.underlying23
    go_enter Try.func30, Try.ntmps30
    go_wp2
    go_ret
    exact ⟨none, 0, 0, rfl, .inl ⟨rfl, by rw [HL0.out]; rfl⟩, Kp.refl _ _, by simp [Value.ownBlock]⟩
  | some a =>
    have he := fun (w : World) => Lib.run_eql_slice_nil (P := Try.prog) w 23 5 (some a) n cap 0 0 Try.underlying23
    clear h1 h4 hn
    go_enter Try.func30, Try.ntmps30
    go_wp2_with (at_builtin; refine wpList_append_Own _ rfl _ _ 23 rfl 5 (.int .u8 0) 1 1 Try.info5 (by kernel_rfl) rfl (by omega) _ [] rfl (Own.empty (alloc_new w _)) _ (l.map (Value.int .u8)) rfl (HR _ ((Kp.refl _ _).alloc _)).out (by simp [Value.oneCell']) 1099511627790 (by simp; omega) (by omega) (by omega) ?_; intro A2 n2 c2 w2 ho2 hk2 hb2; have HO := Lib.hid ho2; have HK := Lib.hid hk2; have HB := Lib.hid hb2; clear ho2 hk2 hb2)
    go_ret
    refine ⟨A2, n2, c2, rfl, by simpa using HO.out, ((Kp.refl (fun _ => False) w).alloc _).trans HK.out (fun b hb e => by have e' : w.heap.size = b := Option.some.inj e; omega), fun k hk => ?_⟩
    rcases HB.out k hk with h | h
    · have e' : w.heap.size = k := Option.some.inj h; omega
    · simp at h; omega

set_option maxHeartbeats 400000 in
theorem clone32 (w : World) (v : Value) (l : List Int) (hr : RdI w .u32 v l) (hl : l.length ≤ 1099511627786) :
    Calls Try.prog 9 #[v] w fun e w' => ∃ A n c, e = .returned (.slice A n c) ∧ Own w' 24 1 (.slice A n c) (l.map (Value.int .u32)) ∧ Kp (fun _ => False) w w' ∧ (∀ k, (Value.slice A n c).ownBlock = some k → w.heap.size ≤ k) := by
  obtain ⟨A, n, cap, rfl, h1, h2, h3, h4⟩ := hr
  have hn : l.length = n := by simpa using h1
  have HR : ∀ W, Kp (fun _ => False) w W → Hid (RdI W .u32 (.slice A n cap) l) := fun W hW => Lib.hid (Rd.kp ⟨A, n, cap, rfl, h1, h2, h3, h4⟩ hW (fun _ _ _ x => x))
  cases A with
  | none =>
    have hl0 : l = [] := by
      cases l with
      | nil => rfl
      | cons x l => obtain ⟨g, off, h, _⟩ := h4 0 (.int .u32 x) rfl; simp at h
    have HL0 := Lib.hid hl0
    clear h1 h4 hn hl0 HR
    have he := fun (w : World) => Lib.run_eql_slice_nil (P := Try.prog) w 26 24 none n cap 0 0 Try.underlying26
    go_enter Try.func9, Try.ntmps9
    go_wp2
    go_ret
    exact ⟨none, 0, 0, rfl, .inl ⟨rfl, by rw [HL0.out]; rfl⟩, Kp.refl _ _, by simp [Value.ownBlock]⟩
  | some a =>
    have he := fun (w : World) => Lib.run_eql_slice_nil (P := Try.prog) w 26 24 (some a) n cap 0 0 Try.underlying26
    clear h1 h4 hn
    go_enter Try.func9, Try.ntmps9
    go_wp2_with (at_builtin; refine wpList_append_Own _ rfl _ _ 26 rfl 24 (.int .u32 0) 1 4 Try.info24 (by kernel_rfl) rfl (by omega) _ [] rfl (Own.empty (alloc_new w _)) _ (l.map (Value.int .u32)) rfl (HR _ ((Kp.refl _ _).alloc _)).out (by simp [Value.oneCell']) 1099511627790 (by simp; omega) (by omega) (by omega) ?_; intro A2 n2 c2 w2 ho2 hk2 hb2; have HO := Lib.hid ho2; have HK := Lib.hid hk2; have HB := Lib.hid hb2; clear ho2 hk2 hb2)
    go_ret
    refine ⟨A2, n2, c2, rfl, by simpa using HO.out, ((Kp.refl (fun _ => False) w).alloc _).trans HK.out (fun b hb e => by have e' : w.heap.size = b := Option.some.inj e; omega), fun k hk => ?_⟩
    rcases HB.out k hk with h | h
    · have e' : w.heap.size = k := Option.some.inj h; omega
    · simp at h; omega

def St.bodyF (wr : Bool) (s : St) : St := if wr then { s with l := s.l ++ s.body } else { s with l := [], body := s.l }

theorem step_appB {ops : Array Oper} {o : Oper} {a : Act} {K : Act → World → Prop} {Q : Exit → Act → World → Prop} {E : Prop} (W : World) (hgd : o.guard = none) (s x : Operand)
    (ho : o.op = .call { callee := .builtin .append, args := #[s, x], argTypes := #[23, 23] }) (v : Value) (l : List Int) (hs : a.eval s = v) (hown : Own W 5 1 v (l.map (Value.int .u8)))
    (xv : Value) (m : List Int) (hx : a.eval x = xv) (hr : RdI W .u8 xv m) (hl : l.length + m.length ≤ 1099511627786)
    (h : ∀ A' n' c' w', Own w' 5 1 (.slice A' n' c') ((l ++ m).map (Value.int .u8)) → Kp (fun b => v.ownBlock = some b) W w' → (∀ k, (Value.slice A' n' c').ownBlock = some k → v.ownBlock = some k ∨ W.heap.size ≤ k) → K (a.put o.dst (.slice A' n' c')) w') :
    if Region.wanted o (yielded ops a.tmps) = true then Oper.wp Try.prog o a W K Q else E :=
  step_append_Own W hgd s x 23 ho 5 (.int .u8 0) 1 1 Try.info5 (by kernel_rfl) rfl (by omega) v _ hs hown xv (m.map (Value.int .u8)) hx hr (by simp [Value.oneCell']) 1099511627790
    (by simp; omega) (by omega) (by omega) (by simpa using h)

set_option maxHeartbeats 400000 in
theorem body_wr : Goes 23 true (St.bodyF true) := by
  intro w B g s bv sv dv hp hl
  have hll := hl rfl
  have hbl := hp.blen rfl
  have c1 : w.cell? ⟨g, 1, none⟩ = some (.bool true) := by rw [cell_blk hp.blk]; rfl
  have c2 : w.cell? ⟨g, 2, none⟩ = some bv := by rw [cell_blk hp.blk]; rfl
  have c17 : w.cell? ⟨g, 17, none⟩ = some dv := by rw [cell_blk hp.blk]; rfl
  have hlen : s.l.length + s.body.length ≤ 1099511627786 := by omega
  obtain ⟨A1, m1, k1, rfl, _, _, _⟩ := (hp.r.own rfl).len
  obtain ⟨A2, m2, k2, hdv, _⟩ := hp.r.body
  subst hdv
  have HP := Lib.hid hp.drew
  clear hp hl
  go_enter Try.func23, Try.ntmps23
  go_wp2_with fail
  go_region_law (
    refine step_appB _ rfl (.tmp 12) (.tmp 17) rfl _ s.l rfl (HP.out.r.own rfl) _ s.body rfl HP.out.r.body hlen ?_
    intro A3 n3 m3 w1 ho1 hk1 hb1
    have hp1 : PgB 46 w1 g true s.bad _ _ := hk1.heap HP.out.blk (fun h => HP.out.r.bg g h rfl)
    have d1 : w1.cell? ⟨g, 2, none⟩ = some (.slice A1 m1 k1) := by rw [cell_blk hp1]; rfl
    have f1 : w1.frozen? ⟨g, 2, none⟩ = false := frozen_blk hp1 2
    have HO1 := Lib.hid ho1
    have HK1 := Lib.hid hk1
    have HB1 := Lib.hid hb1
    have HP1 := Lib.hid hp1
    clear ho1 hk1 hb1 hp1)
  all_goals
    go_wp2
    go_end0
    have hkk := (HK1.out.mono (S' := fun b => b = g ∨ (Value.slice A1 m1 k1).ownBlock = some b) (fun _ _ x => .inr x)).setCell ⟨g, 2, none⟩ (.slice A3 n3 m3) (fun _ => .inl rfl)
    have hsl : ∀ k, sv.ownBlock = some k → k < w.heap.size := fun k hk => HP.out.r.sums.lt hk
    have hg : g < w.heap.size := lt_of_blk HP.out.blk
    have hk3 : Kp B w (w1.setCell ⟨g, 2, none⟩ (.slice A3 n3 m3)) := Kp.ofDrew (hkk.mono (fun b _ e => e.elim (fun e => by cases e; exact HP.out.r.gB) (fun e => HP.out.r.bB rfl b e)))
    have hb2 : ∀ k, (Value.slice A3 n3 m3).ownBlock = some k → (Value.slice A1 m1 k1).ownBlock = some k ∨ w.heap.size ≤ k := HB1.out
    refine ⟨rfl, hk3, .slice A3 n3 m3, sv, .slice A2 m2 k2, ?_, ?_, HP.out.ok, fun k hk => Pg.lt (w := w) (HP.out.dlt k hk) hk3, (fun k hk => HP.out.hB k (Nat.le_trans hk3.size hk)), HP.out.s32, fun _ => HP.out.slen rfl, fun _ => hbl⟩
    · have := setCell_blk HP1.out 2 (.slice A3 n3 m3)
      simpa [PgB, Mg.cells, St.bodyF] using this
    · exact { own := fun _ => HO1.out.setCell _ _ (fun k hk => (hb2 k hk).elim (HP.out.r.bg k) (fun e => by show k ≠ g; omega)), rd := (by simp), byts := (by simp), len := fun _ => (by simp [St.bodyF]; omega),
              sums := HP.out.r.sums.kp hkk (fun k hk _ hs => hs.elim (HP.out.r.sg k hk) (fun e => HP.out.r.bs k e hk)), body := Rd.kpl HP.out.r.body hkk (fun k hk _ hs => hs.elim (HP.out.r.dg k hk) (fun e => HP.out.r.bd rfl k e hk)),
              gB := HP.out.r.gB, bB := fun _ k hk => (hb2 k hk).elim (HP.out.r.bB rfl k) (fun e => HP.out.hB k e), sB := HP.out.r.sB, bg := fun k hk => (hb2 k hk).elim (HP.out.r.bg k) (fun e => by omega), sg := HP.out.r.sg, dg := HP.out.r.dg,
              bs := fun k hk hs => (hb2 k hk).elim (fun e => HP.out.r.bs k e hs) (fun e => by have := hsl k hs; omega), bd := fun _ k hk hd => (hb2 k hk).elim (fun e => HP.out.r.bd rfl k e hd) (fun e => by have h3 : k < w.heap.size := HP.out.dlt k hd; omega), ds := HP.out.r.ds, blt := fun k hk => by have := HO1.out.lt hk; simpa using this, dB := (by simp) }

set_option maxHeartbeats 400000 in
theorem body_rd : ∀ (w : World) (B : Nat → Prop) (g : Nat) (s : St) (bv sv dv : Value), Pg w B g false s bv sv dv → s.l.length ≤ 1099511627786 →
    Calls Try.prog 23 #[.pointer (some ⟨g, 0, none⟩)] w fun e w' => e = .returned (.tuple #[]) ∧ Kp B w w' ∧ ∃ bv' sv' dv', Pg w' B g false (St.bodyF false s) bv' sv' dv' := by
  intro w B g s bv sv dv hp hl
  have c1 : w.cell? ⟨g, 1, none⟩ = some (.bool false) := by rw [cell_blk hp.blk]; rfl
  have c2 : w.cell? ⟨g, 2, none⟩ = some bv := by rw [cell_blk hp.blk]; rfl
  have HP := Lib.hid hp
  clear hp
  go_enter Try.func23, Try.ntmps23
  go_wp2_with fail
  refine (clone8 w bv s.l (HP.out.r.rd rfl) hl).mono ?_
  rintro e w1 ⟨A, n, c, rfl, ho1, hk1, hb1⟩
  have hp1 := hk1.heap HP.out.blk (fun x => x)
  have d17 : w1.cell? ⟨g, 17, none⟩ = some dv := by rw [cell_blk hp1]; rfl
  have d2 : w1.cell? ⟨g, 2, none⟩ = some bv := by rw [cell_blk hp1]; rfl
  have f1 : ∀ o, w1.frozen? ⟨g, o, none⟩ = false := fun o => frozen_blk hp1 o
  have HO1 := Lib.hid ho1
  have HK1 := Lib.hid hk1
  have HB1 := Lib.hid hb1
  have HP1 := Lib.hid hp1
  clear ho1 hk1 hb1 hp1
  go_wp2
  go_end0
  have hg : g < w.heap.size := lt_of_blk HP.out.blk
  have hkx : Kp (fun b => b = g) w ((w1.setCell ⟨g, 17, none⟩ (.slice A n c)).setCell ⟨g, 2, none⟩ (.slice none 0 0)) := ((HK1.out.mono (S' := fun b => b = g) (fun _ _ x => x.elim)).setCell ⟨g, 17, none⟩ (.slice A n c) (fun _ => rfl)).setCell ⟨g, 2, none⟩ (.slice none 0 0) (fun _ => rfl)
  have hk3 : Kp B w ((w1.setCell ⟨g, 17, none⟩ (.slice A n c)).setCell ⟨g, 2, none⟩ (.slice none 0 0)) := hkx.mono (fun b _ e => by cases (show b = g from e); exact HP.out.r.gB)
  have hne : ∀ k, (Value.slice A n c).ownBlock = some k → k ≠ g := fun k hk => by have h : w.heap.size ≤ k := HB1.out k (hk); omega
  refine ⟨rfl, hk3, .slice none 0 0, sv, .slice A n c, ?_, ?_, HP.out.ok, fun k hk => ?_, (fun k hk => HP.out.hB k (Nat.le_trans hk3.size hk)), HP.out.s32, (by simp), (by simp)⟩
  · have := setCell_blk (setCell_blk HP1.out 17 (.slice A n c)) 2 (.slice none 0 0)
    simpa [PgB, Mg.cells, St.bodyF] using this
  · exact { own := (by simp), rd := fun _ => ⟨none, 0, 0, rfl, by simp [St.bodyF], by omega, by omega, by simp [St.bodyF]⟩, byts := fun _ => (by intro c hc; simp [St.bodyF] at hc), len := (by simp),
            sums := HP.out.r.sums.kp hkx (fun k hk _ hs => HP.out.r.sg k hk hs), body := ((HO1.out.setCell _ _ hne).setCell _ _ hne).rd,
            gB := HP.out.r.gB, bB := (by simp), sB := HP.out.r.sB, bg := (by simp [Value.ownBlock]), sg := HP.out.r.sg, dg := fun k hk => hne k (lvB_own hk),
            bs := (by simp [Value.ownBlock]), bd := (by simp), ds := fun k hk hs => by have h : w.heap.size ≤ k := HB1.out k (lvB_own hk); have h2 := HP.out.r.sums.lt hs; omega, blt := (by simp [Value.ownBlock]), dB := fun _ k hk => HP.out.hB k (HB1.out k (lvB_own hk)) }
  · have h := HO1.out.lt (lvB_own hk)
    simpa using h

end Go.Proofs.Ytmgfiblnbbjjdaa
