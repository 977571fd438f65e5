/- container/heap over the queue: down, Init, Pop; take. -/
import Derived.Test.YtnhinhcgdchdkaaHB
import Derived.Outline
set_option linter.unusedSimpArgs false
set_option linter.unusedVariables false
namespace Go.Proofs.Ytnhinhcgdchdkaa
open Go Go.Proofs Go.RowKit

theorem load87 (a : Addr) (w : World) (A : Option Addr) (n c : Nat) (h : w.cell? a = some (.slice A n c)) : (loadVar 87 a).run Try.prog w = .ok (.slice A n c) w := by
  simp [loadVar, go_sem, h]
theorem recv89 (a : Addr) (w : World) (A : Option Addr) (n c : Nat) (h : w.cell? a = some (.slice A n c)) (s : String) : (receiverAt 89 (.val (.pointer (some a))) false (some s)).run Try.prog w = .ok (.slice A n c) w := by
  have hl := load87 a w A n c h
  have hu : (underlying 89).run Try.prog w = .ok (.pointer 87) w := run_underlying Try.underlying89 w
  have hn : (Builtin.ssaWrapNilChk_ #[89] 89 #[.pointer (some a), strVal "", strVal s]).run Try.prog w = .ok (.pointer (some a)) w := rfl
  have ha : (asAddr (.pointer (some a))).run Try.prog w = .ok a w := rfl
  unfold receiverAt
  simp only [Sem.run_bind, hu, Result.andThen_ok, Place.get, Sem.run_pure, hn, ha, hl]
theorem method_val (a : Addr) (w : World) (A : Option Addr) (n c : Nat) (h : w.cell? a = some (.slice A n c)) (name : String) (f : FuncId) (hf : ((Try.prog.info? 89).bind (fun i => i.methods.find? (·.name == name))).map (fun m => (m.path, m.func)) = some (#[], some (f, false))) :
    (method 312 89 (.pointer (some a)) name).run Try.prog w = .ok (f, .slice A n c) w := by
  cases hi : Try.prog.info? 89 with
  | none => rw [hi] at hf; simp at hf
  | some i =>
    rw [hi] at hf
    cases hm : i.methods.find? (·.name == name) with
    | none => simp [hm] at hf
    | some m =>
      simp only [Option.bind_some, hm, Option.map_some, Option.some.injEq, Prod.mk.injEq] at hf
      obtain ⟨h1, h2⟩ := hf
      have ht : (typeInfo 89).run Try.prog w = .ok i w := by
        simp [typeInfo, hi]
      unfold method
      simp only [Sem.run_bind, ht, Result.andThen_ok, hm, h1, h2, follow, Sem.run_pure]
      have := fun s => recv89 a w A n c h s
      simp [this, follow]
theorem m_less (a : Addr) (w : World) (A : Option Addr) (n c : Nat) (h : w.cell? a = some (.slice A n c)) : (method 312 89 (.pointer (some a)) "Less").run Try.prog w = .ok (137, .slice A n c) w := method_val a w A n c h "Less" 137 (by kernel_rfl)
theorem m_swap (a : Addr) (w : World) (A : Option Addr) (n c : Nat) (h : w.cell? a = some (.slice A n c)) : (method 312 89 (.pointer (some a)) "Swap").run Try.prog w = .ok (138, .slice A n c) w := method_val a w A n c h "Swap" 138 (by kernel_rfl)
theorem m_len (a : Addr) (w : World) (A : Option Addr) (n c : Nat) (h : w.cell? a = some (.slice A n c)) : (method 312 89 (.pointer (some a)) "Len").run Try.prog w = .ok (80, .slice A n c) w := method_val a w A n c h "Len" 80 (by kernel_rfl)
theorem m_pop (a : Addr) (w : World) : (method 312 89 (.pointer (some a)) "Pop").run Try.prog w = .ok (139, .pointer (some a)) w := by kernel_rfl

theorem Less_yes (w : World) (g off n c : Nat) (I K : Int) (i k : Nat) (hI : I = i) (hK : K = k) (l : List It) (x y : It) (hr : Rd w 3 (.slice (some ⟨g, off, none⟩) n c) (ics l)) (hi : l[i]? = some x) (hk : l[k]? = some y) (h : It.lt x y) :
    Calls Try.prog 137 #[.slice (some ⟨g, off, none⟩) n c, .int .i64 I, .int .i64 K] w fun e w' => e = .returned (.bool true) ∧ Kp (fun _ => False) w w' := by
  subst hI hK
  have := Less_any w g off n c i k l x y hr hi hk
  rwa [decide_eq_true h] at this
theorem Less_no (w : World) (g off n c : Nat) (I K : Int) (i k : Nat) (hI : I = i) (hK : K = k) (l : List It) (x y : It) (hr : Rd w 3 (.slice (some ⟨g, off, none⟩) n c) (ics l)) (hi : l[i]? = some x) (hk : l[k]? = some y) (h : ¬ It.lt x y) :
    Calls Try.prog 137 #[.slice (some ⟨g, off, none⟩) n c, .int .i64 I, .int .i64 K] w fun e w' => e = .returned (.bool false) ∧ Kp (fun _ => False) w w' := by
  subst hI hK
  have := Less_any w g off n c i k l x y hr hi hk
  rwa [decide_eq_false h] at this
theorem Swap_int (w : World) (g off n c : Nat) (I K : Int) (i k : Nat) (hI : I = i) (hK : K = k) (l : List It) (x y : It) (ho : Own w 85 3 (.slice (some ⟨g, off, none⟩) n c) (ics l)) (hi : l[i]? = some x) (hk : l[k]? = some y) :
    Calls Try.prog 138 #[.slice (some ⟨g, off, none⟩) n c, .int .i64 I, .int .i64 K] w fun e w' => e = .returned (.tuple #[]) ∧ Own w' 85 3 (.slice (some ⟨g, off, none⟩) n c) (ics (swp l i k x y)) ∧ Kp (fun b => b = g) w w' := by
  subst hI hK
  exact Swap_any w g off n c i k l x y ho hi hk

/-- The queue behind a pointer. -/
structure Qu (w : World) (b g off n c : Nat) (l : List It) : Prop where
  blk : w.heap[b]? = some (.cells #[.slice (some ⟨g, off, none⟩) n c] 87 (0, 0))
  own : Own w 85 3 (.slice (some ⟨g, off, none⟩) n c) (ics l)

theorem Qu.ne {w : World} {b g off n c : Nat} {l : List It} (h : Qu w b g off n c l) : g ≠ b := by
  rintro rfl
  obtain ⟨cur, h0, _⟩ := h.own.open
  rw [h.blk] at h0; simp at h0
theorem Qu.kp {w w' : World} {b g off n c : Nat} {l : List It} (h : Qu w b g off n c l) (hk : Kp (fun _ => False) w w') : Qu w' b g off n c l :=
  ⟨hk.heap h.blk (fun x => x), h.own.kp hk (fun _ _ _ x => x)⟩
theorem Qu.cell {w : World} {b g off n c : Nat} {l : List It} (h : Qu w b g off n c l) : w.cell? ⟨b, 0, none⟩ = some (.slice (some ⟨g, off, none⟩) n c) := (cell_blk h.blk 0).trans rfl

theorem swp_drop {l : List It} {i j N : Nat} {x y : It} (hi : i < N) (hj : j < N) : (swp l i j x y).drop N = l.drop N := by
  unfold swp
  rw [List.drop_set_of_lt hj, List.drop_set_of_lt hi]

def DownPost (b g off n c : Nat) (l : List It) (i0 N : Nat) (w : World) (e : Ending) (w' : World) : Prop :=
  ∃ bb l', e = .returned (.bool bb) ∧ Qu w' b g off n c l' ∧ l'.Perm l ∧ l'.drop N = l.drop N ∧ HeapFrom i0 N l' ∧ Kp (fun k => k = g) w w'

set_option maxRecDepth 100000 in
set_option maxHeartbeats 2000000 in
theorem down_any (w : World) (b g off n c : Nat) (l : List It) (i0 N : Nat) (hq : Qu w b g off n c l) (hN : N ≤ n) (hs : HeapFrom (i0 + 1) N l) (hn : n ≤ 1000000) (hi : i0 < n) :
    Calls Try.prog 82 #[.iface 89 (.pointer (some ⟨b, 0, none⟩)), .int .i64 i0, .int .i64 N] w (DownPost b g off n c l i0 N w) := by
  have HQ := Lib.hid hq
  have HS := Lib.hid hs
  clear hq hs
  go_enter Try.func82, Try.ntmps82
  go_wp2
  go_loopw [7] (fun i W => ∃ (k : Nat) (l' : List It), i = .int .i64 k ∧ k < n ∧ Qu W b g off n c l' ∧ l'.Perm l ∧ l'.drop N = l.drop N ∧ Sift i0 N k l' ∧ i0 ≤ k ∧ Kp (fun k => k = g) w W) (fun i _ => n - (intOf i).toNat)
  case atStart => exact ⟨i0, l, rfl, hi, HQ.out, .refl _, rfl, .start HS.out, Nat.le_refl _, Kp.refl _ _⟩
  case round =>
    obtain ⟨k, l', rfl, hk, hq, hp, hd, hsf, hik, hkk⟩ := hrel
    have hll := (items_n hq.own.rd).1
    have hM := m_less ⟨b, 0, none⟩ wr _ _ _ hq.cell
    obtain ⟨x, hx⟩ : ∃ x, l'[k]? = some x := ⟨l'[k]'(by omega), List.getElem?_eq_getElem _⟩
    have HQ := Lib.hid hq
    have HP := Lib.hid hp
    have HD := Lib.hid hd
    have HSF := Lib.hid hsf
    have HKK := Lib.hid hkk
    have HX := Lib.hid hx
    have HLL := Lib.hid hll
    clear hq hp hd hsf hkk hx hll
    by_cases h1 : 2 * k + 1 < N
    · obtain ⟨y, hy⟩ : ∃ y, l'[2 * k + 1]? = some y := ⟨l'[2 * k + 1]'(by have := HLL.out; omega), List.getElem?_eq_getElem _⟩
      have HY := Lib.hid hy
      clear hy
      by_cases h2 : 2 * k + 2 < N
      · obtain ⟨z, hz⟩ : ∃ z, l'[2 * k + 2]? = some z := ⟨l'[2 * k + 2]'(by have := HLL.out; omega), List.getElem?_eq_getElem _⟩
        have HZ := Lib.hid hz
        clear hz
        by_cases hlt : It.lt z y
        · have HLT := Lib.hid hlt
          clear hlt
          go_wp2_with fail
          refine (Less_yes wr g off n c _ _ (2 * k + 2) (2 * k + 1) (by omega) (by omega) l' z y HQ.out.own.rd HZ.out HY.out HLT.out).mono ?_
          rintro e w1 ⟨rfl, hk1⟩
          have hq1 := HQ.out.kp hk1
          have hM1 := m_less ⟨b, 0, none⟩ w1 _ _ _ hq1.cell
          have hmin : ∀ q u, kid k q → q < N → l'[q]? = some u → It.le z u := by
            intro q u h3 h4 h5
            rcases h3 with rfl | rfl
            · rw [HY.out] at h5; simp only [Option.some.injEq] at h5; subst h5; exact It.lt_le HLT.out
            · rw [HZ.out] at h5; simp only [Option.some.injEq] at h5; subst h5; exact It.le_refl _
          have HMIN := Lib.hid hmin
          have HK1 := Lib.hid hk1
          have HQ1 := Lib.hid hq1
          clear hmin hk1 hq1 hM
          by_cases hgo : It.lt z x
          · have HGO := Lib.hid hgo
            clear hgo
            go_wp2_with fail
            refine (Less_yes w1 g off n c _ _ (2 * k + 2) k (by omega) rfl l' z x HQ1.out.own.rd HZ.out HX.out HGO.out).mono ?_
            rintro e w2 ⟨rfl, hk2⟩
            have hq2 := HQ1.out.kp hk2
            have hM2 := m_swap ⟨b, 0, none⟩ w2 _ _ _ hq2.cell
            have HK2 := Lib.hid hk2
            have HQ2 := Lib.hid hq2
            clear hk2 hq2
            go_wp2_with fail
            refine (Swap_int w2 g off n c _ _ k (2 * k + 2) rfl (by omega) l' x z HQ2.out.own HX.out HZ.out).mono ?_
            rintro e w3 ⟨rfl, ho3, hk3⟩
            have HO3 := Lib.hid ho3
            have HK3 := Lib.hid hk3
            clear ho3 hk3
            go_wp2_with fail
            go_roundw
            case rel =>
              refine ⟨2 * k + 2, swp l' k (2 * k + 2) x z, by go_num, by omega, ⟨HK3.out.heap HQ2.out.blk (fun e => HQ.out.ne e.symm), HO3.out⟩, (swp_perm HX.out HZ.out).trans HP.out, (swp_drop (by omega) (by omega)).trans HD.out, HSF.out.step hik (by have := HLL.out; omega) HX.out HZ.out (by unfold kid; omega) (by omega) HGO.out HMIN.out, by omega, HKK.out.trans' (((HK1.out.mono (fun _ _ e => e.elim)).trans' (HK2.out.mono (fun _ _ e => e.elim))).trans' HK3.out)⟩
            case measure => simp [intOf]; omega
          · have HGO := Lib.hid hgo
            clear hgo
            go_wp2_with fail
            refine (Less_no w1 g off n c _ _ (2 * k + 2) k (by omega) rfl l' z x HQ1.out.own.rd HZ.out HX.out HGO.out).mono ?_
            rintro e w2 ⟨rfl, hk2⟩
            have hq2 := HQ1.out.kp hk2
            have HK2 := Lib.hid hk2
            have HQ2 := Lib.hid hq2
            clear hk2 hq2
            go_wp2_with fail
            go_ret
            exact ⟨_, l', rfl, HQ2.out, HP.out, HD.out, HSF.out.stop HX.out (fun q u h3 h4 h5 => It.le_trans HGO.out (HMIN.out q u h3 h4 h5)), HKK.out.trans' ((HK1.out.mono (fun _ _ e => e.elim)).trans' (HK2.out.mono (fun _ _ e => e.elim)))⟩
        · have HLT := Lib.hid hlt
          clear hlt
          go_wp2_with fail
          refine (Less_no wr g off n c _ _ (2 * k + 2) (2 * k + 1) (by omega) (by omega) l' z y HQ.out.own.rd HZ.out HY.out HLT.out).mono ?_
          rintro e w1 ⟨rfl, hk1⟩
          have hq1 := HQ.out.kp hk1
          have hM1 := m_less ⟨b, 0, none⟩ w1 _ _ _ hq1.cell
          have hmin : ∀ q u, kid k q → q < N → l'[q]? = some u → It.le y u := by
            intro q u h3 h4 h5
            rcases h3 with rfl | rfl
            · rw [HY.out] at h5; simp only [Option.some.injEq] at h5; subst h5; exact It.le_refl _
            · rw [HZ.out] at h5; simp only [Option.some.injEq] at h5; subst h5; exact HLT.out
          have HMIN := Lib.hid hmin
          have HK1 := Lib.hid hk1
          have HQ1 := Lib.hid hq1
          clear hmin hk1 hq1 hM
          by_cases hgo : It.lt y x
          · have HGO := Lib.hid hgo
            clear hgo
            go_wp2_with fail
            refine (Less_yes w1 g off n c _ _ (2 * k + 1) k (by omega) rfl l' y x HQ1.out.own.rd HY.out HX.out HGO.out).mono ?_
            rintro e w2 ⟨rfl, hk2⟩
            have hq2 := HQ1.out.kp hk2
            have hM2 := m_swap ⟨b, 0, none⟩ w2 _ _ _ hq2.cell
            have HK2 := Lib.hid hk2
            have HQ2 := Lib.hid hq2
            clear hk2 hq2
            go_wp2_with fail
            refine (Swap_int w2 g off n c _ _ k (2 * k + 1) rfl (by omega) l' x y HQ2.out.own HX.out HY.out).mono ?_
            rintro e w3 ⟨rfl, ho3, hk3⟩
            have HO3 := Lib.hid ho3
            have HK3 := Lib.hid hk3
            clear ho3 hk3
            go_wp2_with fail
            go_roundw
            case rel =>
              refine ⟨2 * k + 1, swp l' k (2 * k + 1) x y, by go_num, by omega, ⟨HK3.out.heap HQ2.out.blk (fun e => HQ.out.ne e.symm), HO3.out⟩, (swp_perm HX.out HY.out).trans HP.out, (swp_drop (by omega) (by omega)).trans HD.out, HSF.out.step hik (by have := HLL.out; omega) HX.out HY.out (by unfold kid; omega) (by omega) HGO.out HMIN.out, by omega, HKK.out.trans' (((HK1.out.mono (fun _ _ e => e.elim)).trans' (HK2.out.mono (fun _ _ e => e.elim))).trans' HK3.out)⟩
            case measure => simp [intOf]; omega
          · have HGO := Lib.hid hgo
            clear hgo
            go_wp2_with fail
            refine (Less_no w1 g off n c _ _ (2 * k + 1) k (by omega) rfl l' y x HQ1.out.own.rd HY.out HX.out HGO.out).mono ?_
            rintro e w2 ⟨rfl, hk2⟩
            have hq2 := HQ1.out.kp hk2
            have HK2 := Lib.hid hk2
            have HQ2 := Lib.hid hq2
            clear hk2 hq2
            go_wp2_with fail
            go_ret
            exact ⟨_, l', rfl, HQ2.out, HP.out, HD.out, HSF.out.stop HX.out (fun q u h3 h4 h5 => It.le_trans HGO.out (HMIN.out q u h3 h4 h5)), HKK.out.trans' ((HK1.out.mono (fun _ _ e => e.elim)).trans' (HK2.out.mono (fun _ _ e => e.elim)))⟩
      · have hk1 : Kp (fun _ => False) wr wr := Kp.refl _ _
        obtain ⟨w1, rfl⟩ : ∃ w1 : World, w1 = wr := ⟨_, rfl⟩
        have hq1 := HQ.out.kp hk1
        have hmin : ∀ q u, kid k q → q < N → l'[q]? = some u → It.le y u := by
          intro q u h3 h4 h5
          rcases h3 with rfl | rfl
          · rw [HY.out] at h5; simp only [Option.some.injEq] at h5; subst h5; exact It.le_refl _
          · omega
        have HMIN := Lib.hid hmin
        have HK1 := Lib.hid hk1
        have HQ1 := Lib.hid hq1
        clear hmin hk1 hq1
        by_cases hgo : It.lt y x
        · have HGO := Lib.hid hgo
          clear hgo
          go_wp2_with fail
          refine (Less_yes w1 g off n c _ _ (2 * k + 1) k (by omega) rfl l' y x HQ1.out.own.rd HY.out HX.out HGO.out).mono ?_
          rintro e w2 ⟨rfl, hk2⟩
          have hq2 := HQ1.out.kp hk2
          have hM2 := m_swap ⟨b, 0, none⟩ w2 _ _ _ hq2.cell
          have HK2 := Lib.hid hk2
          have HQ2 := Lib.hid hq2
          clear hk2 hq2
          go_wp2_with fail
          refine (Swap_int w2 g off n c _ _ k (2 * k + 1) rfl (by omega) l' x y HQ2.out.own HX.out HY.out).mono ?_
          rintro e w3 ⟨rfl, ho3, hk3⟩
          have HO3 := Lib.hid ho3
          have HK3 := Lib.hid hk3
          clear ho3 hk3
          go_wp2_with fail
          go_roundw
          case rel =>
            refine ⟨2 * k + 1, swp l' k (2 * k + 1) x y, by go_num, by omega, ⟨HK3.out.heap HQ2.out.blk (fun e => HQ.out.ne e.symm), HO3.out⟩, (swp_perm HX.out HY.out).trans HP.out, (swp_drop (by omega) (by omega)).trans HD.out, HSF.out.step hik (by have := HLL.out; omega) HX.out HY.out (by unfold kid; omega) (by omega) HGO.out HMIN.out, by omega, HKK.out.trans' (((HK1.out.mono (fun _ _ e => e.elim)).trans' (HK2.out.mono (fun _ _ e => e.elim))).trans' HK3.out)⟩
          case measure => simp [intOf]; omega
        · have HGO := Lib.hid hgo
          clear hgo
          go_wp2_with fail
          refine (Less_no w1 g off n c _ _ (2 * k + 1) k (by omega) rfl l' y x HQ1.out.own.rd HY.out HX.out HGO.out).mono ?_
          rintro e w2 ⟨rfl, hk2⟩
          have hq2 := HQ1.out.kp hk2
          have HK2 := Lib.hid hk2
          have HQ2 := Lib.hid hq2
          clear hk2 hq2
          go_wp2_with fail
          go_ret
          exact ⟨_, l', rfl, HQ2.out, HP.out, HD.out, HSF.out.stop HX.out (fun q u h3 h4 h5 => It.le_trans HGO.out (HMIN.out q u h3 h4 h5)), HKK.out.trans' ((HK1.out.mono (fun _ _ e => e.elim)).trans' (HK2.out.mono (fun _ _ e => e.elim)))⟩
    · go_wp2
      go_ret
      exact ⟨_, l', rfl, HQ.out, HP.out, HD.out, HSF.out.stop HX.out (fun q z h3 h4 _ => by unfold kid at h3; omega), HKK.out⟩
end Go.Proofs.Ytnhinhcgdchdkaa
