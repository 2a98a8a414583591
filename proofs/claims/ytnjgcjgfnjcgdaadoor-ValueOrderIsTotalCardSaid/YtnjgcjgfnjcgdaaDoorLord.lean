/-
  The walk of the law ValueOrderIsTotal: it returns true.
-/
import Derived.Test.YtnjgcjgfnjcgdaaDoorOrd
import Derived.Test.YtnjgcjgfnjcgdaaDoorLspec
namespace Go.Proofs.YtnjgcjgfnjcgdaaDoor
open Go.RowKit
theorem held_eight {W0 w : World} {b p q : Nat} {n1 n2 : Int} {v : Nat → Int} (hb : Below W0.heap.size W0 w) (hT : Trio W0 b v) (hp : p < 3) (hq : q < 3) (h1 : v p = n1) (h2 : v q = n2) :
    Below W0.heap.size W0 w ∧ w.cell? ⟨b, p * 4, none⟩ = some (.int .i64 1) ∧ w.cell? ⟨b, p * 4 + 1, none⟩ = some (.int .i64 n1) ∧ w.cell? ⟨b, p * 4 + 2, none⟩ = some (.int .i64 0) ∧ w.cell? ⟨b, p * 4 + 3, none⟩ = some (.slice none 0 0) ∧
      w.cell? ⟨b, q * 4, none⟩ = some (.int .i64 1) ∧ w.cell? ⟨b, q * 4 + 1, none⟩ = some (.int .i64 n2) ∧ w.cell? ⟨b, q * 4 + 2, none⟩ = some (.int .i64 0) ∧ w.cell? ⟨b, q * 4 + 3, none⟩ = some (.slice none 0 0) := by
  subst h1 h2
  have h := hT.below hb hT.1
  have hp := h.2 p hp
  have hq := h.2 q hq
  exact ⟨hb, hp.1, hp.2.1, hp.2.2.1, hp.2.2.2, hq.1, hq.2.1, hq.2.2.1, hq.2.2.2⟩

theorem bool_is' (b : Bool) (n : Int) (h : b2i b = n) (w : World) : Calls Tryd.prog 29 #[.bool b] w fun e w' => e = .returned (.agg #[.int .i64 2, .int .i64 n, .int .i64 0, .slice none 0 0]) ∧ Below w.heap.size w w' := by
  subst h; exact bool_any b w
/-- What a round of the first loop needs, at its head. -/
def AtRound (a b c : Int) (N : Nat) (Wv : World) (j : Nat) (wr : World) : Prop := Below (N + 1) Wv wr ∧ Arr wr (N + 1) (upto (lessB a b c) j) ∧ Arr wr (N + 1 + 1) (upto (eqB a b c) j)

set_option maxRecDepth 20000 in
set_option maxHeartbeats 6400000 in
theorem lawOrder_any (x y z : Int) (p q : Bool) (w : World) (hg : Good w) :
    Calls Tryd.prog 7 #[.agg #[.int .i64 x, .int .i64 y, .int .i64 z, .bool p, .bool q]] w fun e w' => e = .returned (.bool true) ∧ Below w.heap.size w w' := by
  obtain ⟨a, ha⟩ : ∃ a, roundZ x = a := ⟨_, rfl⟩
  obtain ⟨b, hb⟩ : ∃ b, roundZ y = b := ⟨_, rfl⟩
  obtain ⟨c, hc⟩ : ∃ c, roundZ z = c := ⟨_, rfl⟩
  have HR := Lib.hid (And.intro ha (And.intro hb hc))
  have HG := Lib.hid hg
  clear ha hb hc hg
  have hmk : ∀ w, (Instr.makeSlice 45 (.int .i64 9) (.int .i64 9)).run Tryd.prog w = .ok (.slice (some ⟨w.heap.size, 0, none⟩) 9 9) (w.alloc (.cells #[.bool false, .bool false, .bool false, .bool false, .bool false, .bool false, .bool false, .bool false, .bool false] 4)) := fun _ => by kernel_rfl
  go_enter Tryd.func7, Tryd.ntmps7
  go_wp2_with fail
  refine (sanity_any _ (HG.out.below (alloc_below (Below.refl _ _)))).mono ?_
  rintro e w1 ⟨rfl, hb⟩
  have HB1 := Lib.hid (below_of_alloc' hb)
  clear hb
  go_wp2_with fail
  refine (int_is _ HR.out.1).mono ?_
  rintro e w2 ⟨rfl, hb⟩
  have HB2 := Lib.hid (chain HB1.out hb)
  clear hb
  go_wp2_with fail
  refine (int_is _ HR.out.2.1).mono ?_
  rintro e w3 ⟨rfl, hb⟩
  have HB3 := Lib.hid (chain HB2.out hb)
  clear hb
  go_wp2_with fail
  refine (int_is _ HR.out.2.2).mono ?_
  rintro e w4 ⟨rfl, hb⟩
  have HB4 := Lib.hid (chain HB3.out hb)
  clear hb
  go_wp2_with fail
  obtain ⟨Wv, hWv⟩ : ∃ Wv, Wv = w4.alloc (.cells #[.int .i64 1, .int .i64 a, .int .i64 0, .slice none 0 0, .int .i64 1, .int .i64 b, .int .i64 0, .slice none 0 0, .int .i64 1, .int .i64 c, .int .i64 0, .slice none 0 0] 24) := ⟨_, rfl⟩
  rw [← hWv]
  have hT : Trio Wv w4.heap.size (vv a b c) := by rw [hWv]; exact Trio.new w4 a b c 24
  obtain ⟨N, hN⟩ : ∃ N, w4.heap.size = N := ⟨_, rfl⟩
  have hWN : Wv.heap.size = N + 1 := by rw [hWv, World.size_alloc, hN]
  have hBv : Below w.heap.size w Wv := by rw [hWv]; exact alloc_below HB4.out
  rw [hN] at hT
  have h0 : AtRound a b c N Wv 0 ((Wv.alloc (.cells #[.bool false, .bool false, .bool false, .bool false, .bool false, .bool false, .bool false, .bool false, .bool false] 4)).alloc (.cells #[.bool false, .bool false, .bool false, .bool false, .bool false, .bool false, .bool false, .bool false, .bool false] 4)) := by
    have A1 := Arr.new Wv 4 (lessB a b c)
    have A2 := Arr.new (Wv.alloc (.cells #[.bool false, .bool false, .bool false, .bool false, .bool false, .bool false, .bool false, .bool false, .bool false] 4)) 4 (eqB a b c)
    rw [World.size_alloc, hWN] at A2
    have A1' := A1.grow (alloc_below (o := .cells #[.bool false, .bool false, .bool false, .bool false, .bool false, .bool false, .bool false, .bool false, .bool false] 4) (Below.refl _ _))
    rw [hWN] at A1'
    refine ⟨?_, A1', A2⟩
    have := alloc_below (o := .cells #[.bool false, .bool false, .bool false, .bool false, .bool false, .bool false, .bool false, .bool false, .bool false] 4) (alloc_below (o := .cells #[.bool false, .bool false, .bool false, .bool false, .bool false, .bool false, .bool false, .bool false, .bool false] 4) (Below.refl Wv.heap.size Wv))
    rwa [hWN] at this
  have HT := Lib.hid (And.intro hT (And.intro hWN (And.intro hBv (HG.out.below hBv))))
  have H0 := Lib.hid h0
  rw [hN]
  clear hT hWN hBv h0 HG HB1 HB2 HB3 HB4 hWv hN
  go_loopw [12] (fun i wr => ∃ j : Nat, j ≤ 9 ∧ i = .int .i64 j ∧ AtRound a b c N Wv j wr) (fun i _ => 9 - (intOf i).toNat)
  case atStart => exact ⟨0, Nat.zero_le _, rfl, H0.out⟩
  case round =>
    obtain ⟨j, hj, rfl, hat⟩ := hrel
    have HAT := Lib.hid hat
    clear hat H0 hmk
    by_cases hlt : j < 9
    · obtain ⟨P, hP⟩ : ∃ P, j / 3 = P := ⟨_, rfl⟩
      obtain ⟨Q, hQ⟩ : ∃ Q, j % 3 = Q := ⟨_, rfl⟩
      have hP3 : P < 3 := by omega
      have hQ3 : Q < 3 := by omega
      obtain ⟨n1, hn1⟩ : ∃ n, vv a b c P = n := ⟨_, rfl⟩
      obtain ⟨n2, hn2⟩ : ∃ n, vv a b c Q = n := ⟨_, rfl⟩
      obtain ⟨l1, hl1⟩ : ∃ l, lessB a b c j = l := ⟨_, rfl⟩
      obtain ⟨l2, hl2⟩ : ∃ l, eqB a b c j = l := ⟨_, rfl⟩
      obtain ⟨r1, hr1⟩ : ∃ r, b2i l1 = r := ⟨_, rfl⟩
      obtain ⟨r2, hr2⟩ : ∃ r, b2i l2 = r := ⟨_, rfl⟩
      have t1 : b2i (decide (n1 < n2)) = r1 := by rw [← hr1, ← hl1, lessB, hP, hQ, hn1, hn2]
      have t2 : b2i (n1 == n2) = r2 := by rw [← hr2, ← hl2, eqB, hP, hQ, hn1, hn2]
      have s1 : (r1 == 1) = l1 := by rw [← hr1]; exact b2i_is l1
      have s2 : (r2 == 1) = l2 := by rw [← hr2]; exact b2i_is l2
      obtain ⟨x1, hx1⟩ := vv_of x y z P
      obtain ⟨x2, hx2⟩ := vv_of x y z Q
      rw [HR.out.1, HR.out.2.1, HR.out.2.2, hn1] at hx1
      rw [HR.out.1, HR.out.2.1, HR.out.2.2, hn2] at hx2
      have q1 : IntKind.i64.wrap (P : Int) = (P : Int) := wrap_id (by unfold I64; omega)
      have q2 : (j : Int).tmod 3 = (Q : Int) := by
        rw [Int.tmod_eq_emod_of_nonneg (by omega)]
        omega
      have q3 : (j : Int) / 3 = (P : Int) := by omega
      have HL := Lib.hid (And.intro hl1 hl2)
      have HX := Lib.hid (And.intro hx1 (And.intro hx2 (And.intro t1 t2)))
      have HP := Lib.hid (And.intro (And.intro hP3 hQ3) (And.intro hn1 hn2))
      have HS := Lib.hid (And.intro s1 s2)
      have HQ := Lib.hid (And.intro q1 (And.intro q2 q3))
      have hPi : (P : Int) < 3 := by omega
      have hQi : (Q : Int) < 3 := by omega
      clear hP hQ hn1 hn2 hl1 hl2 hr1 hr2 t1 t2 s1 s2 hx1 hx2 q1 q2 q3
      go_upto_region 13 with (fail)
      go_cut [13, 14] (fun s13 s14 wx => ∃ g : Nat, s13 = .pointer (some ⟨g, 0, none⟩) ∧ s14 = .int .i64 0 ∧ wr.heap.size ≤ g ∧ wx.cell? ⟨g, 0, none⟩ = some (.int .i64 2) ∧ wx.cell? ⟨g, 1, none⟩ = some (.int .i64 r1) ∧ Below wr.heap.size wr wx)
      case first =>
        have hTr : Trio wr N (vv a b c) := HT.out.1.below HAT.out.1 (Nat.lt_succ_self _)
        have HTr := Lib.hid hTr
        have HGr := Lib.hid (HT.out.2.2.2.below (HAT.out.1.mono (by rw [HT.out.2.1]; exact Nat.le_refl _)))
        have q1 := HQ.out.1
        have q2 := HQ.out.2.1
        have q3 := HQ.out.2.2
        clear hTr HAT HT
        go_region_held3 (fun w' => Below wr.heap.size wr w' ∧ w'.cell? ⟨N, P * 4, none⟩ = some (.int .i64 1) ∧ w'.cell? ⟨N, P * 4 + 1, none⟩ = some (.int .i64 n1) ∧ w'.cell? ⟨N, P * 4 + 2, none⟩ = some (.int .i64 0) ∧ w'.cell? ⟨N, P * 4 + 3, none⟩ = some (.slice none 0 0) ∧
            w'.cell? ⟨N, Q * 4, none⟩ = some (.int .i64 1) ∧ w'.cell? ⟨N, Q * 4 + 1, none⟩ = some (.int .i64 n2) ∧ w'.cell? ⟨N, Q * 4 + 2, none⟩ = some (.int .i64 0) ∧ w'.cell? ⟨N, Q * 4 + 3, none⟩ = some (.slice none 0 0))
          (exact held_eight (by first | exact (Below.refl _ _).drew | exact held_call (by assumption) (by assumption) | exact held_alloc (by assumption) | exact alloc_held (by assumption) | exact held_store (by assumption) (Box.ge (by assumption)) | exact held_store (by assumption) (by first | exact Nat.le_refl _ | exact Below.size (by assumption)) | (trace_state; fail)) HTr.out HP.out.1.1 HP.out.1.2 HP.out.2.1 HP.out.2.2)
          (first | (go_at_call 24; refine (bin_less x1 x2 _ HX.out.1 HX.out.2.1 HX.out.2.2.1 (HGr.out.below (And.left (by assumption)))).mono ?_; rintro e w' ⟨rfl, hb'⟩; have hh := held_call (by assumption) hb'; first | (have bx := Box.below (by assumption) hb'; obtain ⟨g0, g1, g2, g3, f0, f1, f2, f3⟩ := bx.say) | (have bx := box_own (W0 := wr) (by first | exact Nat.le_refl _ | exact Below.size (by assumption)) hb'; obtain ⟨g0, g1, g2, g3, f0, f1, f2, f3⟩ := bx.say) | (have bx := box_drew hb'; obtain ⟨g0, g1, g2, g3, f0, f1, f2, f3⟩ := bx.say) | skip))
        · go_wp2_with fail
          go_meet
          exact ⟨_, rfl, rfl, Below.size (by assumption), by simp [go_sem], by simp [go_sem], And.left (by assumption)⟩
        · go_wp2_with fail
          go_meet
          exact ⟨_, rfl, rfl, Nat.le_refl _, by simp [go_sem, cell_set_has, *], by simp [go_sem, cell_set_has, *], And.left (by assumption)⟩
      case rest =>
        obtain ⟨g, rfl, rfl, hgw, cg0, cg1, hbw⟩ := hcut
        obtain ⟨wx, hwx⟩ : ∃ wx, wx = wc := ⟨_, rfl⟩
        rw [← hwx] at cg0 cg1 hbw ⊢
        clear hwx hgw
        have HBW := Lib.hid hbw
        have HCG := Lib.hid (And.intro cg0 cg1)
        clear hbw cg0 cg1
        go_upto_region 14 with (fail)
        go_cut [15, 16] (fun s15 s16 wy => ∃ g : Nat, s15 = .pointer (some ⟨g, 0, none⟩) ∧ s16 = .int .i64 0 ∧ wx.heap.size ≤ g ∧ wy.cell? ⟨g, 0, none⟩ = some (.int .i64 2) ∧ wy.cell? ⟨g, 1, none⟩ = some (.int .i64 r2) ∧ Below wx.heap.size wx wy)
        case first =>
          have hbr : Below (N + 1) Wv wx := HAT.out.1.trans (HBW.out.mono (Nat.le_trans (by rw [HT.out.2.1]; exact Nat.le_refl _) HAT.out.1.size))
          have hTr : Trio wx N (vv a b c) := HT.out.1.below hbr (Nat.lt_succ_self _)
          have HTr := Lib.hid hTr
          have HGr := Lib.hid (HT.out.2.2.2.below (hbr.mono (by rw [HT.out.2.1]; exact Nat.le_refl _)))
          have q1 := HQ.out.1
          have q2 := HQ.out.2.1
          have q3 := HQ.out.2.2
          clear hTr hbr HAT HT HBW HCG
          go_region_held3 (fun w' => Below wx.heap.size wx w' ∧ w'.cell? ⟨N, P * 4, none⟩ = some (.int .i64 1) ∧ w'.cell? ⟨N, P * 4 + 1, none⟩ = some (.int .i64 n1) ∧ w'.cell? ⟨N, P * 4 + 2, none⟩ = some (.int .i64 0) ∧ w'.cell? ⟨N, P * 4 + 3, none⟩ = some (.slice none 0 0) ∧
              w'.cell? ⟨N, Q * 4, none⟩ = some (.int .i64 1) ∧ w'.cell? ⟨N, Q * 4 + 1, none⟩ = some (.int .i64 n2) ∧ w'.cell? ⟨N, Q * 4 + 2, none⟩ = some (.int .i64 0) ∧ w'.cell? ⟨N, Q * 4 + 3, none⟩ = some (.slice none 0 0))
            (exact held_eight (by first | exact (Below.refl _ _).drew | exact held_call (by assumption) (by assumption) | exact held_alloc (by assumption) | exact alloc_held (by assumption) | exact held_store (by assumption) (Box.ge (by assumption)) | exact held_store (by assumption) (by first | exact Nat.le_refl _ | exact Below.size (by assumption)) | (trace_state; fail)) HTr.out HP.out.1.1 HP.out.1.2 HP.out.2.1 HP.out.2.2)
            (first | (go_at_call 24; refine (bin_eq x1 x2 _ HX.out.1 HX.out.2.1 HX.out.2.2.2 (HGr.out.below (And.left (by assumption)))).mono ?_; rintro e w' ⟨rfl, hb'⟩; have hh := held_call (by assumption) hb'; first | (have bx := Box.below (by assumption) hb'; obtain ⟨g0, g1, g2, g3, f0, f1, f2, f3⟩ := bx.say) | (have bx := box_own (W0 := wx) (by first | exact Nat.le_refl _ | exact Below.size (by assumption)) hb'; obtain ⟨g0, g1, g2, g3, f0, f1, f2, f3⟩ := bx.say) | (have bx := box_drew hb'; obtain ⟨g0, g1, g2, g3, f0, f1, f2, f3⟩ := bx.say) | skip))
          · go_wp2_with fail
            go_meet
            exact ⟨_, rfl, rfl, Below.size (by assumption), by simp [go_sem], by simp [go_sem], And.left (by assumption)⟩
          · go_wp2_with fail
            go_meet
            exact ⟨_, rfl, rfl, Nat.le_refl _, by simp [go_sem, cell_set_has, *], by simp [go_sem, cell_set_has, *], And.left (by assumption)⟩
        case rest =>
          obtain ⟨g', rfl, rfl, hg', cg0', cg1', hbw'⟩ := hcut
          have cg0 := cell_on HCG.out.1 hbw'
          have cg1 := cell_on HCG.out.2 hbw'
          have hbr : Below wr.heap.size wr wc := chain HBW.out hbw'
          have A1 : Arr wc (N + 1) (upto (lessB a b c) j) := HAT.out.2.1.grow hbr
          have A2 : Arr wc (N + 1 + 1) (upto (eqB a b c) j) := HAT.out.2.2.grow hbr
          have a1 := A1.at hlt
          have f1 := A1.free hlt
          have a2 : ∀ v, (wc.setCell ⟨N + 1, j, none⟩ v).cell? ⟨N + 1 + 1, j, none⟩ = some (.bool (upto (eqB a b c) j j)) := fun v => ((A2.other (b' := N + 1) (j := j) (v := v) (by omega)).at hlt)
          have f2 := A2.free hlt
          have hgN : N + 1 ≠ g' := by have := HAT.out.2.1.1; have := HBW.out.size; omega
          have y1 : ∀ v, (wc.setCell ⟨N + 1, j, none⟩ v).cell? ⟨g', 1, none⟩ = some (.int .i64 r2) := fun v => (World.cell?_setCell_other _ _ _ _ (by intro e; injection e with e1 e2 e3; exact hgN e1)).trans cg1'
          have s1 := HS.out.1
          have s2 := HS.out.2
          have HA := Lib.hid (And.intro A1 A2)
          have HBR := Lib.hid hbr
          clear A1 A2 hbr hbw' hg' hgN
          go_wp2_with fail
          go_roundw
          case rel =>
            refine ⟨j + 1, by omega, by go_num, ?_, ?_, ?_⟩
            · exact ((HAT.out.1.trans (HBR.out.mono (Nat.le_trans (by rw [HT.out.2.1]; exact Nat.le_refl _) HAT.out.1.size))).setCell (Nat.le_refl _) _).setCell (Nat.le_succ _) _
            · exact ((HA.out.1.put hlt HL.out.1).other (by omega))
            · exact ((HA.out.2.other (by omega)).put hlt HL.out.2)
          case measure => simp [intOf]; omega
    · have : j = 9 := by omega
      subst this
      have hTr : Trio wr N (vv a b c) := HT.out.1.below HAT.out.1 (Nat.lt_succ_self _)
      have hbw : Below Wv.heap.size Wv wr := HAT.out.1.mono (by rw [HT.out.2.1]; exact Nat.le_refl _)
      have FA := Lib.hid (And.intro HAT.out.2.1 (And.intro HAT.out.2.2 (And.intro hTr (And.intro (HT.out.2.2.2.below hbw) (HT.out.2.2.1.trans (hbw.mono HT.out.2.2.1.size))))))
      clear hTr hbw HAT HT
      obtain ⟨W9, hW9⟩ : ∃ W9, W9 = wr := ⟨_, rfl⟩
      rw [← hW9] at FA ⊢
      clear hW9
      go_wp2_with fail
      go_loopw [17] (fun i wr => ∃ j : Nat, j ≤ 3 ∧ i = .int .i64 j ∧ Below W9.heap.size W9 wr) (fun i _ => 3 - (intOf i).toNat)
      case atStart => exact ⟨0, Nat.zero_le _, rfl, Below.refl _ _⟩
      case round =>
        obtain ⟨i, hi, rfl, hb⟩ := hrel
        have HBI := Lib.hid hb
        clear hb
        by_cases hi3 : i < 3
        · go_wp2_with fail
          obtain ⟨wi, hwi⟩ : ∃ wi, wi = wr := ⟨_, rfl⟩
          rw [← hwi] at HBI ⊢
          clear hwi
          go_loopw [18] (fun i wr => ∃ j : Nat, j ≤ 3 ∧ i = .int .i64 j ∧ Below W9.heap.size W9 wr) (fun i _ => 3 - (intOf i).toNat)
          case atStart => exact ⟨0, Nat.zero_le _, rfl, HBI.out⟩
          case round =>
            obtain ⟨k, hk, rfl, hb⟩ := hrel
            have HBK := Lib.hid hb
            clear hb HBI
            by_cases hk3 : k < 3
            · obtain ⟨a1, ha1⟩ : ∃ a1 : Nat, 3 * i = a1 := ⟨_, rfl⟩
              obtain ⟨a2, ha2⟩ : ∃ a2 : Nat, 3 * k = a2 := ⟨_, rfl⟩
              obtain ⟨u1, hu1⟩ : ∃ u : Nat, 3 * i + k = u := ⟨_, rfl⟩
              obtain ⟨u2, hu2⟩ : ∃ u : Nat, 3 * k + i = u := ⟨_, rfl⟩
              have m1 : 3 * (i : Int) = (a1 : Int) := by omega
              have m2 : 3 * (k : Int) = (a2 : Int) := by omega
              have p1 : (a1 : Int) + (k : Int) = (u1 : Int) := by omega
              have p2 : (a2 : Int) + (i : Int) = (u2 : Int) := by omega
              have x1 : IntKind.i64.wrap (a1 : Int) = (a1 : Int) := wrap_id (by unfold I64; omega)
              have x2 : IntKind.i64.wrap (u1 : Int) = (u1 : Int) := wrap_id (by unfold I64; omega)
              have hu19 : u1 < 9 := by omega
              have hu29 : u2 < 9 := by omega
              have b1 : (u1 : Int) < 9 := by omega
              have b2 : (u2 : Int) < 9 := by omega
              have b3 : (i : Int) < 3 := by omega
              have b4 : (k : Int) < 3 := by omega
              have i1 := (FA.out.2.2.1.below HBK.out FA.out.2.2.1.1).2 i hi3
              have i2 := (FA.out.2.2.1.below HBK.out FA.out.2.2.1.1).2 k hk3
              have HM := Lib.hid (And.intro (And.intro m1 m2) (And.intro (And.intro p1 p2) (And.intro (And.intro x1 x2) (And.intro hu1 hu2))))
              have HI := Lib.hid (And.intro i1 i2)
              clear m1 m2 p1 p2 x1 x2 i1 i2
              rcases order_two a b c hi3 hk3 with ⟨o1, o2, o3, o4⟩ | ⟨o1, o2, o3, o4⟩ | ⟨o1, o2, o3, o4⟩
              · have c1 : wr.cell? ⟨N + 1, u1, none⟩ = some (.bool true) := (FA.out.1.grow HBK.out).get hu19 (by rw [← hu1]; exact o1)
                have c2 : wr.cell? ⟨N + 1, u2, none⟩ = some (.bool false) := (FA.out.1.grow HBK.out).get hu29 (by rw [← hu2]; exact o2)
                have c3 : wr.cell? ⟨N + 1 + 1, u1, none⟩ = some (.bool false) := (FA.out.2.1.grow HBK.out).get hu19 (by rw [← hu1]; exact o3)
                have HO := Lib.hid (And.intro o1 o2)
                have HU := Lib.hid (And.intro ha1 (And.intro ha2 (And.intro hu1 hu2)))
                clear o1 o2 o3 ha1 ha2 hu1 hu2
                have m1 := HM.out.1.1
                have m2 := HM.out.1.2
                have p1 := HM.out.2.1.1
                have p2 := HM.out.2.1.2
                go_wp2_with fail
                have i1 := HI.out.1
                have i2 := HI.out.2
                have x1 := HM.out.2.2.1.1
                have x2 := HM.out.2.2.1.2
                have v1 := i1.2.1
                have v2 := i2.2.1
                obtain ⟨n1, hn1⟩ : ∃ n, vv a b c i = n := ⟨_, rfl⟩
                obtain ⟨n2, hn2⟩ : ∃ n, vv a b c k = n := ⟨_, rfl⟩
                rw [hn1, hn2] at o4
                rw [hn1] at v1
                rw [hn2] at v2
                clear i1 i2 hn1 hn2
                go_quiet (fail)
                obtain ⟨wq, hwq⟩ : ∃ wq, wq = wr.drewN nq := ⟨_, rfl⟩
                have HBQ := Lib.hid (show Below W9.heap.size W9 wq by rw [hwq]; exact below_drewN HBK.out nq)
                rw [← hwq]
                clear hwq v1 v2 x1 x2 m1 m2 p1 p2 c1 c2 c3 o4
                go_wp2_with fail
                go_loopw [21] (fun i wr => ∃ j : Nat, j ≤ 3 ∧ i = .int .i64 j ∧ Below W9.heap.size W9 wr) (fun i _ => 3 - (intOf i).toNat)
                case atStart => exact ⟨0, Nat.zero_le _, rfl, HBQ.out⟩
                case round =>
                  obtain ⟨j, hj, rfl, hb⟩ := hrel
                  have HBJ := Lib.hid hb
                  clear hb HBQ
                  by_cases hj3 : j < 3
                  · obtain ⟨u3, hu3⟩ : ∃ u : Nat, 3 * k + j = u := ⟨_, rfl⟩
                    obtain ⟨u4, hu4⟩ : ∃ u : Nat, 3 * i + j = u := ⟨_, rfl⟩
                    have hu39 : u3 < 9 := by omega
                    have hu49 : u4 < 9 := by omega
                    have b5 : (u3 : Int) < 9 := by omega
                    have b6 : (u4 : Int) < 9 := by omega
                    have b7 : (j : Int) < 3 := by omega
                    have m1 := HM.out.1.1
                    have m2 := HM.out.1.2
                    have p3 : (a2 : Int) + (j : Int) = (u3 : Int) := by have := HU.out.2.1; omega
                    have p4 : (a1 : Int) + (j : Int) = (u4 : Int) := by have := HU.out.1; omega
                    cases hl : lessB a b c (3 * k + j)
                    · have c3 : wr.cell? ⟨N + 1, u3, none⟩ = some (.bool false) := (FA.out.1.grow HBJ.out).get hu39 (by rw [← hu3]; exact hl)
                      clear hl hu3 hu4
                      go_wp2_with fail
                      go_roundw
                      case rel => exact ⟨j + 1, by omega, by go_num, HBJ.out⟩
                      case measure => simp [intOf]; omega
                    · have c3 : wr.cell? ⟨N + 1, u3, none⟩ = some (.bool true) := (FA.out.1.grow HBJ.out).get hu39 (by rw [← hu3]; exact hl)
                      have c4 : wr.cell? ⟨N + 1, u4, none⟩ = some (.bool true) := (FA.out.1.grow HBJ.out).get hu49 (by rw [← hu4]; exact order_three a b c hk3 hj3 HO.out.1 hl)
                      clear hl hu3 hu4
                      go_wp2_with fail
                      go_roundw
                      case rel => exact ⟨j + 1, by omega, by go_num, HBJ.out⟩
                      case measure => simp [intOf]; omega
                  · have : j = 3 := by omega
                    subst this
                    go_wp2_with fail
                    go_roundw
                    case rel => exact ⟨k + 1, by omega, by go_num, HBJ.out⟩
                    case measure => simp [intOf]; omega
              · have c1 : wr.cell? ⟨N + 1, u1, none⟩ = some (.bool false) := (FA.out.1.grow HBK.out).get hu19 (by rw [← hu1]; exact o1)
                have c2 : wr.cell? ⟨N + 1, u2, none⟩ = some (.bool true) := (FA.out.1.grow HBK.out).get hu29 (by rw [← hu2]; exact o2)
                have c3 : wr.cell? ⟨N + 1 + 1, u1, none⟩ = some (.bool false) := (FA.out.2.1.grow HBK.out).get hu19 (by rw [← hu1]; exact o3)
                have HO := Lib.hid (And.intro o1 o2)
                have HU := Lib.hid (And.intro ha1 (And.intro ha2 (And.intro hu1 hu2)))
                clear o1 o2 o3 ha1 ha2 hu1 hu2
                have m1 := HM.out.1.1
                have m2 := HM.out.1.2
                have p1 := HM.out.2.1.1
                have p2 := HM.out.2.1.2
                go_wp2_with fail
                have i1 := HI.out.1
                have i2 := HI.out.2
                have x1 := HM.out.2.2.1.1
                have x2 := HM.out.2.2.1.2
                have v1 := i1.2.1
                have v2 := i2.2.1
                obtain ⟨n1, hn1⟩ : ∃ n, vv a b c i = n := ⟨_, rfl⟩
                obtain ⟨n2, hn2⟩ : ∃ n, vv a b c k = n := ⟨_, rfl⟩
                rw [hn1, hn2] at o4
                rw [hn1] at v1
                rw [hn2] at v2
                clear i1 i2 hn1 hn2
                go_quiet (fail)
                obtain ⟨wq, hwq⟩ : ∃ wq, wq = wr.drewN nq := ⟨_, rfl⟩
                have HBQ := Lib.hid (show Below W9.heap.size W9 wq by rw [hwq]; exact below_drewN HBK.out nq)
                rw [← hwq]
                clear hwq v1 v2 x1 x2 m1 m2 p1 p2 c1 c2 c3 o4
                go_wp2_with fail
                go_loopw [21] (fun i wr => ∃ j : Nat, j ≤ 3 ∧ i = .int .i64 j ∧ Below W9.heap.size W9 wr) (fun i _ => 3 - (intOf i).toNat)
                case atStart => exact ⟨0, Nat.zero_le _, rfl, HBQ.out⟩
                case round =>
                  obtain ⟨j, hj, rfl, hb⟩ := hrel
                  have HBJ := Lib.hid hb
                  clear hb HBQ
                  by_cases hj3 : j < 3
                  · go_wp2_with fail
                    go_roundw
                    case rel => exact ⟨j + 1, by omega, by go_num, HBJ.out⟩
                    case measure => simp [intOf]; omega
                  · have : j = 3 := by omega
                    subst this
                    go_wp2_with fail
                    go_roundw
                    case rel => exact ⟨k + 1, by omega, by go_num, HBJ.out⟩
                    case measure => simp [intOf]; omega
              · have c1 : wr.cell? ⟨N + 1, u1, none⟩ = some (.bool false) := (FA.out.1.grow HBK.out).get hu19 (by rw [← hu1]; exact o1)
                have c2 : wr.cell? ⟨N + 1, u2, none⟩ = some (.bool false) := (FA.out.1.grow HBK.out).get hu29 (by rw [← hu2]; exact o2)
                have c3 : wr.cell? ⟨N + 1 + 1, u1, none⟩ = some (.bool true) := (FA.out.2.1.grow HBK.out).get hu19 (by rw [← hu1]; exact o3)
                have HO := Lib.hid (And.intro o1 o2)
                have HU := Lib.hid (And.intro ha1 (And.intro ha2 (And.intro hu1 hu2)))
                clear o1 o2 o3 ha1 ha2 hu1 hu2
                have m1 := HM.out.1.1
                have m2 := HM.out.1.2
                have p1 := HM.out.2.1.1
                have p2 := HM.out.2.1.2
                go_wp2_with fail
                have i1 := HI.out.1
                have i2 := HI.out.2
                have x1 := HM.out.2.2.1.1
                have x2 := HM.out.2.2.1.2
                have v1 := i1.2.1
                have v2 := i2.2.1
                obtain ⟨n1, hn1⟩ : ∃ n, vv a b c i = n := ⟨_, rfl⟩
                obtain ⟨n2, hn2⟩ : ∃ n, vv a b c k = n := ⟨_, rfl⟩
                rw [hn1, hn2] at o4
                rw [hn1] at v1
                rw [hn2] at v2
                clear i1 i2 hn1 hn2
                go_quiet (fail)
                obtain ⟨wq, hwq⟩ : ∃ wq, wq = wr.drewN nq := ⟨_, rfl⟩
                have HBQ := Lib.hid (show Below W9.heap.size W9 wq by rw [hwq]; exact below_drewN HBK.out nq)
                rw [← hwq]
                clear hwq v1 v2 x1 x2 m1 m2 p1 p2 c1 c2 c3 o4
                go_wp2_with fail
                go_loopw [21] (fun i wr => ∃ j : Nat, j ≤ 3 ∧ i = .int .i64 j ∧ Below W9.heap.size W9 wr) (fun i _ => 3 - (intOf i).toNat)
                case atStart => exact ⟨0, Nat.zero_le _, rfl, HBQ.out⟩
                case round =>
                  obtain ⟨j, hj, rfl, hb⟩ := hrel
                  have HBJ := Lib.hid hb
                  clear hb HBQ
                  by_cases hj3 : j < 3
                  · go_wp2_with fail
                    go_roundw
                    case rel => exact ⟨j + 1, by omega, by go_num, HBJ.out⟩
                    case measure => simp [intOf]; omega
                  · have : j = 3 := by omega
                    subst this
                    go_wp2_with fail
                    go_roundw
                    case rel => exact ⟨k + 1, by omega, by go_num, HBJ.out⟩
                    case measure => simp [intOf]; omega
            · have : k = 3 := by omega
              subst this
              go_wp2_with fail
              go_roundw
              case rel => exact ⟨i + 1, by omega, by go_num, HBK.out⟩
              case measure => simp [intOf]; omega
        · have : i = 3 := by omega
          subst this
          go_wp2_with fail
          cases p <;> cases q
          · refine (bool_is' false 0 rfl _).mono ?_
            rintro e v1 ⟨rfl, hb⟩
            have HV1 := Lib.hid (chain HBI.out hb)
            clear hb
            go_wp2_with fail
            refine (bool_is' false 0 rfl _).mono ?_
            rintro e v2 ⟨rfl, hb⟩
            have HV2 := Lib.hid (chain HV1.out hb)
            clear hb
            go_wp2_with fail
            refine (bin_and_b false false _ (r := 0) rfl (FA.out.2.2.2.1.below HV2.out)).mono ?_
            rintro e v3 ⟨rfl, hb⟩
            have HV3 := Lib.hid (chain HV2.out hb)
            clear hb
            go_wp2_with fail
            refine (bool_is' false 0 rfl _).mono ?_
            rintro e v4 ⟨rfl, hb⟩
            have HV4 := Lib.hid (chain_alloc HV3.out hb)
            have e1 := (box_later hb (by simp)).1
            have HE1 := Lib.hid e1
            clear hb e1
            go_wp2_with fail
            refine (bool_is' false 0 rfl _).mono ?_
            rintro e v5 ⟨rfl, hb⟩
            have HB5 := Lib.hid hb
            have HV5 := Lib.hid (chain HV4.out hb)
            clear hb
            go_wp2_with fail
            refine (bin_or_b false false _ (r := 0) rfl (FA.out.2.2.2.1.below HV5.out)).mono ?_
            rintro e v6 ⟨rfl, hb⟩
            have HB6 := Lib.hid (chain HB5.out hb)
            have HV6 := Lib.hid (chain HV5.out hb)
            clear hb
            go_wp2_with fail
            obtain ⟨Y, hY⟩ : ∃ Y, Y = v6.alloc (.cells #[.int .i64 2, .int .i64 0, .int .i64 0, .slice none 0 0] 24) := ⟨_, rfl⟩
            rw [← hY]
            have hby : Below W9.heap.size W9 Y := by rw [hY]; exact alloc_below HV6.out
            have HBY := Lib.hid hby
            have l0 := later_cell (show Y.cell? ⟨v3.heap.size, 0, none⟩ = some (.int .i64 2) by rw [hY]; exact alloc_on (cell_on (HE1.out 0 _ rfl) HB6.out) _)
            have l1 := later_cell (show Y.cell? ⟨v3.heap.size, 1, none⟩ = some (.int .i64 0) by rw [hY]; exact alloc_on (cell_on (HE1.out 1 _ rfl) HB6.out) _)
            have l2 := later_cell (show Y.cell? ⟨v3.heap.size, 2, none⟩ = some (.int .i64 0) by rw [hY]; exact alloc_on (cell_on (HE1.out 2 _ rfl) HB6.out) _)
            have l3 := later_cell (show Y.cell? ⟨v3.heap.size, 3, none⟩ = some (.slice none 0 0) by rw [hY]; exact alloc_on (cell_on (HE1.out 3 _ rfl) HB6.out) _)
            have k0 := later_cell (show Y.cell? ⟨v6.heap.size, 0, none⟩ = some (.int .i64 2) by rw [hY, World.cell?_alloc_new]; rfl)
            have k1 := later_cell (show Y.cell? ⟨v6.heap.size, 1, none⟩ = some (.int .i64 0) by rw [hY, World.cell?_alloc_new]; rfl)
            have k2 := later_cell (show Y.cell? ⟨v6.heap.size, 2, none⟩ = some (.int .i64 0) by rw [hY, World.cell?_alloc_new]; rfl)
            have k3 := later_cell (show Y.cell? ⟨v6.heap.size, 3, none⟩ = some (.slice none 0 0) by rw [hY, World.cell?_alloc_new]; rfl)
            clear hY hby
            refine wp_region_later (by kernel_rfl) (by kernel_rfl) ?_
            repeat (go_big_quiet_step (first
              | with_reducible refine calls_later (bool_is' false 0 rfl _)
              | with_reducible refine calls_later (bool_is' false 0 rfl _)
              | with_reducible refine calls_later (refSame_to (flat_at _ (by unfold I64; omega) (by unfold I64; omega)) (flat_at _ (by unfold I64; omega) (by unfold I64; omega)) (sameB_flat 2 _))))
            refine wpQuiet_nil ?_
            rintro _ ⟨t, rfl⟩
            have HT := Lib.hid t.below
            clear l0 l1 l2 l3 k0 k1 k2 k3
            go_wp2_with fail
            go_ret
            exact ⟨rfl, FA.out.2.2.2.2.trans ((chain HBY.out HT.out).mono FA.out.2.2.2.2.size)⟩
          · refine (bool_is' false 0 rfl _).mono ?_
            rintro e v1 ⟨rfl, hb⟩
            have HV1 := Lib.hid (chain HBI.out hb)
            clear hb
            go_wp2_with fail
            refine (bool_is' true 1 rfl _).mono ?_
            rintro e v2 ⟨rfl, hb⟩
            have HV2 := Lib.hid (chain HV1.out hb)
            clear hb
            go_wp2_with fail
            refine (bin_and_b false true _ (r := 0) rfl (FA.out.2.2.2.1.below HV2.out)).mono ?_
            rintro e v3 ⟨rfl, hb⟩
            have HV3 := Lib.hid (chain HV2.out hb)
            clear hb
            go_wp2_with fail
            refine (bool_is' false 0 rfl _).mono ?_
            rintro e v4 ⟨rfl, hb⟩
            have HV4 := Lib.hid (chain_alloc HV3.out hb)
            have e1 := (box_later hb (by simp)).1
            have HE1 := Lib.hid e1
            clear hb e1
            go_wp2_with fail
            refine (bool_is' true 1 rfl _).mono ?_
            rintro e v5 ⟨rfl, hb⟩
            have HB5 := Lib.hid hb
            have HV5 := Lib.hid (chain HV4.out hb)
            clear hb
            go_wp2_with fail
            refine (bin_or_b false true _ (r := 1) rfl (FA.out.2.2.2.1.below HV5.out)).mono ?_
            rintro e v6 ⟨rfl, hb⟩
            have HB6 := Lib.hid (chain HB5.out hb)
            have HV6 := Lib.hid (chain HV5.out hb)
            clear hb
            go_wp2_with fail
            obtain ⟨Y, hY⟩ : ∃ Y, Y = v6.alloc (.cells #[.int .i64 2, .int .i64 1, .int .i64 0, .slice none 0 0] 24) := ⟨_, rfl⟩
            rw [← hY]
            have hby : Below W9.heap.size W9 Y := by rw [hY]; exact alloc_below HV6.out
            have HBY := Lib.hid hby
            have l0 := later_cell (show Y.cell? ⟨v3.heap.size, 0, none⟩ = some (.int .i64 2) by rw [hY]; exact alloc_on (cell_on (HE1.out 0 _ rfl) HB6.out) _)
            have l1 := later_cell (show Y.cell? ⟨v3.heap.size, 1, none⟩ = some (.int .i64 0) by rw [hY]; exact alloc_on (cell_on (HE1.out 1 _ rfl) HB6.out) _)
            have l2 := later_cell (show Y.cell? ⟨v3.heap.size, 2, none⟩ = some (.int .i64 0) by rw [hY]; exact alloc_on (cell_on (HE1.out 2 _ rfl) HB6.out) _)
            have l3 := later_cell (show Y.cell? ⟨v3.heap.size, 3, none⟩ = some (.slice none 0 0) by rw [hY]; exact alloc_on (cell_on (HE1.out 3 _ rfl) HB6.out) _)
            have k0 := later_cell (show Y.cell? ⟨v6.heap.size, 0, none⟩ = some (.int .i64 2) by rw [hY, World.cell?_alloc_new]; rfl)
            have k1 := later_cell (show Y.cell? ⟨v6.heap.size, 1, none⟩ = some (.int .i64 1) by rw [hY, World.cell?_alloc_new]; rfl)
            have k2 := later_cell (show Y.cell? ⟨v6.heap.size, 2, none⟩ = some (.int .i64 0) by rw [hY, World.cell?_alloc_new]; rfl)
            have k3 := later_cell (show Y.cell? ⟨v6.heap.size, 3, none⟩ = some (.slice none 0 0) by rw [hY, World.cell?_alloc_new]; rfl)
            clear hY hby
            refine wp_region_later (by kernel_rfl) (by kernel_rfl) ?_
            repeat (go_big_quiet_step (first
              | with_reducible refine calls_later (bool_is' false 0 rfl _)
              | with_reducible refine calls_later (bool_is' true 1 rfl _)
              | with_reducible refine calls_later (refSame_to (flat_at _ (by unfold I64; omega) (by unfold I64; omega)) (flat_at _ (by unfold I64; omega) (by unfold I64; omega)) (sameB_flat 2 _))))
            refine wpQuiet_nil ?_
            rintro _ ⟨t, rfl⟩
            have HT := Lib.hid t.below
            clear l0 l1 l2 l3 k0 k1 k2 k3
            go_wp2_with fail
            go_ret
            exact ⟨rfl, FA.out.2.2.2.2.trans ((chain HBY.out HT.out).mono FA.out.2.2.2.2.size)⟩
          · refine (bool_is' true 1 rfl _).mono ?_
            rintro e v1 ⟨rfl, hb⟩
            have HV1 := Lib.hid (chain HBI.out hb)
            clear hb
            go_wp2_with fail
            refine (bool_is' false 0 rfl _).mono ?_
            rintro e v2 ⟨rfl, hb⟩
            have HV2 := Lib.hid (chain HV1.out hb)
            clear hb
            go_wp2_with fail
            refine (bin_and_b true false _ (r := 0) rfl (FA.out.2.2.2.1.below HV2.out)).mono ?_
            rintro e v3 ⟨rfl, hb⟩
            have HV3 := Lib.hid (chain HV2.out hb)
            clear hb
            go_wp2_with fail
            refine (bool_is' true 1 rfl _).mono ?_
            rintro e v4 ⟨rfl, hb⟩
            have HV4 := Lib.hid (chain_alloc HV3.out hb)
            have e1 := (box_later hb (by simp)).1
            have HE1 := Lib.hid e1
            clear hb e1
            go_wp2_with fail
            refine (bool_is' false 0 rfl _).mono ?_
            rintro e v5 ⟨rfl, hb⟩
            have HB5 := Lib.hid hb
            have HV5 := Lib.hid (chain HV4.out hb)
            clear hb
            go_wp2_with fail
            refine (bin_or_b true false _ (r := 1) rfl (FA.out.2.2.2.1.below HV5.out)).mono ?_
            rintro e v6 ⟨rfl, hb⟩
            have HB6 := Lib.hid (chain HB5.out hb)
            have HV6 := Lib.hid (chain HV5.out hb)
            clear hb
            go_wp2_with fail
            obtain ⟨Y, hY⟩ : ∃ Y, Y = v6.alloc (.cells #[.int .i64 2, .int .i64 1, .int .i64 0, .slice none 0 0] 24) := ⟨_, rfl⟩
            rw [← hY]
            have hby : Below W9.heap.size W9 Y := by rw [hY]; exact alloc_below HV6.out
            have HBY := Lib.hid hby
            have l0 := later_cell (show Y.cell? ⟨v3.heap.size, 0, none⟩ = some (.int .i64 2) by rw [hY]; exact alloc_on (cell_on (HE1.out 0 _ rfl) HB6.out) _)
            have l1 := later_cell (show Y.cell? ⟨v3.heap.size, 1, none⟩ = some (.int .i64 0) by rw [hY]; exact alloc_on (cell_on (HE1.out 1 _ rfl) HB6.out) _)
            have l2 := later_cell (show Y.cell? ⟨v3.heap.size, 2, none⟩ = some (.int .i64 0) by rw [hY]; exact alloc_on (cell_on (HE1.out 2 _ rfl) HB6.out) _)
            have l3 := later_cell (show Y.cell? ⟨v3.heap.size, 3, none⟩ = some (.slice none 0 0) by rw [hY]; exact alloc_on (cell_on (HE1.out 3 _ rfl) HB6.out) _)
            have k0 := later_cell (show Y.cell? ⟨v6.heap.size, 0, none⟩ = some (.int .i64 2) by rw [hY, World.cell?_alloc_new]; rfl)
            have k1 := later_cell (show Y.cell? ⟨v6.heap.size, 1, none⟩ = some (.int .i64 1) by rw [hY, World.cell?_alloc_new]; rfl)
            have k2 := later_cell (show Y.cell? ⟨v6.heap.size, 2, none⟩ = some (.int .i64 0) by rw [hY, World.cell?_alloc_new]; rfl)
            have k3 := later_cell (show Y.cell? ⟨v6.heap.size, 3, none⟩ = some (.slice none 0 0) by rw [hY, World.cell?_alloc_new]; rfl)
            clear hY hby
            refine wp_region_later (by kernel_rfl) (by kernel_rfl) ?_
            repeat (go_big_quiet_step (first
              | with_reducible refine calls_later (bool_is' false 0 rfl _)
              | with_reducible refine calls_later (bool_is' true 1 rfl _)
              | with_reducible refine calls_later (refSame_to (flat_at _ (by unfold I64; omega) (by unfold I64; omega)) (flat_at _ (by unfold I64; omega) (by unfold I64; omega)) (sameB_flat 2 _))))
            refine wpQuiet_nil ?_
            rintro _ ⟨t, rfl⟩
            have HT := Lib.hid t.below
            clear l0 l1 l2 l3 k0 k1 k2 k3
            go_wp2_with fail
            go_ret
            exact ⟨rfl, FA.out.2.2.2.2.trans ((chain HBY.out HT.out).mono FA.out.2.2.2.2.size)⟩
          · refine (bool_is' true 1 rfl _).mono ?_
            rintro e v1 ⟨rfl, hb⟩
            have HV1 := Lib.hid (chain HBI.out hb)
            clear hb
            go_wp2_with fail
            refine (bool_is' true 1 rfl _).mono ?_
            rintro e v2 ⟨rfl, hb⟩
            have HV2 := Lib.hid (chain HV1.out hb)
            clear hb
            go_wp2_with fail
            refine (bin_and_b true true _ (r := 1) rfl (FA.out.2.2.2.1.below HV2.out)).mono ?_
            rintro e v3 ⟨rfl, hb⟩
            have HV3 := Lib.hid (chain HV2.out hb)
            clear hb
            go_wp2_with fail
            refine (bool_is' true 1 rfl _).mono ?_
            rintro e v4 ⟨rfl, hb⟩
            have HV4 := Lib.hid (chain_alloc HV3.out hb)
            have e1 := (box_later hb (by simp)).1
            have HE1 := Lib.hid e1
            clear hb e1
            go_wp2_with fail
            refine (bool_is' true 1 rfl _).mono ?_
            rintro e v5 ⟨rfl, hb⟩
            have HB5 := Lib.hid hb
            have HV5 := Lib.hid (chain HV4.out hb)
            clear hb
            go_wp2_with fail
            refine (bin_or_b true true _ (r := 1) rfl (FA.out.2.2.2.1.below HV5.out)).mono ?_
            rintro e v6 ⟨rfl, hb⟩
            have HB6 := Lib.hid (chain HB5.out hb)
            have HV6 := Lib.hid (chain HV5.out hb)
            clear hb
            go_wp2_with fail
            obtain ⟨Y, hY⟩ : ∃ Y, Y = v6.alloc (.cells #[.int .i64 2, .int .i64 1, .int .i64 0, .slice none 0 0] 24) := ⟨_, rfl⟩
            rw [← hY]
            have hby : Below W9.heap.size W9 Y := by rw [hY]; exact alloc_below HV6.out
            have HBY := Lib.hid hby
            have l0 := later_cell (show Y.cell? ⟨v3.heap.size, 0, none⟩ = some (.int .i64 2) by rw [hY]; exact alloc_on (cell_on (HE1.out 0 _ rfl) HB6.out) _)
            have l1 := later_cell (show Y.cell? ⟨v3.heap.size, 1, none⟩ = some (.int .i64 1) by rw [hY]; exact alloc_on (cell_on (HE1.out 1 _ rfl) HB6.out) _)
            have l2 := later_cell (show Y.cell? ⟨v3.heap.size, 2, none⟩ = some (.int .i64 0) by rw [hY]; exact alloc_on (cell_on (HE1.out 2 _ rfl) HB6.out) _)
            have l3 := later_cell (show Y.cell? ⟨v3.heap.size, 3, none⟩ = some (.slice none 0 0) by rw [hY]; exact alloc_on (cell_on (HE1.out 3 _ rfl) HB6.out) _)
            have k0 := later_cell (show Y.cell? ⟨v6.heap.size, 0, none⟩ = some (.int .i64 2) by rw [hY, World.cell?_alloc_new]; rfl)
            have k1 := later_cell (show Y.cell? ⟨v6.heap.size, 1, none⟩ = some (.int .i64 1) by rw [hY, World.cell?_alloc_new]; rfl)
            have k2 := later_cell (show Y.cell? ⟨v6.heap.size, 2, none⟩ = some (.int .i64 0) by rw [hY, World.cell?_alloc_new]; rfl)
            have k3 := later_cell (show Y.cell? ⟨v6.heap.size, 3, none⟩ = some (.slice none 0 0) by rw [hY, World.cell?_alloc_new]; rfl)
            clear hY hby
            refine wp_region_later (by kernel_rfl) (by kernel_rfl) ?_
            repeat (go_big_quiet_step (first
              | with_reducible refine calls_later (bool_is' true 1 rfl _)
              | with_reducible refine calls_later (bool_is' true 1 rfl _)
              | with_reducible refine calls_later (refSame_to (flat_at _ (by unfold I64; omega) (by unfold I64; omega)) (flat_at _ (by unfold I64; omega) (by unfold I64; omega)) (sameB_flat 2 _))))
            refine wpQuiet_nil ?_
            rintro _ ⟨t, rfl⟩
            have HT := Lib.hid t.below
            clear l0 l1 l2 l3 k0 k1 k2 k3
            go_wp2_with fail
            go_ret
            exact ⟨rfl, FA.out.2.2.2.2.trans ((chain HBY.out HT.out).mono FA.out.2.2.2.2.size)⟩
end Go.Proofs.YtnjgcjgfnjcgdaaDoor
