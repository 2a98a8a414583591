/-
  The walks of hallmootref08.show and Show.
-/
import Derived.Test.YtnjgcjgfnjcgdaaDoorShow
namespace Go.Proofs.YtnjgcjgfnjcgdaaDoor
open Go.RowKit
set_option maxHeartbeats 3200000 in
theorem refShow_l (l : Nat) : ∀ (left : Int) (e : Nat) (x : Value) (v : V) (w : World), left = l → l ≤ 50 → VAt w e x v →
    Calls Tryd.prog 39 #[x, .int .i64 left] w fun e w' => e = .returned (.string (sh l v)) ∧ Below w.heap.size w w' := by
  induction l with
  | zero =>
    intro left e x v w hl _ hv
    obtain ⟨k, n, m, of⟩ := v
    obtain ⟨d0, a, cap, rfl, rfl, hk, hn, hm, hl2, he⟩ := hv.op
    clear hk hn hm he hv
    subst hl
    go_enter Tryd.func39, Tryd.ntmps39
    go_wp2_with fail
    go_ret
    exact ⟨ret_str rfl, (Below.refl _ _).alloc (Nat.le_refl _) _⟩
  | succ d ih =>
    intro left e x v w hleft hd hv
    obtain ⟨k, n, m, of⟩ := v
    obtain ⟨d0, a, cap, rfl, rfl, hk, hn, hm, hl2, he⟩ := hv.op
    clear hk
    have IH := Lib.hid ih; clear ih
    have s1 := num_size hn
    have s2 := num_size hm
    have HN := Lib.hid hn
    have HM := Lib.hid hm
    have hl0 : 1 ≤ left := by omega
    have hl9 : left ≤ 50 := by omega
    have hne : (left == 0) = false := beq_eq_false_iff_ne.2 (by omega)
    have HLEFT := Lib.hid hleft; clear hleft
    have hb0 : Below w.heap.size w (w.alloc (.cells #[.int .i64 k, .int .i64 n, .int .i64 m, .slice a of.length cap] 24)) := (Below.refl _ _).alloc (Nat.le_refl _) _
    have HB0 := Lib.hid hb0
    clear hb0 hv hn hm
    by_cases k1 : k = 1
    · subst k1
      go_enter Tryd.func39, Tryd.ntmps39
      go_wp2_with fail
      refine (refNum_any _ _ HN.out).mono ?_
      rintro e w2 ⟨rfl, rfl⟩
      go_wp2_with fail
      go_ret
      exact ⟨ret_str (by simp [sh]), HB0.out⟩
    have t1 : (k == 1) = false := by simpa using k1
    by_cases k2 : k = 2
    · subst k2
      by_cases n0 : n = 0
      · subst n0
        go_enter Tryd.func39, Tryd.ntmps39
        go_wp2_with fail
        go_ret
        exact ⟨ret_str (by simp [sh]), HB0.out⟩
      · have tn : (n == 0) = false := by simpa using n0
        have N0 := Lib.hid n0
        go_enter Tryd.func39, Tryd.ntmps39
        go_wp2_with fail
        go_ret
        exact ⟨ret_str (by simp [sh, N0.out]), HB0.out⟩
    have t2 : (k == 2) = false := by simpa using k2
    by_cases k3 : k = 3
    · subst k3
      go_enter Tryd.func39, Tryd.ntmps39
      go_wp2_with fail
      go_ret
      exact ⟨ret_str (by simp [sh]), HB0.out⟩
    have t3 : (k == 3) = false := by simpa using k3
    by_cases k4 : k = 4
    · subst k4
      go_enter Tryd.func39, Tryd.ntmps39
      go_wp2_with fail
      refine (refNum_any _ _ HN.out).mono ?_
      rintro e w2 ⟨rfl, rfl⟩
      go_wp2_with fail
      go_ret
      exact ⟨ret_str (by simp [sh]), HB0.out⟩
    have t4 : (k == 4) = false := by simpa using k4
    by_cases k5 : k = 5
    · subst k5
      go_enter Tryd.func39, Tryd.ntmps39
      go_wp2_with fail
      have l1 := later_cell (W := w.alloc (.cells #[.int .i64 5, .int .i64 n, .int .i64 m, .slice a of.length cap] 24)) (p := ⟨w.heap.size, 1, none⟩) (v := .int .i64 n) (by simp)
      have l2 := later_cell (W := w.alloc (.cells #[.int .i64 5, .int .i64 n, .int .i64 m, .slice a of.length cap] 24)) (p := ⟨w.heap.size, 2, none⟩) (v := .int .i64 m) (by simp)
      refine wp_region_later (by kernel_rfl) (by kernel_rfl) ?_
      repeat (go_big_quiet_step (first | (with_reducible refine calls_later_same (refNum_any n _ HN.out)) | (with_reducible refine calls_later_same (refNum_any m _ HM.out))))
      refine wpQuiet_nil ?_
      rintro _ ⟨t, rfl⟩
      have HT := Lib.hid t.below
      clear l1 l2
      go_wp2_with fail
      go_ret
      exact ⟨ret_str (by simp [sh]), HB0.out.trans (HT.out.mono HB0.out.size)⟩
    have t5 : (k == 5) = false := by simpa using k5
    by_cases k7 : k = 7
    · subst k7
      go_enter Tryd.func39, Tryd.ntmps39
      go_wp2_with fail
      go_ret
      exact ⟨ret_str (by simp [sh]), HB0.out⟩
    have t7 : (k == 7) = false := by simpa using k7
    by_cases k9 : k = 9
    · subst k9
      go_enter Tryd.func39, Tryd.ntmps39
      go_wp2_with fail
      go_ret
      exact ⟨ret_str (by simp [sh]), HB0.out⟩
    have t9 : (k == 9) = false := by simpa using k9
    by_cases k6 : k = 6
    · subst k6
      by_cases hl : of.length = 2
      · have tl : ((of.length : Int) == 2) = true := by simpa using (show (of.length : Int) = 2 by omega)
        obtain ⟨v0, hv0⟩ := get_of_lt (of := of) (j := 0) (by omega)
        obtain ⟨v1, hv1⟩ := get_of_lt (of := of) (j := 1) (by omega)
        obtain ⟨b, off, p0, p1, p2, of0, a0, cap0, rfl, rfl, g0, g1, g2, g3, hvv0⟩ := (he.below HB0.out).get hv0
        obtain ⟨b', off', q0, q1, q2, of1, a1, cap1, rfl, hab, h0, h1, h2, h3, hvv1⟩ := (he.below HB0.out).get hv1
        simp only [Option.some.injEq, Addr.mk.injEq] at hab
        obtain ⟨rfl, rfl, _⟩ := hab
        simp only [Nat.zero_mul, Nat.one_mul, Nat.add_zero] at g0 g1 g2 g3 h0 h1 h2 h3
        have FIN := Lib.hid (show sh (d + 1) (.mk 6 n m of) = ⟨#[40]⟩ ++ sh d (.mk p0 p1 p2 of0) ++ ⟨#[44, 32]⟩ ++ sh d (.mk q0 q1 q2 of1) ++ ⟨#[41]⟩ by simp [sh, hl, el_at hv0, el_at hv1])
        have z0 := sh_small (d := d) _ hvv0 (by omega)
        have z1 := sh_small (d := d) _ hvv1 (by omega)
        have HV0 := Lib.hid hvv0
        have HV1 := Lib.hid hvv1
        have lt0 : (0 : Int) < of.length := by omega
        have lt1 : (1 : Int) < of.length := by omega
        have l3 := later_cell (W := w.alloc (.cells #[.int .i64 6, .int .i64 n, .int .i64 m, .slice (some ⟨b, off, none⟩) of.length cap] 24)) (p := ⟨w.heap.size, 3, none⟩) (v := .slice (some ⟨b, off, none⟩) of.length cap) (by simp)
        have i0 := later_cell g0
        have i1 := later_cell g1
        have i2 := later_cell g2
        have i3 := later_cell g3
        have j0 := later_cell h0
        have j1 := later_cell h1
        have j2 := later_cell h2
        have j3 := later_cell h3
        have LL := Lib.hid (And.intro l3 (And.intro i0 (And.intro i1 (And.intro i2 (And.intro i3 (And.intro j0 (And.intro j1 (And.intro j2 j3))))))))
        clear g0 g1 g2 g3 h0 h1 h2 h3 hv0 hv1 hvv0 hvv1 hl l3 i0 i1 i2 i3 j0 j1 j2 j3
        go_enter Tryd.func39, Tryd.ntmps39
        go_wp2_with fail
        obtain ⟨l3, i0, i1, i2, i3, j0, j1, j2, j3⟩ := LL.out
        refine wp_region_later (by kernel_rfl) (by kernel_rfl) ?_
        repeat (go_big_quiet_step (first | (with_reducible refine calls_later (IH.out (left - 1) _ _ (.mk p0 p1 p2 of0) _ (by have := HLEFT.out; omega) (by omega) (HV0.out.later _))) | (with_reducible refine calls_later (IH.out (left - 1) _ _ (.mk q0 q1 q2 of1) _ (by have := HLEFT.out; omega) (by omega) (HV1.out.later _)))))
        refine wpQuiet_nil ?_
        rintro _ ⟨t, rfl⟩
        have HT := Lib.hid t.below
        clear l3 i0 i1 i2 i3 j0 j1 j2 j3
        go_wp2_with fail
        go_ret
        exact ⟨ret_str (FIN.out.symm), HB0.out.trans (HT.out.mono HB0.out.size)⟩
      · have tl : ((of.length : Int) == 2) = false := by simpa using (show ¬ (of.length : Int) = 2 by omega)
        have HL := Lib.hid hl; clear hl
        go_enter Tryd.func39, Tryd.ntmps39
        go_wp2_with fail
        go_ret
        exact ⟨ret_str (by simp [sh, HL.out]), HB0.out⟩
    have t6 : (k == 6) = false := by simpa using k6
    by_cases k8 : k = 8
    · subst k8
      by_cases hl : of.length = 1
      · have tl : ((of.length : Int) == 1) = true := by simpa using (show (of.length : Int) = 1 by omega)
        obtain ⟨v0, hv0⟩ := get_of_lt (of := of) (j := 0) (by omega)
        obtain ⟨b, off, p0, p1, p2, of0, a0, cap0, rfl, rfl, g0, g1, g2, g3, hvv0⟩ := (he.below HB0.out).get hv0
        simp only [Nat.zero_mul, Nat.add_zero] at g0 g1 g2 g3
        have hk0 : kd0 of = p0 := by unfold kd0; rw [hv0]; rfl
        have z0 := sh_small (d := d) _ hvv0 (by omega)
        have HV0 := Lib.hid hvv0
        have lt0 : (0 : Int) < of.length := by omega
        by_cases h8 : p0 = 8
        · have FIN := Lib.hid (show sh (d + 1) (.mk 8 n m of) = ⟨#[83, 111, 109, 101, 32, 40]⟩ ++ sh d (.mk p0 p1 p2 of0) ++ ⟨#[41]⟩ by simp [sh, hl, hk0, h8, el_at hv0])
          have T8 : (p0 == 8) = true := by simpa using h8
          clear hk0 hv0 hl hvv0
          subst h8
          go_enter Tryd.func39, Tryd.ntmps39
          go_wp2_with fail
          refine (IH.out (left - 1) _ _ _ _ (by have := HLEFT.out; omega) (by omega) HV0.out).mono ?_
          rintro e w2 ⟨rfl, hb⟩
          have HB2 := Lib.hid (HB0.out.trans (hb.mono HB0.out.size))
          clear hb
          go_wp2_with fail
          go_ret
          exact ⟨ret_str (FIN.out.symm), HB2.out⟩
        · have FIN := Lib.hid (show sh (d + 1) (.mk 8 n m of) = ⟨#[83, 111, 109, 101, 32]⟩ ++ sh d (.mk p0 p1 p2 of0) by simp [sh, hl, hk0, h8, el_at hv0])
          have T8 : (p0 == 8) = false := by simpa using h8
          clear hk0 hv0 hl hvv0 h8
          go_enter Tryd.func39, Tryd.ntmps39
          go_wp2_with fail
          refine (IH.out (left - 1) _ _ _ _ (by have := HLEFT.out; omega) (by omega) HV0.out).mono ?_
          rintro e w2 ⟨rfl, hb⟩
          have HB2 := Lib.hid (HB0.out.trans (hb.mono HB0.out.size))
          clear hb
          go_wp2_with fail
          go_ret
          exact ⟨ret_str (FIN.out.symm), HB2.out⟩
      · have tl : ((of.length : Int) == 1) = false := by simpa using (show ¬ (of.length : Int) = 1 by omega)
        have HL := Lib.hid hl; clear hl
        go_enter Tryd.func39, Tryd.ntmps39
        go_wp2_with fail
        go_ret
        exact ⟨ret_str (by simp [sh, HL.out]), HB0.out⟩
    have t8 : (k == 8) = false := by simpa using k8
    have KK := Lib.hid (And.intro k1 (And.intro k2 (And.intro k3 (And.intro k4 (And.intro k5 (And.intro k6 (And.intro k7 (And.intro k8 k9))))))))
    clear k1 k2 k3 k4 k5 k6 k7 k8 k9
    go_enter Tryd.func39, Tryd.ntmps39
    go_wp2_with fail
    go_ret
    exact ⟨ret_str (by obtain ⟨k1, k2, k3, k4, k5, k6, k7, k8, k9⟩ := KK.out; simp [sh, k1, k2, k3, k4, k5, k6, k7, k8, k9]), HB0.out⟩

theorem refShow_any (e : Nat) (x : Value) (v : V) (w : World) (hv : VAt w e x v) :
    Calls Tryd.prog 19 #[x] w fun e w' => e = .returned (.string (sh 50 v)) ∧ Below w.heap.size w w' := by
  obtain ⟨k, n, m, of⟩ := v
  obtain ⟨d, a, cap, rfl, rfl, hk, hn, hm, hl2, he⟩ := hv.op
  clear he hk hn hm
  go_enter Tryd.func19, Tryd.ntmps19
  go_wp2_with fail
  refine (refShow_l 50 _ _ _ _ _ rfl (Nat.le_refl _) (hv.below ((Below.refl _ _).alloc (Nat.le_refl _) _))).mono ?_
  rintro e w1 ⟨rfl, hb⟩
  have HB := Lib.hid hb; clear hb
  go_wp2_with fail
  go_ret
  exact ⟨ret_str rfl, ((Below.refl _ _).alloc (Nat.le_refl _) _).trans (HB.out.mono (by simp))⟩
end Go.Proofs.YtnjgcjgfnjcgdaaDoor
