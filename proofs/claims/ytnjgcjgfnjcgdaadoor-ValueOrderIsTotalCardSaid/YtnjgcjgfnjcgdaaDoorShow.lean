/-
  The walks of value.Show.
-/
import Derived.Test.YtnjgcjgfnjcgdaaDoorNum
import Derived.Test.YtnjgcjgfnjcgdaaDoorLater
namespace Go.Proofs.YtnjgcjgfnjcgdaaDoor
open Go.RowKit
def V.kind : V → Int
  | .mk k _ _ _ => k
def el (f : V → ByteArray) (of : List V) (i : Nat) : ByteArray := ((of[i]?).map f).getD ⟨#[]⟩
def kd0 (of : List V) : Int := ((of[0]?).map V.kind).getD 0
/-- The text of a value at most d deep. -/
def sh : Nat → V → ByteArray
  | 0, _ => ⟨#[]⟩
  | d + 1, .mk k n m of =>
    if k = 1 then num n
    else if k = 2 then (if n = 0 then ⟨#[102, 97, 108, 115, 101]⟩ else ⟨#[116, 114, 117, 101]⟩)
    else if k = 3 then ⟨#[40, 41]⟩
    else if k = 4 then ⟨#[64]⟩ ++ num n
    else if k = 5 then ⟨#[64]⟩ ++ num n ++ ⟨#[35]⟩ ++ num m
    else if k = 6 then (if of.length = 2 then ⟨#[40]⟩ ++ el (sh d) of 0 ++ ⟨#[44, 32]⟩ ++ el (sh d) of 1 ++ ⟨#[41]⟩ else ⟨#[63]⟩)
    else if k = 7 then ⟨#[78, 111, 110, 101]⟩
    else if k = 8 then (if of.length = 1 then (if kd0 of = 8 then ⟨#[83, 111, 109, 101, 32, 40]⟩ ++ el (sh d) of 0 ++ ⟨#[41]⟩ else ⟨#[83, 111, 109, 101, 32]⟩ ++ el (sh d) of 0) else ⟨#[63]⟩)
    else if k = 9 then ⟨#[102, 117, 110]⟩
    else ⟨#[63]⟩
theorem el_at {f : V → ByteArray} {of : List V} {i : Nat} {v : V} (h : of[i]? = some v) : el f of i = f v := by unfold el; rw [h]; rfl
theorem pow_step (d : Nat) : 60 * 2 ^ (d + 1) = 60 * 2 ^ d + 60 * 2 ^ d := by rw [Nat.pow_succ]; omega
theorem sz1 (a b : ByteArray) : (a ++ b).size = a.size + b.size := ByteArray.size_append
theorem szc (l : Array UInt8) : (ByteArray.mk l).size = l.size := rfl
theorem sz_ite {c : Prop} [Decidable c] {a b : ByteArray} {B : Nat} (ha : a.size + 60 ≤ B) (hb : b.size + 60 ≤ B) : (if c then a else b).size + 60 ≤ B := by split <;> assumption
theorem sh_size (w : World) : ∀ (d e : Nat) (x : Value) (v : V), VAt w e x v → (sh d v).size + 60 ≤ 60 * 2 ^ d
  | 0, _, _, _, _ => by show 0 + 60 ≤ 60 * 2 ^ 0; omega
  | d + 1, e, x, .mk k n m of, h => by
    obtain ⟨d0, a, cap, _, _, hk, hn, hm, hl2, he⟩ := h.op
    have hp : 1 ≤ 2 ^ d := Nat.one_le_two_pow
    have hps := pow_step d
    have h1 := num_size hn
    have h2 := num_size hm
    have hel : ∀ i, (el (sh d) of i).size + 60 ≤ 60 * 2 ^ d := fun i => by
      unfold el
      cases hi : of[i]? with
      | none => show 0 + 60 ≤ _; omega
      | some v =>
        obtain ⟨b, off, _, _, _, _, _, _, _, _, _, _, _, _, hvv⟩ := he.get hi
        exact sh_size w d _ _ _ hvv
    have e0 := hel 0
    have e1 := hel 1
    generalize 2 ^ d = T at *
    generalize 2 ^ (d + 1) = U at *
    unfold sh
    refine sz_ite (by omega) (sz_ite (sz_ite ?_ ?_) (sz_ite ?_ (sz_ite ?_ (sz_ite ?_ (sz_ite (sz_ite ?_ ?_) (sz_ite ?_ (sz_ite (sz_ite (sz_ite ?_ ?_) ?_) (sz_ite ?_ ?_))))))))
    all_goals
      simp only [sz1, szc]
      simp
      omega
theorem sh_small (w : World) {d e : Nat} {x : Value} {v : V} (h : VAt w e x v) (hd : d ≤ 50) : (sh d v).size ≤ 67553994410557440 := by
  have h1 := sh_size w d e x v h
  have h2 : 2 ^ d ≤ 2 ^ 50 := Nat.pow_le_pow_right (by omega) hd
  have h3 : (2 : Nat) ^ 50 = 1125899906842624 := by decide
  omega

set_option maxHeartbeats 3200000 in
theorem show_any (d : Nat) : ∀ (x : Value) (v : V) (w : World), d ≤ 50 → VAt w d x v → Good w →
    Calls Tryd.prog 18 #[x] w fun e w' => e = .returned (.string (sh d v)) ∧ Below w.heap.size w w' := by
  induction d with
  | zero => intro x v w _ hv; exact hv.elim
  | succ d ih =>
    intro x v w hd hv hg
    obtain ⟨k, n, m, of⟩ := v
    obtain ⟨d0, a, cap, hdd, rfl, hk, hn, hm, hl2, he⟩ := hv.op
    obtain rfl : d = d0 := by omega
    clear hdd hk
    have IH := Lib.hid ih; clear ih
    have s1 := num_size hn
    have s2 := num_size hm
    have HN := Lib.hid hn
    have HM := Lib.hid hm
    have hb0 : Below w.heap.size w (w.alloc (.cells #[.int .i64 k, .int .i64 n, .int .i64 m, .slice a of.length cap] 24)) := (Below.refl _ _).alloc (Nat.le_refl _) _
    have HG := Lib.hid (hg.below hb0)
    have HB0 := Lib.hid hb0
    clear hg hb0 hv hn hm
    go_enter Tryd.func18, Tryd.ntmps18
    go_wp2_with fail
    refine (itoa_any _ _ HN.out HG.out).mono ?_
    rintro e w1 ⟨rfl, hb⟩
    have e0 : w1.cell? ⟨w.heap.size, 0, none⟩ = some (.int .i64 k) := by rw [hb.cell (by simp)]; simp
    have e1 : w1.cell? ⟨w.heap.size, 1, none⟩ = some (.int .i64 n) := by rw [hb.cell (by simp)]; simp
    have e2 : w1.cell? ⟨w.heap.size, 2, none⟩ = some (.int .i64 m) := by rw [hb.cell (by simp)]; simp
    have e3 : w1.cell? ⟨w.heap.size, 3, none⟩ = some (.slice a of.length cap) := by rw [hb.cell (by simp)]; simp
    have HG1 := Lib.hid (HG.out.below hb)
    have HB1 := Lib.hid (HB0.out.trans (hb.mono HB0.out.size))
    clear hb HG
    by_cases k1 : k = 1
    · subst k1
      go_wp2_with fail
      go_ret
      exact ⟨ret_str (by simp [sh]), HB1.out⟩
    have t1 : (k == 1) = false := by simpa using k1
    by_cases k2 : k = 2
    · subst k2
      by_cases n0 : n = 0
      · subst n0
        go_wp2_with fail
        go_ret
        exact ⟨ret_str (by simp [sh]), HB1.out⟩
      · have tn : (n == 0) = false := by simpa using n0
        have N0 := Lib.hid n0
        go_wp2_with fail
        go_ret
        exact ⟨ret_str (by simp [sh, N0.out]), HB1.out⟩
    have t2 : (k == 2) = false := by simpa using k2
    by_cases k3 : k = 3
    · subst k3
      go_wp2_with fail
      go_ret
      exact ⟨ret_str (by simp [sh]), HB1.out⟩
    have t3 : (k == 3) = false := by simpa using k3
    by_cases k4 : k = 4
    · subst k4
      go_wp2_with fail
      go_ret
      exact ⟨ret_str (by simp [sh]), HB1.out⟩
    have t4 : (k == 4) = false := by simpa using k4
    by_cases k5 : k = 5
    · subst k5
      go_wp2_with fail
      refine (itoa_any _ _ HM.out HG1.out).mono ?_
      rintro e w2 ⟨rfl, hb⟩
      have HB2 := Lib.hid (HB1.out.trans (hb.mono HB1.out.size))
      clear hb
      go_wp2_with fail
      go_ret
      exact ⟨ret_str (by simp [sh]), HB2.out⟩
    have t5 : (k == 5) = false := by simpa using k5
    by_cases k6 : k = 6
    · subst k6
      by_cases hl : of.length = 2
      · have tl : ((of.length : Int) == 2) = true := by simpa using (show (of.length : Int) = 2 by omega)
        obtain ⟨v0, hv0⟩ := get_of_lt (of := of) (j := 0) (by omega)
        obtain ⟨v1, hv1⟩ := get_of_lt (of := of) (j := 1) (by omega)
        obtain ⟨b, off, p0, p1, p2, of0, a0, cap0, rfl, rfl, g0, g1, g2, g3, hvv0⟩ := (he.below HB1.out).get hv0
        obtain ⟨b', off', q0, q1, q2, of1, a1, cap1, rfl, hab, h0, h1, h2, h3, hvv1⟩ := (he.below HB1.out).get hv1
        simp only [Option.some.injEq, Addr.mk.injEq] at hab
        obtain ⟨rfl, rfl, _⟩ := hab
        simp only [Nat.zero_mul, Nat.one_mul, Nat.add_zero] at g0 g1 g2 g3 h0 h1 h2 h3
        have FIN := Lib.hid (show sh (d + 1) (.mk 6 n m of) = ⟨#[40]⟩ ++ sh d (.mk p0 p1 p2 of0) ++ ⟨#[44, 32]⟩ ++ sh d (.mk q0 q1 q2 of1) ++ ⟨#[41]⟩ by simp [sh, hl, el_at hv0, el_at hv1])
        have z0 := sh_small (d := d) _ hvv0 (by omega)
        have z1 := sh_small (d := d) _ hvv1 (by omega)
        have HV0 := Lib.hid hvv0
        have HV1 := Lib.hid hvv1
        have lt0 : (0 : Int) < of.length := by omega
        have lt1 : (1 : Int) < of.length := by omega
        clear hv0 hv1 hvv0 hvv1 hl
        go_wp2_with fail
        have l3 := later_cell e3
        have i0 := later_cell g0
        have i1 := later_cell g1
        have i2 := later_cell g2
        have i3 := later_cell g3
        have j0 := later_cell h0
        have j1 := later_cell h1
        have j2 := later_cell h2
        have j3 := later_cell h3
        clear g0 g1 g2 g3 h0 h1 h2 h3 e0 e1 e2 e3
        refine wp_region_later (by kernel_rfl) (by kernel_rfl) ?_
        repeat (go_big_quiet_step (first | (refine calls_later (IH.out _ (.mk p0 p1 p2 of0) _ (by omega) (HV0.out.later _) (HG1.out.below (Later.below _)))) | (refine calls_later (IH.out _ (.mk q0 q1 q2 of1) _ (by omega) (HV1.out.later _) (HG1.out.below (Later.below _))))))
        refine wpQuiet_nil ?_
        rintro _ ⟨t, rfl⟩
        have HT := Lib.hid t.below
        clear l3 i0 i1 i2 i3 j0 j1 j2 j3
        go_wp2_with fail
        go_ret
        exact ⟨ret_str FIN.out.symm, HB1.out.trans (HT.out.mono HB1.out.size)⟩
      · have tl : ((of.length : Int) == 2) = false := by simpa using (show ¬ (of.length : Int) = 2 by omega)
        have HL := Lib.hid hl; clear hl
        go_wp2_with fail
        go_ret
        exact ⟨ret_str (by simp [sh, HL.out]), HB1.out⟩
    have t6 : (k == 6) = false := by simpa using k6
    by_cases k7 : k = 7
    · subst k7
      go_wp2_with fail
      go_ret
      exact ⟨ret_str (by simp [sh]), HB1.out⟩
    have t7 : (k == 7) = false := by simpa using k7
    by_cases k8 : k = 8
    · subst k8
      by_cases hl : of.length = 1
      · have tl : ((of.length : Int) == 1) = true := by simpa using (show (of.length : Int) = 1 by omega)
        obtain ⟨v0, hv0⟩ := get_of_lt (of := of) (j := 0) (by omega)
        obtain ⟨b, off, p0, p1, p2, of0, a0, cap0, rfl, rfl, g0, g1, g2, g3, hvv0⟩ := (he.below HB1.out).get hv0
        simp only [Nat.zero_mul, Nat.add_zero] at g0 g1 g2 g3
        have hk0 : kd0 of = p0 := by unfold kd0; rw [hv0]; rfl
        have z0 := sh_small (d := d) _ hvv0 (by omega)
        have HV0 := Lib.hid hvv0
        have lt0 : (0 : Int) < of.length := by omega
        by_cases h8 : p0 = 8
        · have FIN := Lib.hid (show sh (d + 1) (.mk 8 n m of) = ⟨#[83, 111, 109, 101, 32, 40]⟩ ++ sh d (.mk p0 p1 p2 of0) ++ ⟨#[41]⟩ by simp [sh, hl, hk0, h8, el_at hv0])
          have T8 : (p0 != 8) = false := by simpa using h8
          clear hk0 hv0 hl hvv0
          subst h8
          go_wp2_with fail
          refine (IH.out _ _ _ (by omega) HV0.out HG1.out).mono ?_
          rintro e w2 ⟨rfl, hb⟩
          have x3 : w2.cell? ⟨w.heap.size, 3, none⟩ = some (.slice (some ⟨b, off, none⟩) of.length cap) := (hb.cell (World.block_lt_of_cell? _ _ e3)).trans e3
          have y0 : w2.cell? ⟨b, off, none⟩ = some (.int .i64 8) := (hb.cell (World.block_lt_of_cell? _ _ g0)).trans g0
          have HB2 := Lib.hid (HB1.out.trans (hb.mono HB1.out.size))
          clear hb
          go_wp2_with fail
          go_ret
          exact ⟨ret_str FIN.out.symm, HB2.out⟩
        · have FIN := Lib.hid (show sh (d + 1) (.mk 8 n m of) = ⟨#[83, 111, 109, 101, 32]⟩ ++ sh d (.mk p0 p1 p2 of0) by simp [sh, hl, hk0, h8, el_at hv0])
          have T8 : (p0 != 8) = true := by simpa using h8
          clear hk0 hv0 hl hvv0 h8
          go_wp2_with fail
          refine (IH.out _ _ _ (by omega) HV0.out HG1.out).mono ?_
          rintro e w2 ⟨rfl, hb⟩
          have x3 : w2.cell? ⟨w.heap.size, 3, none⟩ = some (.slice (some ⟨b, off, none⟩) of.length cap) := (hb.cell (World.block_lt_of_cell? _ _ e3)).trans e3
          have y0 : w2.cell? ⟨b, off, none⟩ = some (.int .i64 p0) := (hb.cell (World.block_lt_of_cell? _ _ g0)).trans g0
          have HB2 := Lib.hid (HB1.out.trans (hb.mono HB1.out.size))
          clear hb
          go_wp2_with fail
          go_ret
          exact ⟨ret_str FIN.out.symm, HB2.out⟩
      · have tl : ((of.length : Int) == 1) = false := by simpa using (show ¬ (of.length : Int) = 1 by omega)
        have HL := Lib.hid hl; clear hl
        go_wp2_with fail
        go_ret
        exact ⟨ret_str (by simp [sh, HL.out]), HB1.out⟩
    have t8 : (k == 8) = false := by simpa using k8
    by_cases k9 : k = 9
    · subst k9
      go_wp2_with fail
      go_ret
      exact ⟨ret_str (by simp [sh]), HB1.out⟩
    have t9 : (k == 9) = false := by simpa using k9
    have KK := Lib.hid (And.intro k1 (And.intro k2 (And.intro k3 (And.intro k4 (And.intro k5 (And.intro k6 (And.intro k7 (And.intro k8 k9))))))))
    clear k1 k2 k3 k4 k5 k6 k7 k8 k9
    go_wp2_with fail
    go_ret
    exact ⟨ret_str (by obtain ⟨k1, k2, k3, k4, k5, k6, k7, k8, k9⟩ := KK.out; simp [sh, k1, k2, k3, k4, k5, k6, k7, k8, k9]), HB1.out⟩
end Go.Proofs.YtnjgcjgfnjcgdaaDoor
