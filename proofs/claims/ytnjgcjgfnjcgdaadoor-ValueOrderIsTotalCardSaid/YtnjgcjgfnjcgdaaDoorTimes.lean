/-
  The walks of value.Times and hallmootref08.Times.
-/
import Derived.Test.YtnjgcjgfnjcgdaaDoorDiv
import Derived.Test.YtnjgcjgfnjcgdaaDoorRing
namespace Go.Proofs.YtnjgcjgfnjcgdaaDoor
open Go.RowKit
def InR (n : Int) : Prop := -1099511627776 ≤ n ∧ n ≤ 1099511627776

/-- The product of two numbers, their signs told. -/
theorem prod_cong (a b : Int) (x y : Nat) (r : Int) (s : Bool) (hx : x = a.natAbs) (hy : y = b.natAbs) (hs : s = (decide (a < 0) != decide (b < 0))) (hr : r = ((x * y : Nat) : Int) % 2199023255553) :
    roundZ (if s then -r else r) = roundZ (a * b) := by
  apply round_congr
  have h1 := abs_mul_cong a b s hs
  have h2 := emod_cong ((x * y : Nat) : Int)
  rw [← hr] at h2
  have e : (((x * y : Nat) : Int)) = (a.natAbs : Int) * (b.natAbs : Int) := by rw [hx, hy]; simp
  rw [← h1]
  cases s
  · simp only [Bool.false_eq_true, if_false]; rw [← e]; exact h2
  · simp only [if_true]; rw [← e]; exact h2.neg

theorem mul64_w (x y : Nat) (h l : Int) (w : World) (hx : x ≤ 1099511627776) (hy : y ≤ 1099511627776) (hh : h = ((x * y / 18446744073709551616 : Nat) : Int)) (hl : l = ((x * y % 18446744073709551616 : Nat) : Int)) :
    Calls Tryd.prog 41 #[.int .u64 x, .int .u64 y] w fun e w' => e = .returned (.tuple #[.int .u64 h, .int .u64 l]) ∧ w = w' :=
  (Tryd.bits_Mul64 x y (by omega) (by omega) w).mono fun e w' ⟨he, hw⟩ => ⟨by rw [he, hh, hl], hw.symm⟩

set_option maxHeartbeats 1600000 in
theorem times_any (a b : Int) (w : World) (ha : InR a) (hb : InR b) :
    Calls Tryd.prog 26 #[.int .i64 a, .int .i64 b] w fun e w' => e = .returned (.int .i64 (roundZ (a * b))) ∧ Below w.heap.size w w' := by
  obtain ⟨a0, a1⟩ := ha
  obtain ⟨b0, b1⟩ := hb
  obtain ⟨x, hx⟩ : ∃ x, x = a.natAbs := ⟨_, rfl⟩
  obtain ⟨y, hy⟩ : ∃ y, y = b.natAbs := ⟨_, rfl⟩
  have mx : max a (-a) = (x : Int) := by omega
  have my : max b (-b) = (y : Int) := by omega
  have x1 : x ≤ 1099511627776 := by omega
  have y1 : y ≤ 1099511627776 := by omega
  have xy : x * y ≤ 1208925819614629174706176 := Nat.mul_le_mul x1 y1
  obtain ⟨p, hp⟩ : ∃ p, p = x * y := ⟨_, rfl⟩
  obtain ⟨r, hr⟩ : ∃ r, r = ((x * y : Nat) : Int) % 2199023255553 := ⟨_, rfl⟩
  have FIN := fun s hs => Lib.hid (prod_cong a b x y r s hx hy hs hr)
  have r0 : 0 ≤ r := by omega
  have r1 : r < 2199023255553 := by omega
  obtain ⟨h, hh⟩ : ∃ h, h = ((x * y / 18446744073709551616 : Nat) : Int) := ⟨_, rfl⟩
  obtain ⟨l, hl⟩ : ∃ l, l = ((x * y % 18446744073709551616 : Nat) : Int) := ⟨_, rfl⟩
  have HM := fun w => Lib.hid (mul64_w x y h l w x1 y1 hh hl)
  rw [← hp] at hh hl
  have h0 : 0 ≤ h := by omega
  have h1 : h < 131072 := by omega
  have l0 : 0 ≤ l := by omega
  have l1 : l ≤ 18446744073709551615 := by omega
  have HP := Lib.hid (show (h * 18446744073709551616 + l) % 2199023255553 = r by rw [hr, ← hp]; omega)
  clear hx hy hr hp xy hh hl
  have BASE : ∀ (s : Bool), s = (decide (a < 0) != decide (b < 0)) → Calls Tryd.prog 26 #[.int .i64 a, .int .i64 b] w fun e w' => e = .returned (.int .i64 (roundZ (if s then -r else r))) ∧ Below w.heap.size w w' := by
    intro s hs
    clear FIN
    by_cases ha : a < 0 <;> by_cases hb : b < 0
    all_goals
      first
        | (have hb1 : decide (b < 0) = true := decide_eq_true hb)
        | (have hb1 : decide (b < 0) = false := decide_eq_false hb)
      first
        | (have ha1 : decide (a < 0) = true := decide_eq_true ha)
        | (have ha1 : decide (a < 0) = false := decide_eq_false ha)
      rw [ha1, hb1] at hs
      simp at hs
      subst hs
      go_enter Tryd.func26, Tryd.ntmps26
      go_wp2_with fail
      refine (HM _).out.mono ?_
      rintro e w1 ⟨rfl, rfl⟩
      go_wp2_with fail
      refine (rem64_any _ _ _ h0 h1 l0 l1).mono ?_
      rintro e w2 ⟨rfl, hbe⟩
      rw [HP.out]
      have HB := Lib.hid hbe; clear hbe
      go_wp2_with fail
      refine (round_any _ _).mono ?_
      rintro e w3 ⟨rfl, rfl⟩
      go_wp2_with fail
      go_ret
      exact ⟨ret_int (by simp), HB.out⟩
  exact (BASE _ rfl).mono fun e w' ⟨he, hb⟩ => ⟨by rw [he, (FIN _ rfl).out], hb⟩

set_option maxHeartbeats 1600000 in
theorem refTimes_pos (a b : Int) (w : World) (ha : InR a) (b0 : 0 ≤ b) (b1 : b ≤ 1099511627776) :
    Calls Tryd.prog 28 #[.int .i64 a, .int .i64 b] w fun e w' => e = .returned (.int .i64 (roundZ (a * b))) ∧ w = w' := by
  obtain ⟨a0, a1⟩ := ha
  obtain ⟨R, hR⟩ : ∃ R, R = roundZ (a * b) := ⟨_, rfl⟩
  have HR := Lib.hid hR
  rw [← hR]
  clear hR
  have hc := Lib.hid (show Cong (0 + a * b) (a * b) by rw [Int.zero_add]; exact Cong.refl _)
  obtain ⟨A, hA⟩ : ∃ A, A = a := ⟨_, rfl⟩
  obtain ⟨B, hB⟩ : ∃ B, B = b := ⟨_, rfl⟩
  have HC := Lib.hid (show Cong (0 + a * b) (A * B) by rw [hA, hB]; exact hc.out)
  have HR' := Lib.hid (show R = roundZ (A * B) by rw [hA, hB]; exact HR.out)
  clear hc HR hA hB
  go_enter Tryd.func28, Tryd.ntmps28
  go_wp2_with fail
  go_loopw [0, 1, 5] (fun va vb vo wr => ∃ x y o : Int, va = .int .i64 x ∧ vb = .int .i64 y ∧ vo = .int .i64 o ∧ -1099511627776 ≤ x ∧ x ≤ 1099511627776 ∧ 0 ≤ y ∧ y ≤ 1099511627776 ∧
      -1099511627776 ≤ o ∧ o ≤ 1099511627776 ∧ Hid (Cong (o + x * y) (A * B)) ∧ Hid (w = wr)) (fun _ vb _ _ => (intOf vb).toNat)
  case atStart => exact ⟨a, b, 0, rfl, rfl, rfl, a0, a1, b0, b1, by omega, by omega, HC, rfl⟩
  case round =>
    obtain ⟨x, y, o, rfl, rfl, rfl, x0, x1, y0, y1, o0, o1, hcg, hw⟩ := hrel
    by_cases hy : y = 0
    · subst hy
      go_wp2_with fail
      go_ret
      exact ⟨ret_int (by rw [HR'.out]; exact (round_eq (by have := hcg.out; rw [Int.mul_zero, Int.add_zero] at this; exact this.symm) o0 o1).symm), hw.out⟩
    · have y2 : 1 ≤ y := by omega
      obtain ⟨d0, d1⟩ := round_bd (x + x)
      by_cases hodd : y % 2 = 1
      · obtain ⟨e0, e1⟩ := round_bd (o + x)
        have hmod : (y % 2 == 1) = true := by simpa using hodd
        have NEW := Lib.hid (show Cong (roundZ (o + x) + roundZ (x + x) * (y / 2)) (A * B) by
          refine Cong.trans ?_ hcg.out
          refine ((round_cong (o + x)).add ((round_cong (x + x)).mulr (y / 2))).trans ?_
          have e : x * y = (x + x) * (y / 2) + x := by
            have h2 : y = 2 * (y / 2) + 1 := by omega
            generalize y / 2 = z at *
            rw [h2, Int.mul_add, Int.mul_one, ← Int.mul_assoc, Int.mul_comm x 2, show 2 * x = x + x by omega]
          rw [e]
          exact ⟨0, by omega⟩)
        clear hodd
        go_wp2_with fail
        refine (refRound_any _ _).mono ?_
        rintro e w3 ⟨rfl, rfl⟩
        go_wp2_with fail
        refine (refRound_any _ _).mono ?_
        rintro e w3 ⟨rfl, rfl⟩
        go_wp2_with fail
        go_roundw
        case rel => exact ⟨_, _, _, rfl, rfl, rfl, d0, d1, by omega, by omega, e0, e1, NEW, hw⟩
        case measure => simp [intOf]; omega
      · have hmod : (y % 2 == 1) = false := by simpa using hodd
        have NEW := Lib.hid (show Cong (o + roundZ (x + x) * (y / 2)) (A * B) by
          refine Cong.trans ?_ hcg.out
          refine ((Cong.refl o).add ((round_cong (x + x)).mulr (y / 2))).trans ?_
          have e : x * y = (x + x) * (y / 2) := by
            have h2 : y = 2 * (y / 2) := by omega
            generalize y / 2 = z at *
            rw [h2, ← Int.mul_assoc, Int.mul_comm x 2, show 2 * x = x + x by omega]
          rw [e]
          exact Cong.refl _)
        clear hodd
        go_wp2_with fail
        refine (refRound_any _ _).mono ?_
        rintro e w3 ⟨rfl, rfl⟩
        go_wp2_with fail
        go_roundw
        case rel => exact ⟨_, _, _, rfl, rfl, rfl, d0, d1, by omega, by omega, o0, o1, NEW, hw⟩
        case measure => simp [intOf]; omega

theorem refTimes_any (a b : Int) (w : World) (ha : InR a) (hb : InR b) :
    Calls Tryd.prog 28 #[.int .i64 a, .int .i64 b] w fun e w' => e = .returned (.int .i64 (roundZ (a * b))) ∧ w = w' := by
  by_cases h : b < 0
  · have hr := round_bd (0 - a)
    have e : roundZ (roundZ (0 - a) * (0 - b)) = roundZ (a * b) := by
      apply round_congr
      refine ((round_cong (0 - a)).mulr (0 - b)).trans ?_
      rw [show (0 - a) * (0 - b) = a * b by rw [Int.zero_sub, Int.zero_sub, Int.neg_mul_neg]]
      exact Cong.refl _
    have E := Lib.hid e; clear e
    obtain ⟨a0, a1⟩ := ha
    obtain ⟨b0, b1⟩ := hb
    have HR := Lib.hid hr; clear hr
    go_enter Tryd.func28, Tryd.ntmps28
    go_wp2_with fail
    refine (refRound_any _ _).mono ?_
    rintro e w3 ⟨rfl, rfl⟩
    go_wp2_with fail
    refine (refTimes_pos _ _ _ (by have := HR.out; unfold InR; simpa using this) (by omega) (by omega)).mono ?_
    rintro e w3 ⟨rfl, rfl⟩
    go_wp2_with fail
    go_ret
    exact ⟨ret_int (by have := E.out; simpa using this), rfl⟩
  · exact refTimes_pos a b w ha (by omega) hb.2
end Go.Proofs.YtnjgcjgfnjcgdaaDoor
