/-
  The walks of math/bits.Div64 and Rem64 at the divisor of the program.
-/
import Derived.Test.YtnjgcjgfnjcgdaaDoorShelf
import Derived.Test.YtnjgcjgfnjcgdaaDoorArith
namespace Go.Proofs.YtnjgcjgfnjcgdaaDoor
open Go.RowKit
theorem bitLen_y : Lib.bitLen 2199023255553 = 42 := by decide +kernel
theorem lz_y (w : World) : Calls Tryd.prog 51 #[.int .u64 2199023255553] w fun e w' => e = .returned (.int .i64 22) ∧ w = w' :=
  (Tryd.bits_LeadingZeros64 2199023255553 w (by omega) (by omega)).mono fun e w' ⟨he, hw⟩ => ⟨by rw [he]; rw [show (2199023255553 : Int).toNat = 2199023255553 from rfl, bitLen_y]; rfl, hw.symm⟩
theorem or_high (hi c : Int) (h0 : 0 ≤ hi) (h1 : hi < 131072) (c0 : 0 ≤ c) (c1 : c < 4194304) : bits .or .u64 (hi * 4194304) c = hi * 4194304 + c := by
  obtain ⟨a, rfl⟩ := Int.eq_ofNat_of_zero_le h0
  obtain ⟨b, rfl⟩ := Int.eq_ofNat_of_zero_le c0
  have ha : (a : Int) * 4194304 = ((a * 4194304 : Nat) : Int) := by omega
  rw [ha, u64_or_nat _ _ (by omega) (by omega)]
  have h := Nat.shiftLeft_add_eq_or_of_lt (b := b) (i := 22) (by omega) a
  rw [Nat.shiftLeft_eq] at h
  rw [show a * 4194304 ||| b = a * 4194304 + b from h.symm]
  omega
theorem and_low (x : Int) (h0 : 0 ≤ x) (h1 : x < 18446744073709551616) : bits .and .u64 x 4294967295 = x % 4294967296 := by
  obtain ⟨a, rfl⟩ := Int.eq_ofNat_of_zero_le h0
  have h := bits_and_u64_nat a 4294967295 (by omega) (by omega)
  rw [show ((4294967295 : Nat) : Int) = 4294967295 from rfl] at h
  rw [h, show (4294967295 : Nat) = 2 ^ 32 - 1 from rfl, Nat.and_two_pow_sub_one_eq_mod]
  omega

theorem rem_final (X A R : Int) (r0 : 0 ≤ R) (r1 : R < 9223372036858970112) (h : X * 4194304 = A * 9223372036858970112 + R) : R / 4194304 = X % 2199023255553 := by
  have e : R = (X - A * 2199023255553) * 4194304 := by omega
  have e1 : 0 ≤ X - A * 2199023255553 := by omega
  have e2 : X - A * 2199023255553 < 2199023255553 := by omega
  have e3 : R / 4194304 = X - A * 2199023255553 := by omega
  omega
theorem div_ret {q x y : Int} (h : x = y) : Ending.returned (.tuple #[.int .u64 q, .int .u64 x]) = .returned (.tuple #[.int .u64 q, .int .u64 y]) := by rw [h]

set_option maxHeartbeats 800000 in
theorem div64_big (hi lo : Int) (w : World) (h1 : 1 ≤ hi) (h2 : hi < 131072) (l1 : 0 ≤ lo) (l2 : lo ≤ 18446744073709551615) :
    Calls Tryd.prog 48 #[.int .u64 hi, .int .u64 lo, .int .u64 2199023255553] w fun e w' => (∃ q, e = .returned (.tuple #[.int .u64 q, .int .u64 ((hi * 18446744073709551616 + lo) % 2199023255553)])) ∧ w = w' := by
  have hne : (hi == 0) = false := beq_eq_false_iff_ne.2 (by omega)
  obtain ⟨U, hU⟩ : ∃ U, U = hi * 4194304 + lo / 4398046511104 := ⟨_, rfl⟩
  obtain ⟨L, hL⟩ : ∃ L, L = IntKind.u64.wrap (lo * 4194304) := ⟨_, rfl⟩
  have hor : bits .or .u64 (hi * 4194304) (lo / 4398046511104) = U := by rw [or_high _ _ (by omega) h2 (by omega) (by omega), hU]
  have u0 : 0 ≤ U := by omega
  have u1 : U < 549755813888 := by omega
  have hL' : L = lo * 4194304 % 18446744073709551616 := by rw [hL, IntKind.wrap_u64]
  have L0 : 0 ≤ L := by omega
  have L1 : L < 18446744073709551616 := by omega
  have hand : bits .and .u64 L 4294967295 = L % 4294967296 := and_low L L0 L1
  have hand1 : bits .and .u64 9223372036858970112 4294967295 = 4194304 := by rw [and_low _ (by omega) (by omega)]; rfl
  have hcut : decide (2199023255553 ≤ hi) = false := decide_eq_false (by omega)
  have EQ := Lib.hid (show (hi * 18446744073709551616 + lo) * 4194304 = U * 18446744073709551616 + L by omega)
  have hw := hL.symm
  clear hL hL' hU
  go_enter Tryd.func48, Tryd.ntmps48
  go_wp2_with fail
  refine (lz_y _).mono ?_
  rintro e w1 ⟨rfl, rfl⟩
  go_wp2_with fail
  go_loop [15, 16] (fun q r => ∃ a b : Int, q = .int .u64 a ∧ r = .int .u64 b ∧ 0 ≤ a ∧ a < 256 ∧ 0 ≤ b ∧ b < 4294967296 ∧ Hid (a * 2147483648 + b = U) ∧
      U * 4294967296 + L / 4294967296 < (a + 1) * 9223372036858970112) (fun q _ => (intOf q).toNat)
  case atStart => exact ⟨_, _, rfl, rfl, by omega, by omega, by omega, by omega, Lib.hid (by omega), by omega⟩
  case round =>
    obtain ⟨a, b, rfl, rfl, a0, a1, b0, b1, hab, hlt⟩ := hrel
    have HLT := Lib.hid hlt; clear hlt
    have t1 : decide (4294967296 ≤ a) = false := decide_eq_false (by omega)
    by_cases ht : 4294967296 * b + L / 4294967296 < a * 4194304
    · have t2 : decide (4294967296 * b + L / 4294967296 < a * 4194304) = true := decide_eq_true ht
      have b2 : b < 2147483648 := by omega
      have a2 : 1 ≤ a := by omega
      go_wp2_with fail
      go_round
      case rel => exact ⟨a - 1, b + 2147483648, rfl, rfl, by omega, by omega, by omega, by omega, Lib.hid (by have := hab.out; omega), by have := HLT.out; have := hab.out; omega⟩
      case measure => simp [intOf]; omega
    · have t2 : decide (4294967296 * b + L / 4294967296 < a * 4194304) = false := decide_eq_false ht
      obtain ⟨N, hN⟩ : ∃ N, N = U * 4294967296 + L / 4294967296 - a * 9223372036858970112 := ⟨_, rfl⟩
      have n0 : 0 ≤ N := by have := hab.out; omega
      have n1 : N < 9223372036858970112 := by have := HLT.out; omega
      have hw2 : IntKind.u64.wrap (IntKind.u64.wrap (IntKind.u64.wrap (U * 4294967296) + L / 4294967296) - IntKind.u64.wrap (a * 9223372036858970112)) = N := by
        rw [IntKind.wrap_u64, IntKind.wrap_u64, IntKind.wrap_u64, IntKind.wrap_u64]; omega
      have EQ2 := Lib.hid (show (hi * 18446744073709551616 + lo) * 4194304 = (a * 4294967296) * 9223372036858970112 + N * 4294967296 + L % 4294967296 by have := EQ.out; omega)
      clear hN
      go_wp2_with fail
      clear hw2 t2 t1
      clear ht hab HLT b0 b1
      go_loop [18, 16] (fun q r => ∃ c d : Int, q = .int .u64 c ∧ r = .int .u64 d ∧ 0 ≤ c ∧ c ≤ 4294967296 ∧ 0 ≤ d ∧ d < 4294967296 ∧ Hid (c * 2147483648 + d = N) ∧
        N * 4294967296 + L % 4294967296 < (c + 1) * 9223372036858970112) (fun q _ => (intOf q).toNat)
      case atStart => exact ⟨_, _, rfl, rfl, by omega, by omega, by omega, by omega, Lib.hid (by omega), by omega⟩
      case round =>
        obtain ⟨c, d, rfl, rfl, c0, c1, d0, d1, hcd, hlt⟩ := hrel
        have HLT := Lib.hid hlt; clear hlt
        by_cases ht1 : 4294967296 ≤ c
        · have t1 : decide (4294967296 ≤ c) = true := decide_eq_true ht1
          have d2 : d < 2147483648 := by have := hcd.out; omega
          go_wp2_with fail
          go_round
          case rel => exact ⟨c - 1, d + 2147483648, rfl, rfl, by omega, by omega, by omega, by omega, Lib.hid (by have := hcd.out; omega), by have := HLT.out; have := hcd.out; omega⟩
          case measure => simp [intOf]; omega
        · have t1 : decide (4294967296 ≤ c) = false := decide_eq_false ht1
          have c2 : c < 4294967296 := by omega
          by_cases ht : 4294967296 * d + L % 4294967296 < c * 4194304
          · have t2 : decide (4294967296 * d + L % 4294967296 < c * 4194304) = true := decide_eq_true ht
            have d2 : d < 2147483648 := by omega
            have c3 : 1 ≤ c := by omega
            go_wp2_with fail
            go_round
            case rel => exact ⟨c - 1, d + 2147483648, rfl, rfl, by omega, by omega, by omega, by omega, Lib.hid (by have := hcd.out; omega), by have := HLT.out; have := hcd.out; omega⟩
            case measure => simp [intOf]; omega
          · have t2 : decide (4294967296 * d + L % 4294967296 < c * 4194304) = false := decide_eq_false ht
            obtain ⟨R, hR⟩ : ∃ R, R = N * 4294967296 + L % 4294967296 - c * 9223372036858970112 := ⟨_, rfl⟩
            have r0 : 0 ≤ R := by have := hcd.out; omega
            have r1 : R < 9223372036858970112 := by have := HLT.out; omega
            have hw3 : IntKind.u64.wrap (IntKind.u64.wrap (IntKind.u64.wrap (N * 4294967296) + L % 4294967296) - IntKind.u64.wrap (c * 9223372036858970112)) = R := by
              rw [IntKind.wrap_u64, IntKind.wrap_u64, IntKind.wrap_u64, IntKind.wrap_u64]; omega
            have FIN := Lib.hid (rem_final (hi * 18446744073709551616 + lo) (a * 4294967296 + c) R r0 r1 (by have := EQ2.out; omega))
            clear hR
            go_wp2_with fail
            go_ret2
            exact ⟨⟨_, div_ret FIN.out⟩, rfl⟩

theorem div64_small (lo : Int) (w : World) (l1 : 0 ≤ lo) (l2 : lo ≤ 18446744073709551615) :
    Calls Tryd.prog 48 #[.int .u64 0, .int .u64 lo, .int .u64 2199023255553] w fun e w' => (∃ q, e = .returned (.tuple #[.int .u64 q, .int .u64 (lo % 2199023255553)])) ∧ w' = w.drew := by
  go_enter Tryd.func48, Tryd.ntmps48
  go_wp2_with fail
  go_region
  all_goals go_wp2_with fail
  all_goals go_ret2
  all_goals exact ⟨⟨_, rfl⟩, rfl⟩

theorem rem64_any (hi lo : Int) (w : World) (h1 : 0 ≤ hi) (h2 : hi < 131072) (l1 : 0 ≤ lo) (l2 : lo ≤ 18446744073709551615) :
    Calls Tryd.prog 42 #[.int .u64 hi, .int .u64 lo, .int .u64 2199023255553] w fun e w' => e = .returned (.int .u64 ((hi * 18446744073709551616 + lo) % 2199023255553)) ∧ Below w.heap.size w w' := by
  by_cases h : hi = 0
  · subst h
    go_enter Tryd.func42, Tryd.ntmps42
    go_wp2_with fail
    refine (div64_small _ _ l1 l2).mono ?_
    rintro e w1 ⟨⟨q, rfl⟩, rfl⟩
    go_wp2_with fail
    go_ret
    exact ⟨by simp, (Below.refl _ _).drew⟩
  · have h3 : 1 ≤ hi := by omega
    have hm : hi % 2199023255553 = hi := by omega
    go_enter Tryd.func42, Tryd.ntmps42
    go_wp2_with fail
    refine (div64_big _ _ _ h3 h2 l1 l2).mono ?_
    rintro e w1 ⟨⟨q, rfl⟩, rfl⟩
    go_wp2_with fail
    go_ret
    exact ⟨rfl, Below.refl _ _⟩
end Go.Proofs.YtnjgcjgfnjcgdaaDoor
