/-
  The walk of hallmootref27.digits.
-/
import Derived.Test.YtlhnpaehhfimjaaDoorDec
namespace Go.Proofs.YtlhnpaehhfimjaaDoor
open Go.RowKit
theorem one_byte (c : UInt8) (x : Int) (hx : x = (c.toNat : Int)) (W : World) : (convert 42 9 (.slice (some ⟨W.heap.size, 0, none⟩) 1 1)).run Tryd.prog (W.alloc (.cells #[.int .u8 x] 5)) = .ok (.string ⟨#[c]⟩) (W.alloc (.cells #[.int .u8 x] 5)) := by
  subst hx
  have h := run_convert_bytes_back (P := Tryd.prog) (W.alloc (.cells #[.int .u8 (c.toNat : Int)] 5)) 42 9 5 ⟨W.heap.size, 0, none⟩ 1 [c] Tryd.underlying42 Tryd.underlying5 Tryd.underlying9
  exact h (fun j hj => by
    obtain rfl : j = 0 := by simpa using hj
    exact World.cell?_alloc_new _ _ _ _)
theorem ret_str {a b : ByteArray} (h : a = b) : Ending.returned (.string a) = .returned (.string b) := by rw [h]
/-- The digits that are still to come. -/
def restD (m : Nat) : List UInt8 := if m < 10 then [] else Lib.decDigits (m / 10)
theorem rest_step {m : Nat} (h : 10 ≤ m) : restD m = restD (m / 10) ++ [UInt8.ofNat (48 + m / 10 % 10)] := by
  unfold restD
  rw [if_neg (by omega)]
  by_cases hq : m / 10 < 10
  · rw [if_pos hq, Lib.decDigits_one hq, Nat.mod_eq_of_lt hq]; rfl
  · rw [if_neg hq, Lib.decDigits, dif_neg hq]
theorem rest_first (n : Nat) : Lib.decDigits n = restD n ++ [UInt8.ofNat (48 + n % 10)] := by
  unfold restD
  by_cases hq : n < 10
  · rw [if_pos hq, Lib.decDigits_one hq, Nat.mod_eq_of_lt hq]; rfl
  · rw [if_neg hq, Lib.decDigits, dif_neg hq]
theorem m_le {m k : Nat} (h : m * 10 ^ k ≤ 9999999) : m ≤ 9999999 := Nat.le_trans (Nat.le_mul_of_pos_right m (Nat.pow_pos (Nat.succ_pos 9))) h
theorem dig_mul {m k q : Nat} (h : m * 10 ^ k ≤ 9999999) (h2 : q * 10 ≤ m) : q * 10 ^ (k + 1) ≤ 9999999 := by
  rw [Nat.pow_succ, Nat.mul_comm (10 ^ k) 10, ← Nat.mul_assoc]
  exact Nat.le_trans (Nat.mul_le_mul_right _ h2) h
theorem dig_six {m : Nat} (h : m * 10 ^ 6 ≤ 9999999) : m < 10 := by
  have e : (10 : Nat) ^ 6 = 1000000 := rfl
  rw [e] at h
  omega
theorem dig_six2 {m k q : Nat} (h : m * 10 ^ k ≤ 9999999) (h2 : q * 10 ≤ m) (h1 : 1 ≤ q) (hk : k ≤ 6) : k + 1 ≤ 6 := by
  rcases Nat.lt_or_ge k 6 with hl | hl
  · exact hl
  · obtain rfl : k = 6 := Nat.le_antisymm hk hl
    have := dig_six h
    omega
theorem dig_bound {m k q : Nat} (h : m * 10 ^ k ≤ 9999999) (h2 : q * 10 ≤ m) (h1 : 1 ≤ q) (hk : k ≤ 6) : k + 1 ≤ 6 ∧ q * 10 ^ (k + 1) ≤ 9999999 := ⟨dig_six2 h h2 h1 hk, dig_mul h h2⟩
set_option maxRecDepth 20000 in
set_option maxHeartbeats 1600000 in
theorem digits_any (n : Nat) (w : World) (hn : n ≤ 9999999) :
    Calls Tryd.prog 35 #[.int .i64 n] w fun e w' => e = .returned (.string (num n)) ∧ Below w.heap.size w w' := by
  obtain ⟨d, hd⟩ : ∃ d, n % 10 = d := ⟨_, rfl⟩
  have hd10 : d < 10 := by omega
  have k1 : (n : Int) % 10 = (d : Int) := by omega
  have k2 : (n : Int).tmod 10 = (d : Int) := by rw [Int.tmod_eq_emod_of_nonneg (by omega)]; exact k1
  have HD := Lib.hid hd
  obtain ⟨c, hc⟩ : ∃ c, UInt8.ofNat (48 + d) = c := ⟨_, rfl⟩
  have HC := Lib.hid hc
  have hcv := one_byte c (48 + (d : Int)) (by rw [← hc, dig_of hd10]; omega)
  clear hd hc
  go_enter Tryd.func35, Tryd.ntmps35
  go_wp2_with fail
  clear hcv k1 k2
  go_loopw [0, 3, 4] (fun a v b wr => ∃ (m k : Nat) (S : ByteArray), a = .int .i64 m ∧ v = .string S ∧ b = .int .i64 k ∧ k ≤ 6 ∧ m * 10 ^ k ≤ 9999999 ∧ S.size = k + 1 ∧ Lib.decDigits n = restD m ++ S.data.toList ∧ Below w.heap.size w wr) (fun a _ _ _ => (intOf a).toNat)
  case atStart =>
    refine ⟨n, 0, ⟨#[c]⟩, rfl, rfl, rfl, by omega, by omega, rfl, ?_, below_alloc _ _⟩
    rw [rest_first, HD.out, HC.out]
  case round =>
    obtain ⟨m, k, S, rfl, rfl, rfl, hk6, hmk, hS, hr, hb⟩ := hrel
    have HB := Lib.hid hb
    have HR := Lib.hid (And.intro hr (And.intro hmk hS))
    have hS7 : S.size ≤ 7 := by omega
    have hm9 : m ≤ 9999999 := m_le hmk
    clear hb hr hS hmk
    have e0 : decide ((k : Int) < 30) = true := decide_eq_true (by omega)
    by_cases hm : 10 ≤ m
    · have e1 : decide ((9 : Int) < (m : Int)) = true := decide_eq_true (by omega)
      obtain ⟨q, hq⟩ : ∃ q, m / 10 = q := ⟨_, rfl⟩
      have q1 : (m : Int) / 10 = (q : Int) := by omega
      have q2 : (m : Int).tdiv 10 = (q : Int) := by rw [Int.tdiv_eq_ediv_of_nonneg (by omega)]; exact q1
      obtain ⟨d, hd⟩ : ∃ d, q % 10 = d := ⟨_, rfl⟩
      have hd10 : d < 10 := by omega
      have k1 : (q : Int) % 10 = (d : Int) := by omega
      have k2 : (q : Int).tmod 10 = (d : Int) := by rw [Int.tmod_eq_emod_of_nonneg (by omega)]; exact k1
      obtain ⟨c, hc⟩ : ∃ c, UInt8.ofNat (48 + d) = c := ⟨_, rfl⟩
      have hcv := one_byte c (48 + (d : Int)) (by rw [← hc, dig_of hd10]; omega)
      have hqm : q < m := by omega
      have HX := Lib.hid (dig_bound HR.out.2.1 (show q * 10 ≤ m by omega) (by omega) hk6)
      have HQ := Lib.hid (show restD m = restD q ++ [c] by rw [rest_step hm, hq, hd, hc])
      clear hq hd hc
      go_wp2_with fail
      go_roundw
      case rel =>
        refine ⟨q, k + 1, (⟨#[c]⟩ : ByteArray) ++ S, rfl, rfl, by go_num, HX.out.1, HX.out.2, ?_, ?_, alloc_below HB.out⟩
        · have := HR.out.2.2
          rw [ByteArray.size_append, this]
          show 1 + (k + 1) = _
          omega
        · rw [HR.out.1, HQ.out]
          simp
      case measure => simp [intOf]; omega
    · have e1 : decide ((9 : Int) < (m : Int)) = false := decide_eq_false (by omega)
      have HE := Lib.hid (show num (n : Int) = S by
        have h := HR.out.1
        rw [restD, if_pos (by omega), List.nil_append] at h
        apply ByteArray.ext
        apply Array.ext'
        rw [num_list, Lib.itoa, if_neg (by omega), Int.toNat_natCast, h])
      go_wp2_with fail
      go_ret
      exact ⟨ret_str HE.out.symm, HB.out⟩
end Go.Proofs.YtlhnpaehhfimjaaDoor
