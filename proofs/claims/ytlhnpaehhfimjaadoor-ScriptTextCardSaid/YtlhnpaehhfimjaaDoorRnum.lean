/-
  The walks of hallmootref27.sign and hallmootref27.number.
-/
import Derived.Test.YtlhnpaehhfimjaaDoorDec
namespace Go.Proofs.YtlhnpaehhfimjaaDoor
open Go.RowKit
theorem get_at {s : ByteArray} {j : Nat} {x : UInt8} (h : s.data.toList[j]? = some x) (hj : j < s.size) : s[j] = x := by
  rw [Array.getElem?_toList] at h
  exact (Array.getElem?_eq_some_iff.1 h).2
theorem u8_beq (a b : UInt8) : (((a.toNat : Int)) == ((b.toNat : Int))) = decide (a = b) := by
  rw [Bool.eq_iff_iff, beq_iff_eq, decide_eq_true_eq]
  exact ⟨fun h => UInt8.toNat_inj.1 (by omega), fun h => by rw [h]⟩
set_option maxHeartbeats 1600000 in
theorem sign_any (s : ByteArray) (c : UInt8) (w : World) (hs : s.size ≤ 1000000) :
    Calls Tryd.prog 40 #[.string s, .int .u8 c.toNat] w fun e w' => e = .returned (.int .i64 (Lib.index s.data.toList [c])) ∧ w = w' := by
  have hn : s.data.toList.length = s.size := Array.length_toList
  have HN := Lib.hid hn
  clear hn
  go_enter Tryd.func40, Tryd.ntmps40
  go_wp2_with fail
  go_loop [5] (fun i => ∃ j : Nat, j ≤ s.size ∧ i = .int .i64 j ∧ c ∉ s.data.toList.take j) (fun i => s.size - (intOf i).toNat)
  case atStart => exact ⟨0, Nat.zero_le _, rfl, by simp⟩
  case round =>
    obtain ⟨j, hj, rfl, hc⟩ := hrel
    have HC := Lib.hid hc
    clear hc
    by_cases hlt : j < s.size
    · obtain ⟨x, hx⟩ := get_of_lt (of := s.data.toList) (j := j) (by rw [HN.out]; exact hlt)
      have hg := get_at hx hlt
      have HX := Lib.hid hx
      clear hx
      by_cases hxc : x = c
      · have d0 : (((x.toNat : Int)) == ((c.toNat : Int))) = true := by rw [u8_beq]; simp [hxc]
        have HI := Lib.hid (show Lib.index s.data.toList [c] = (j : Int) by
          have e : s.data.toList = s.data.toList.take j ++ c :: s.data.toList.drop (j + 1) := by rw [← hxc, ← drop_of_get HX.out, List.take_append_drop]
          rw [e, index_mid c _ HC.out, List.length_take, HN.out, Nat.min_eq_left hj])
        clear hxc
        go_wp2_with fail
        go_ret
        exact ⟨ret_int HI.out.symm, rfl⟩
      · have d0 : (((x.toNat : Int)) == ((c.toNat : Int))) = false := by rw [u8_beq]; simp [hxc]
        have HC2 := Lib.hid (show c ∉ s.data.toList.take (j + 1) by
          rw [take_of_get HX.out, List.mem_append, List.mem_singleton]
          exact fun h => h.elim HC.out (fun e => hxc e.symm))
        clear hxc
        go_wp2_with fail
        go_round
        case rel => exact ⟨j + 1, by omega, by go_num, HC2.out⟩
        case measure => simp [intOf]; omega
    · obtain rfl : j = s.size := by omega
      have HI := Lib.hid (index_miss c (show c ∉ s.data.toList by have := HC.out; rw [← HN.out, List.take_length] at this; exact this))
      go_wp2_with fail
      go_ret
      exact ⟨ret_int HI.out.symm, rfl⟩
theorem pow_le {a k : Nat} (h : a < 10 ^ k) (hk : k ≤ 7) : a ≤ 9999999 := by
  have h1 : (10 : Nat) ^ k ≤ 10 ^ 7 := Nat.pow_le_pow_right (by decide) hk
  have h2 : (10 : Nat) ^ 7 = 10000000 := by decide
  omega
theorem val_lt {l : List UInt8} (h : l.all digB = true) (h7 : l.length ≤ 7) : valFrom 0 l ≤ 9999999 := by
  have := (parse_digits l 0 0 h (by decide) (by omega)).2
  rw [Nat.zero_add] at this
  exact pow_le this h7
theorem num_next {l : List UInt8} {j v : Nat} {x : UInt8} (hx : l[j]? = some x) (hd : (l.take j).all digB = true) (hv : valFrom 0 (l.take j) = v) (hxd : digB x = true) :
    (l.take (j + 1)).all digB = true ∧ valFrom 0 (l.take (j + 1)) = v * 10 + (x.toNat - 48) := by
  rw [take_of_get hx, val_snoc, hv, List.all_append, hd]
  simp [hxd]
set_option maxHeartbeats 3200000 in
theorem refNumber_any (s : ByteArray) (most : Int) (w : World) :
    Calls Tryd.prog 41 #[.string s, .int .i64 most] w fun e w' => e = .returned (.int .i64 (numS s.data.toList most)) ∧ w = w' := by
  have hn : s.data.toList.length = s.size := Array.length_toList
  obtain ⟨n, hsz⟩ : ∃ n, s.size = n := ⟨_, rfl⟩
  have HN := Lib.hid (And.intro hn hsz)
  clear hn
  by_cases h0 : n < 1
  · have d0 : decide ((n : Int) < 1) = true := decide_eq_true (by omega)
    go_enter Tryd.func41, Tryd.ntmps41
    go_wp2_with fail
    go_ret
    refine ⟨ret_int ?_, rfl⟩
    rw [numS_val, if_neg]
    rintro ⟨h, _⟩
    have : s.data.toList = [] := List.eq_nil_of_length_eq_zero (by rw [HN.out.1, HN.out.2]; omega)
    rw [this] at h
    cases h
  by_cases h7 : 7 < n
  · have d0 : decide ((n : Int) < 1) = false := decide_eq_false (by omega)
    have d1 : decide ((7 : Int) < (n : Int)) = true := decide_eq_true (by omega)
    go_enter Tryd.func41, Tryd.ntmps41
    go_wp2_with fail
    go_ret
    refine ⟨ret_int ?_, rfl⟩
    rw [numS_val, if_neg]
    rintro ⟨_, h, _⟩
    rw [HN.out.1, HN.out.2] at h
    omega
  have d0 : decide ((n : Int) < 1) = false := decide_eq_false (by omega)
  have d1 : decide ((7 : Int) < (n : Int)) = false := decide_eq_false (by omega)
  go_enter Tryd.func41, Tryd.ntmps41
  go_wp2_with fail
  clear d0 d1
  go_loop [5, 6] (fun v i => ∃ j : Nat, j ≤ n ∧ i = .int .i64 j ∧ v = .int .i64 (valFrom 0 (s.data.toList.take j) : Nat) ∧ (s.data.toList.take j).all digB = true ∧ (1 ≤ j → s.data.toList.head? = some 48 → n = 1)) (fun _ i => n - (intOf i).toNat)
  case atStart => exact ⟨0, Nat.zero_le _, rfl, rfl, rfl, fun h => by omega⟩
  case round =>
    obtain ⟨j, hj, rfl, rfl, hd, hz⟩ := hrel
    have hvl : valFrom 0 (s.data.toList.take j) ≤ 9999999 := val_lt hd (by simp; omega)
    obtain ⟨v, hv⟩ : ∃ v, valFrom 0 (s.data.toList.take j) = v := ⟨_, rfl⟩
    have HD := Lib.hid (And.intro hd (And.intro hz hv))
    rw [hv] at hvl ⊢
    clear hd hz hv
    by_cases hlt : j < n
    · obtain ⟨x, hx⟩ := get_of_lt (of := s.data.toList) (j := j) (by rw [HN.out.1, HN.out.2]; exact hlt)
      have hlt' : j < s.size := by omega
      have hg := get_at hx hlt'
      have HX := Lib.hid hx
      have hx256 : x.toNat < 256 := x.toNat_lt
      clear hx
      have hd0 : ((0 : Int) ≤ (x.toNat : Int)) := by omega
      by_cases h48 : x.toNat < 48
      · have e0 : decide ((x.toNat : Int) < 48) = true := decide_eq_true (by omega)
        go_wp2_with fail
        go_ret
        refine ⟨ret_int ?_, rfl⟩
        exact (numS_odd x (mem_of_get HX.out) (by simp only [digB, Bool.and_eq_false_iff, decide_eq_false_iff_not]; omega)).symm
      have e0 : decide ((x.toNat : Int) < 48) = false := decide_eq_false (by omega)
      by_cases h57 : 57 < x.toNat
      · have e1 : decide ((57 : Int) < (x.toNat : Int)) = true := decide_eq_true (by omega)
        go_wp2_with fail
        go_ret
        refine ⟨ret_int ?_, rfl⟩
        exact (numS_odd x (mem_of_get HX.out) (by simp only [digB, Bool.and_eq_false_iff, decide_eq_false_iff_not]; omega)).symm
      have e1 : decide ((57 : Int) < (x.toNat : Int)) = false := decide_eq_false (by omega)
      have HNX := Lib.hid (num_next HX.out HD.out.1 HD.out.2.2 (by simp only [digB, Bool.and_eq_true, decide_eq_true_eq]; omega))
      by_cases hj0 : j = 0
      · subst hj0
        have hhd : s.data.toList.head? = some x := by rw [List.head?_eq_getElem?]; exact HX.out
        have HH := Lib.hid hhd
        clear hhd
        by_cases hx48 : x.toNat = 48
        · have e2 : ((x.toNat : Int) == 48) = true := beq_iff_eq.2 (by omega)
          by_cases hn1 : n = 1
          · have e3 : decide ((1 : Int) < (n : Int)) = false := decide_eq_false (by omega)
            have HN1 := Lib.hid hn1
            clear hn1 hx48
            go_wp2_with fail
            go_round
            case rel =>
              refine ⟨1, by omega, by go_num, ?_, HNX.out.1, fun _ _ => HN1.out⟩
              rw [HNX.out.2]
              go_num
            case measure => simp [intOf]; omega
          · have e3 : decide ((1 : Int) < (n : Int)) = true := decide_eq_true (by omega)
            have HX48 := Lib.hid hx48
            clear hx48
            go_wp2_with fail
            go_ret
            refine ⟨ret_int ?_, rfl⟩
            rw [numS_val, if_neg]
            rintro ⟨h, _⟩
            simp only [okD, Bool.and_eq_true, Bool.or_eq_true, bne_iff_ne, beq_iff_eq] at h
            rcases h.2 with h | h
            · exact h (by rw [HH.out]; exact congrArg some (UInt8.toNat_inj.1 HX48.out))
            · rw [HN.out.1, HN.out.2] at h; exact hn1 h
        · have e2 : ((x.toNat : Int) == 48) = false := beq_eq_false_iff_ne.2 (by omega)
          go_wp2_with fail
          go_round
          case rel =>
            refine ⟨1, by omega, by go_num, ?_, HNX.out.1, fun _ h => ?_⟩
            · rw [HNX.out.2]
              go_num
            · rw [HH.out] at h
              injection h with h
              rw [h] at hx48
              exact absurd rfl hx48
          case measure => simp [intOf]; omega
      · have e2 : ((j : Int) == 0) = false := beq_eq_false_iff_ne.2 (by omega)
        have HZ := Lib.hid (HD.out.2.1 (by omega))
        go_wp2_with fail
        go_round
        case rel =>
          refine ⟨j + 1, by omega, by go_num, ?_, HNX.out.1, fun _ => HZ.out⟩
          rw [HNX.out.2]
          go_num
        case measure => simp [intOf]; omega
    · have hjn : j = n := by omega
      have htk : s.data.toList.take j = s.data.toList := by rw [List.take_of_length_le]; rw [HN.out.1, HN.out.2]; omega
      have hok : okD s.data.toList = true ∧ valFrom 0 s.data.toList = v := by
        obtain ⟨h1, h2, h3⟩ := HD.out
        rw [htk] at h1 h3
        refine ⟨?_, h3⟩
        simp only [okD, Bool.and_eq_true, Bool.or_eq_true, Bool.not_eq_true', List.isEmpty_eq_false_iff, bne_iff_ne, beq_iff_eq]
        refine ⟨⟨fun e => by have := HN.out.1; rw [e, HN.out.2] at this; simp at this; omega, h1⟩, ?_⟩
        by_cases hh : s.data.toList.head? = some 48
        · exact .inr (by rw [HN.out.1, HN.out.2]; exact h2 (by omega) hh)
        · exact .inl hh
      have HR := Lib.hid (show numS s.data.toList most = if (v : Int) ≤ most then (v : Int) else -1 by
        rw [numS_val, hok.2]
        by_cases hm : (v : Int) ≤ most
        · rw [if_pos hm, if_pos ⟨hok.1, by rw [HN.out.1, HN.out.2]; omega, hm⟩]
        · rw [if_neg hm, if_neg (fun c => hm c.2.2)])
      subst hjn
      clear hok htk
      by_cases hm : most < (v : Int)
      · have e0 : decide (most < (v : Int)) = true := decide_eq_true hm
        go_wp2_with fail
        go_ret
        exact ⟨ret_int (by rw [HR.out, if_neg (by omega)]), rfl⟩
      · have e0 : decide (most < (v : Int)) = false := decide_eq_false hm
        go_wp2_with fail
        go_ret
        exact ⟨ret_int (by rw [HR.out, if_pos (by omega)]), rfl⟩
end Go.Proofs.YtlhnpaehhfimjaaDoor
