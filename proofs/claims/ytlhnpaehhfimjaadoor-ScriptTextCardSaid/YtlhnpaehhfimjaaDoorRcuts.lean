/-
  The walk of hallmootref27.cuts.
-/
import Derived.Test.YtlhnpaehhfimjaaDoorRnum
import Derived.Test.YtlhnpaehhfimjaaDoorCrash
namespace Go.Proofs.YtlhnpaehhfimjaaDoor
open Go.RowKit Go.Maps
def cutsV (l : List UInt8) : List Int := if l = [] then [] else cutsS l
def cutsOk (l : List UInt8) : Bool := withinB 32 (cutsV l) && decide ((cutsV l).length ≤ 64)
theorem sign_at {s : ByteArray} {c : UInt8} {n k : Int} {w : World} (hs : s.size ≤ 1000000) (hn : (c.toNat : Int) = n) (hk : Lib.index s.data.toList [c] = k) :
    Calls Tryd.prog 40 #[.string s, .int .u8 n] w fun e w' => e = .returned (.int .i64 k) ∧ w = w' := by
  subst hn hk; exact sign_any s c w hs
theorem number_at {s : ByteArray} {most n : Int} {w : World} (hn : numS s.data.toList most = n) : Calls Tryd.prog 41 #[.string s, .int .i64 most] w fun e w' => e = .returned (.int .i64 n) ∧ w = w' := by
  subst hn; exact refNumber_any s most w
theorem empty_is (S : ByteArray) : S.toList.isEmpty = decide (S.data.toList = []) := by
  rw [ByteArray.toList_eq, Bool.eq_iff_iff, List.isEmpty_iff, decide_eq_true_eq]
theorem cuts_miss {l : List UInt8} (hne : l ≠ []) (h : (44 : UInt8) ∉ l) : cutsV l = [numS l 32] := by
  unfold cutsV cutsS; rw [if_neg hne, split_miss h]; rfl
theorem cuts_mid {a r : List UInt8} (h : (44 : UInt8) ∉ a) (hr : r ≠ []) : cutsV (a ++ 44 :: r) = numS a 32 :: cutsV r := by
  unfold cutsV cutsS; rw [if_neg (by simp), if_neg hr, split_mid 44 r h]; rfl
theorem cuts_tail {a : List UInt8} (h : (44 : UInt8) ∉ a) : cutsV (a ++ [44]) = [numS a 32, -1] := by
  unfold cutsV cutsS
  rw [if_neg (by simp), split_mid 44 [] h, split_miss (by simp)]
  rfl
theorem ok_bad {l : List UInt8} {acc r : List Int} (h : cutsV l = acc ++ r) {n : Int} (hn : n ∈ r) (hb : n < 0) : cutsOk l = false := by
  unfold cutsOk withinB
  rw [Bool.and_eq_false_iff]
  refine .inl ?_
  rw [h, List.all_append, Bool.and_eq_false_iff]
  refine .inr (Bool.eq_false_iff.2 fun c => ?_)
  have := List.all_eq_true.1 c n hn
  simp at this
  omega
theorem ret_bool2 {v : Value} {a b : Bool} (h : a = b) : Ending.returned (.tuple #[v, .bool a]) = .returned (.tuple #[v, .bool b]) := by rw [h]
theorem within_snoc {l : List Int} {n : Int} (h : withinB 32 l = true) (h0 : 0 ≤ n) (h1 : n ≤ 32) : withinB 32 (l ++ [n]) = true := by
  unfold withinB at h ⊢
  rw [List.all_append, h]
  simp [h0, h1]
theorem extract_rest {S : ByteArray} {a r : List UInt8} {c : UInt8} (h : S.data.toList = a ++ c :: r) : (S.extract (a.length + 1) S.size).data.toList = r := by
  rw [ByteArray.data_extract, Array.toList_extract, h, List.extract_eq_take_drop, ← size_eq, h]
  simp only [List.length_append, List.length_cons, List.drop_length_add_append, List.drop_succ_cons, List.drop_zero]
  rw [List.take_of_length_le (by omega)]
set_option maxRecDepth 20000 in
set_option maxHeartbeats 3200000 in
theorem cuts_any (s0 : ByteArray) (w : World) (hs : s0.size ≤ 1000000) :
    Calls Tryd.prog 39 #[.string s0] w fun e w' => ∃ v, e = .returned (.tuple #[v, .bool (cutsOk s0.data.toList)]) ∧ (cutsOk s0.data.toList = true → w'.ownsRow w.heap.size 3 1 v (cutsV s0.data.toList).length ((cutsV s0.data.toList).map (Value.int .i64))) ∧ (∃ a n c, v = .slice a n c) ∧ Below w.heap.size w w' := by
  obtain ⟨L, hL⟩ : ∃ L, s0.data.toList = L := ⟨_, rfl⟩
  have hLn : L.length ≤ 1000000 := by rw [← hL, size_eq]; exact hs
  have HL := Lib.hid hL
  rw [hL]
  clear hL
  obtain ⟨i0, hi, hz0, hz1, hz2⟩ := info_parts info3
  have HI := Lib.hid (And.intro hi (And.intro hz0 (And.intro hz1 hz2)))
  clear hi hz0 hz1 hz2
  go_enter Tryd.func39, Tryd.ntmps39
  go_wp2_with fail
  go_loopw [0, 4] (fun u v wr => ∃ (S : ByteArray) (acc : List Int), u = .string S ∧ wr.ownsRow w.heap.size 3 1 v acc.length (acc.map (Value.int .i64)) ∧ cutsV L = acc ++ cutsV S.data.toList ∧ withinB 32 acc = true ∧ acc.length + S.size ≤ L.length ∧ Below w.heap.size w wr) (fun u _ _ => match u with | .string S => S.size | _ => 0)
  case atStart => exact ⟨s0, [], rfl, World.ownsRow_nil _ _ _ _, by rw [HL.out]; rfl, rfl, by rw [← HL.out, size_eq]; simp, Below.refl _ _⟩
  case round =>
    obtain ⟨S, acc, rfl, hrow, hspec, hin, hlen, hb⟩ := hrel
    have HR := Lib.hid (And.intro hrow (And.intro hspec hin))
    have HB := Lib.hid hb
    clear hrow hspec hin hb
    by_cases hS : S.data.toList = []
    · have es : S.toList.isEmpty = true := by rw [empty_is]; exact decide_eq_true hS
      have HX := Lib.hid (show cutsV L = acc by rw [HR.out.2.1, hS]; exact List.append_nil _)
      clear hS
      by_cases h64 : acc.length ≤ 64
      · have d0 : decide ((acc.length : Int) ≤ 64) = true := decide_eq_true (by omega)
        have HO := Lib.hid (show cutsOk L = true by unfold cutsOk; rw [HX.out, HR.out.2.2]; simpa using h64)
        obtain ⟨c, cap, rfl, _⟩ := cuts_of_owns HR.out.1
        go_wp2_with fail
        go_ret2
        exact ⟨_, ret_bool2 HO.out.symm, fun _ => by rw [HX.out]; exact HR.out.1, ⟨_, _, _, rfl⟩, HB.out⟩
      · have d0 : decide ((acc.length : Int) ≤ 64) = false := decide_eq_false (by omega)
        have HO := Lib.hid (show cutsOk L = false by unfold cutsOk; rw [HX.out, HR.out.2.2]; simpa using h64)
        obtain ⟨c, cap, rfl, _⟩ := cuts_of_owns HR.out.1
        go_wp2_with fail
        go_ret2
        exact ⟨_, ret_bool2 HO.out.symm, fun h => (by rw [HO.out] at h; cases h), ⟨_, _, _, rfl⟩, HB.out⟩
    · have es : S.toList.isEmpty = false := by rw [empty_is]; exact decide_eq_false hS
      have hSz : S.size ≤ 1000000 := by omega
      rcases byte_or 44 S.data.toList with hno | ⟨a, r, hsp, hno⟩
      · have HM := Lib.hid (cuts_miss hS hno)
        have HK := Lib.hid (index_miss 44 hno)
        have HS0 := Lib.hid (show S.size ≠ 0 from fun e => hS (List.eq_nil_of_length_eq_zero (by rw [size_eq]; exact e)))
        clear hS hno
        go_wp2_with fail
        refine (sign_at hSz rfl HK.out).mono ?_
        rintro e w1 ⟨rfl, rfl⟩
        obtain ⟨n, hn⟩ : ∃ n, numS S.data.toList 32 = n := ⟨_, rfl⟩
        have hn3 := numS_ge S.data.toList 32
        rw [hn] at hn3
        obtain ⟨hn1, hn2, _⟩ := hn3
        have hn32 := hn2 (by decide)
        have HN := Lib.hid hn
        clear hn hn2
        go_wp2_with fail
        refine (number_at HN.out).mono ?_
        rintro e w1 ⟨rfl, rfl⟩
        by_cases h0 : n < 0
        · have d0 : decide (n < 0) = true := decide_eq_true h0
          have HO := Lib.hid (ok_bad (n := n) HR.out.2.1 (by rw [HM.out, HN.out]; simp) h0)
          go_wp2_with fail
          go_ret2
          exact ⟨_, ret_bool2 HO.out.symm, fun h => (by rw [HO.out] at h; cases h), ⟨_, _, _, rfl⟩, HB.out⟩
        · have d0 : decide (n < 0) = false := decide_eq_false h0
          have HP := Lib.hid (show S.size ≠ 0 from HS0.out)
          go_wp2_with (first
            | (at_builtin; refine wpList_append_own _ rfl _ _ 23 rfl w.heap.size 3 i0 (.int .i64 0) 1 8 Tryd.underlying23 HI.out.1 HI.out.2.1 HI.out.2.2.1 HI.out.2.2.2 rfl (by decide) _ _ _ rfl (HR.out.1.alloc _) ⟨wr.heap.size, 0, none⟩ 1 1 [.int .i64 n] rfl rfl (one_new rfl) (by simp [Value.oneCell']) (by simp only [maxLen]; omega) (by omega) (by have := HB.out.size; simp; omega) ?_; intro v' w1 hown hgrow _))
          have HR2 := Lib.hid (show w1.ownsRow w.heap.size 3 1 v' (acc ++ [n]).length ((acc ++ [n]).map (Value.int .i64)) by simpa using hown)
          have HB2 := Lib.hid (grown_below (alloc_below HB.out) hgrow (HR.out.1.alloc _) (Nat.le_refl _) (alloc_below HB.out).size)
          clear hown hgrow
          go_wp2_with fail
          go_roundw
          case rel => exact ⟨⟨#[]⟩, acc ++ [n], rfl, HR2.out, by rw [HR.out.2.1, HM.out, HN.out]; simp [cutsV], within_snoc HR.out.2.2 (by omega) hn32, by have := HP.out; rw [List.length_append]; show acc.length + 1 + 0 ≤ _; omega, HB2.out⟩
          case measure => have := HP.out; show (0 : Nat) < S.size; omega
      · obtain ⟨A, hA⟩ : ∃ A : ByteArray, A = S.extract 0 a.length := ⟨_, rfl⟩
        obtain ⟨R, hR⟩ : ∃ R : ByteArray, R = S.extract (a.length + 1) S.size := ⟨_, rfl⟩
        have hlen2 : S.size = a.length + 1 + r.length := by rw [← size_eq, hsp]; simp; omega
        have hAd : A.data.toList = a := by rw [hA, Lib.extract_from_zero, hsp]; simp
        have hRd : R.data.toList = r := by rw [hR]; exact extract_rest hsp
        have hRs : R.size = r.length := by rw [← size_eq, hRd]
        have HK := Lib.hid (show Lib.index S.data.toList [44] = (a.length : Int) by rw [hsp]; exact index_mid 44 r hno)
        have HX := Lib.hid (And.intro hsp (And.intro hno (And.intro hAd (And.intro hRd (And.intro hRs hlen2)))))
        have ha : a.length + 1 ≤ S.size := by omega
        clear hS hsp hno hAd hRd hRs hlen2
        go_wp2_with fail
        refine (sign_at hSz rfl HK.out).mono ?_
        rintro e w1 ⟨rfl, rfl⟩
        have xA := hA.symm
        have xR := hR.symm
        have HRl := Lib.hid (show R.size < S.size by have := HX.out.2.2.2.2.1; have := HX.out.2.2.2.2.2; omega)
        clear hA hR
        by_cases hr0 : r = []
        · have eR : R.toList.isEmpty = true := by rw [empty_is]; exact decide_eq_true (by rw [HX.out.2.2.2.1]; exact hr0)
          have HO := Lib.hid (ok_bad (n := -1) HR.out.2.1 (by rw [HX.out.1, hr0, cuts_tail HX.out.2.1]; simp) (by decide))
          clear hr0
          go_wp2_with fail
          go_ret2
          exact ⟨_, ret_bool2 HO.out.symm, fun h => (by rw [HO.out] at h; cases h), ⟨_, _, _, rfl⟩, HB.out⟩
        have eR : R.toList.isEmpty = false := by rw [empty_is]; exact decide_eq_false (by rw [HX.out.2.2.2.1]; exact hr0)
        have HM := Lib.hid (show cutsV S.data.toList = numS a 32 :: cutsV R.data.toList by rw [HX.out.1, cuts_mid HX.out.2.1 hr0, HX.out.2.2.2.1])
        clear hr0
        obtain ⟨n, hn⟩ : ∃ n, numS a 32 = n := ⟨_, rfl⟩
        have hn3 := numS_ge a 32
        rw [hn] at hn3
        obtain ⟨hn1, hn2, _⟩ := hn3
        have hn32 := hn2 (by decide)
        have HN := Lib.hid hn
        clear hn hn2
        go_wp2_with fail
        clear xA xR
        refine (number_at (n := n) (by rw [HX.out.2.2.1]; exact HN.out)).mono ?_
        rintro e w1 ⟨rfl, rfl⟩
        by_cases h0 : n < 0
        · have d0 : decide (n < 0) = true := decide_eq_true h0
          have HO := Lib.hid (ok_bad (n := n) HR.out.2.1 (by rw [HM.out, HN.out]; simp) h0)
          go_wp2_with fail
          go_ret2
          exact ⟨_, ret_bool2 HO.out.symm, fun h => (by rw [HO.out] at h; cases h), ⟨_, _, _, rfl⟩, HB.out⟩
        · have d0 : decide (n < 0) = false := decide_eq_false h0
          go_wp2_with (first
            | (at_builtin; refine wpList_append_own _ rfl _ _ 23 rfl w.heap.size 3 i0 (.int .i64 0) 1 8 Tryd.underlying23 HI.out.1 HI.out.2.1 HI.out.2.2.1 HI.out.2.2.2 rfl (by decide) _ _ _ rfl (HR.out.1.alloc _) ⟨wr.heap.size, 0, none⟩ 1 1 [.int .i64 n] rfl rfl (one_new rfl) (by simp [Value.oneCell']) (by simp only [maxLen]; omega) (by omega) (by have := HB.out.size; simp; omega) ?_; intro v' w1 hown hgrow _))
          have HR2 := Lib.hid (show w1.ownsRow w.heap.size 3 1 v' (acc ++ [n]).length ((acc ++ [n]).map (Value.int .i64)) by simpa using hown)
          have HB2 := Lib.hid (grown_below (alloc_below HB.out) hgrow (HR.out.1.alloc _) (Nat.le_refl _) (alloc_below HB.out).size)
          clear hown hgrow
          go_wp2_with fail
          go_roundw
          case rel => exact ⟨R, acc ++ [n], rfl, HR2.out, by rw [HR.out.2.1, HM.out, HN.out]; simp, within_snoc HR.out.2.2 (by omega) hn32, by have := HRl.out; simp; omega, HB2.out⟩
          case measure => exact HRl.out
end Go.Proofs.YtlhnpaehhfimjaaDoor
