/-
  The walk of the law ScriptPrefix.
-/
import Derived.Test.YtlhnpaehhfimjaaDoorIs
import Derived.Test.YtlhnpaehhfimjaaDoorSane
import Derived.Test.YtlhnpaehhfimjaaDoorOwn
namespace Go.Proofs.YtlhnpaehhfimjaaDoor
open Go.RowKit Go.Maps
theorem lat_take {w : World} {a : Option Addr} {cap K : Nat} {l : List Pick} (h : LAt w (.slice a l.length cap) l) (hK : K ≤ l.length) : LAt w (.slice a K cap) (l.take K) := by
  obtain ⟨a', cap', he, h1, h2, h3⟩ := h
  cases he
  refine ⟨a, cap, by rw [List.length_take, Nat.min_eq_left hK], by rw [List.length_take]; omega, h2, fun i p hi => h3 i p ?_⟩
  rw [List.getElem?_take] at hi
  split at hi
  · exact hi
  · cases hi
theorem filter_snoc' {f : Pick → Bool} {l : List Pick} {j : Nat} {p : Pick} (h : l[j]? = some p) : (l.take (j + 1)).filter f = (l.take j).filter f ++ if f p then [p] else [] := by
  rw [take_of_get h, List.filter_append]
  cases hf : f p <;> simp [hf]
def stepB (n : Int) (p : Pick) : Bool := rightB n p && (p.k == 1)
set_option maxRecDepth 20000 in
set_option maxHeartbeats 3200000 in
theorem lawPref_any (t s : Nat) (ht : t ≤ 255) (hs : s ≤ 255) (y : Value) (l : List Pick) (w : World) (hg : Good w) (hl : LAt w y l) :
    Calls Tryd.prog 7 #[.int .u8 t, y, .int .u8 s] w fun e w' => e = .returned (.bool true) ∧ Below w.heap.size w w' := by
  obtain ⟨ya, ycap, rfl, hy⟩ := hl
  have HL := Lib.hid (show LAt w (.slice ya l.length ycap) l from ⟨ya, ycap, rfl, hy⟩)
  have HG := Lib.hid hg
  have hcap := hy.1
  have hcb := hy.2.1
  unfold huge at hcb
  clear hg hy
  obtain ⟨fw, hfw⟩ : ∃ b, fewB 250 l = b := ⟨_, rfl⟩
  have HF := Lib.hid hfw
  clear hfw
  obtain ⟨n, hn⟩ : ∃ n : Nat, t % 5 = n := ⟨_, rfl⟩
  have hn5 : n < 5 := by omega
  have k1 : (t : Int) % 5 = (n : Int) := by omega
  have k2 : (t : Int).tmod 5 = (n : Int) := by rw [Int.tmod_eq_emod_of_nonneg (by omega)]; exact k1
  clear hn
  obtain ⟨P, hP⟩ : ∃ P, plainL n l = P := ⟨_, rfl⟩
  have HP := Lib.hid hP
  clear hP
  go_enter Tryd.func7, Tryd.ntmps7
  go_wp2_with fail
  refine (sane_any w HG.out).mono ?_
  rintro e w2 ⟨rfl, hb⟩
  have HB := Lib.hid hb
  clear hb
  go_wp2_with fail
  refine (few_at (HL.out.below HB.out) HF.out).mono ?_
  rintro e w3 ⟨rfl, rfl⟩
  cases fw with
  | false =>
    go_wp2_with fail
    go_ret
    exact ⟨rfl, HB.out⟩
  | true =>
  obtain ⟨hl250, _⟩ := few_len HF.out
  obtain ⟨K, hK⟩ : ∃ K : Nat, s % (l.length + 1) = K := ⟨_, rfl⟩
  have hKl : K ≤ l.length := by have : s % (l.length + 1) < l.length + 1 := Nat.mod_lt s (Nat.succ_pos l.length); omega
  have m1 : (s : Int) % ((l.length : Int) + 1) = (K : Int) := by rw [← hK]; simp
  have m2 : (s : Int).tmod ((l.length : Int) + 1) = (K : Int) := by rw [Int.tmod_eq_emod_of_nonneg (by omega)]; exact m1
  have HPT := Lib.hid (And.intro (prefix_take n l K) (plain_len n l 0 fun _ => 0))
  obtain ⟨Q, hQ⟩ : ∃ Q, plainL n (l.take K) = Q := ⟨_, rfl⟩
  have HQ := Lib.hid hQ
  clear hK hQ
  go_wp2_with fail
  refine (plain_at (HL.out.below HB.out) (by omega) HP.out).mono ?_
  rintro e w4 ⟨pa, pcap, rfl, hv, hb⟩
  have HB4 := Lib.hid (chain HB.out hb)
  have HV := Lib.hid hv
  clear hv hb
  go_wp2_with fail
  refine (plain_at (lat_take (HL.out.below HB4.out) hKl) (by simp; omega) HQ.out).mono ?_
  rintro e w5 ⟨qa, qcap, rfl, hv, hb⟩
  have HB5 := Lib.hid (chain HB4.out hb)
  have HV5 := Lib.hid (HV.out.below hb)
  have HU := Lib.hid hv
  have hQP : Q.length ≤ P.length := by rw [← HQ.out, ← HP.out]; exact HPT.out.1.1
  have hPc : P.length ≤ pcap := by obtain ⟨_, _, he, h, _⟩ := HV.out; cases he; exact h
  have hPb : P.length ≤ l.length := by rw [← HP.out]; exact HPT.out.2
  have HE := Lib.hid (show sameL Q (P.take Q.length) = true from sameL_iff.2 (by rw [← HQ.out, ← HP.out]; exact HPT.out.1.2))
  have d0 : decide ((P.length : Int) < (Q.length : Int)) = false := decide_eq_false (by omega)
  clear hv hb k1 k2 m1 m2
  go_wp2_with fail
  refine (same_at HU.out (lat_take HV5.out hQP) HE.out).mono ?_
  rintro e W ⟨rfl, hb⟩
  have HBW := Lib.hid (chain HB5.out hb)
  clear hb d0
  obtain ⟨i0, hi, hz0, hz1, hz2⟩ := info_parts info25
  have HINFO := Lib.hid (And.intro hi (And.intro hz0 (And.intro hz1 hz2)))
  clear hi hz0 hz1 hz2
  obtain ⟨_, _, he, _, _, hat⟩ := HL.out
  cases he
  have HAT := Lib.hid hat
  clear hat
  go_wp2_with fail
  go_loopw [11, 12] (fun v i wr => ∃ (j : Nat) (xs : List Value), j ≤ l.length ∧ i = .int .i64 j ∧ wr.ownsRow W.heap.size 25 4 v ((l.take j).filter (stepB n)).length xs ∧ RowOf W ((l.take j).filter (stepB n)) xs ∧ Below W.heap.size W wr) (fun _ i _ => l.length - (intOf i).toNat)
  case atStart => exact ⟨0, [], Nat.zero_le _, rfl, World.ownsRow_nil _ _ _ _, RowOf.nil _, Below.refl _ _⟩
  case round =>
    obtain ⟨j, xs, hj, rfl, hrow, hrd, hb⟩ := hrel
    have HC := Lib.hid hb
    have HO := Lib.hid (And.intro hrow hrd)
    clear hrow hrd hb
    by_cases hlt : j < l.length
    · obtain ⟨p, hp⟩ := get_of_lt hlt
      obtain ⟨b, off, x, c, ccap, rfl, rfl, h0, h1, h2, h3, hpp⟩ := HAT.out j p hp
      have HD := Lib.hid (chain HBW.out HC.out)
      have g0 := cell_on h0 HD.out
      have g1 := cell_on h1 HD.out
      have g2 := cell_on h2 HD.out
      have g3 := cell_on h3 HD.out
      have HP' := Lib.hid (And.intro hp hpp)
      have HH := Lib.hid (And.intro h0 (And.intro h1 (And.intro h2 h3)))
      clear hp hpp h0 h1 h2 h3
      obtain ⟨r, hr⟩ : ∃ r, rightB n p = r := ⟨_, rfl⟩
      have HR := Lib.hid hr
      clear hr
      go_wp2_with fail
      refine (refRight_is (HP'.out.2.below HD.out) HR.out).mono ?_
      rintro e w1 ⟨rfl, hb⟩
      have HB1 := Lib.hid (chain HC.out hb)
      have HO1 := Lib.hid (owns_below HO.out.1 hb)
      have HD1 := Lib.hid (chain HD.out hb)
      clear hb g0 g1 g2 g3
      have g0 := cell_on HH.out.1 HD1.out
      have g1 := cell_on HH.out.2.1 HD1.out
      have g2 := cell_on HH.out.2.2.1 HD1.out
      have g3 := cell_on HH.out.2.2.2 HD1.out
      have hfl : ((l.take j).filter (stepB n)).length ≤ j := Nat.le_trans (List.length_filter_le _ _) (by simp; omega)
      have hsn := filter_snoc' (f := stepB n) HP'.out.1
      by_cases hk : r = true ∧ p.k = 1
      · obtain ⟨rfl, hk⟩ := hk
        have HSN := Lib.hid (show (l.take (j + 1)).filter (stepB n) = (l.take j).filter (stepB n) ++ [p] by rw [hsn, stepB, HR.out, hk]; rfl)
        clear hsn
        have hkb : (p.k == 1) = true := by rw [hk]; rfl
        clear hk
        go_wp2_with (first
          | (at_builtin; refine wpList_append_own _ rfl _ _ 22 rfl W.heap.size 25 i0 _ 4 48 Tryd.underlying22 HINFO.out.1 HINFO.out.2.1 HINFO.out.2.2.1 HINFO.out.2.2.2 rfl (by decide) _ _ xs rfl (HO1.out.alloc _) ⟨w1.heap.size, 0, none⟩ 1 1 [.int .i64 p.k, .int .i64 p.a, .int .i64 p.b, .slice c p.c.length ccap] rfl rfl (four_new rfl) (by simp [Value.oneCell']) (by unfold maxLen; omega) (by omega) (by have := HB1.out.size; simp; omega) ?_; intro v' w2 hown2 hgrow2 _))
        have HB2 := Lib.hid (grown_below (alloc_below HB1.out) hgrow2 (HO1.out.alloc _) (Nat.le_refl _) (alloc_below HB1.out).size)
        have HR2 := Lib.hid hown2
        clear hown2 hgrow2
        go_wp2_with fail
        go_roundw
        case rel => exact ⟨j + 1, _, by omega, by go_num, by rw [HSN.out]; simpa using HR2.out, by rw [HSN.out]; exact HO.out.2.snoc (HP'.out.2.below HBW.out), HB2.out⟩
        case measure => simp [intOf]; omega
      · have HSN := Lib.hid (show (l.take (j + 1)).filter (stepB n) = (l.take j).filter (stepB n) by
          rw [hsn, stepB, HR.out]
          cases r with
          | false => simp
          | true => simp [show ¬ p.k = 1 from fun e => hk ⟨rfl, e⟩])
        clear hsn
        cases r with
        | false =>
          clear hk
          go_wp2_with fail
          go_roundw
          case rel => exact ⟨j + 1, xs, by omega, by go_num, by rw [HSN.out]; exact HO1.out, by rw [HSN.out]; exact HO.out.2, HB1.out⟩
          case measure => simp [intOf]; omega
        | true =>
          have hkb : (p.k == 1) = false := beq_eq_false_iff_ne.2 fun e => hk ⟨rfl, e⟩
          clear hk
          go_wp2_with fail
          go_roundw
          case rel => exact ⟨j + 1, xs, by omega, by go_num, by rw [HSN.out]; exact HO1.out, by rw [HSN.out]; exact HO.out.2, HB1.out⟩
          case measure => simp [intOf]; omega
    · obtain rfl : j = l.length := by omega
      obtain ⟨S, hS⟩ : ∃ S, l.filter (stepB n) = S := ⟨_, rfl⟩
      have hSl : S.length ≤ l.length := by rw [← hS]; exact List.length_filter_le _ _
      have hv := HO.out.1
      have hr := HO.out.2
      rw [List.take_length, hS] at hv hr
      have HS := Lib.hid (lat_of_owns hv (hr.below HC.out))
      have HSO := Lib.hid (show plainL n S = S by rw [← hS]; exact steps_own n l)
      clear hv hr hS
      obtain ⟨sa, scap, rfl, hsx⟩ := HS.out
      clear hsx
      go_wp2_with fail
      refine (plain_at HS.out (by omega) HSO.out).mono ?_
      rintro e w6 ⟨ra, rcap, rfl, hv, hb⟩
      have HB6 := Lib.hid (chain HC.out hb)
      have HS6 := Lib.hid (And.intro hv (HS.out.below hb))
      clear hv hb
      go_wp2_with fail
      refine (same_at HS6.out.1 HS6.out.2 (sameL_iff.2 rfl)).mono ?_
      rintro e w7 ⟨rfl, hb⟩
      have HB7 := Lib.hid (chain HBW.out (chain HB6.out hb))
      clear hb
      go_wp2_with fail
      go_ret
      exact ⟨rfl, HB7.out⟩
end Go.Proofs.YtlhnpaehhfimjaaDoor
