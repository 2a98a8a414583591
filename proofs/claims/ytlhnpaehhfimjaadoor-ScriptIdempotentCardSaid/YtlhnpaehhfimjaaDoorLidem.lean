/-
  The walk of the law ScriptIdempotent.
-/
import Derived.Test.YtlhnpaehhfimjaaDoorIs
import Derived.Test.YtlhnpaehhfimjaaDoorSane
import Derived.Deep.RegionWith
namespace Go.Proofs.YtlhnpaehhfimjaaDoor
open Go.RowKit
theorem clean_facts {n : Int} {l : List Pick} {j : Nat} {p : Pick} (h : (plainL n l)[j]? = some p) : rightB n p = true ∧ (p.k == 2) = false ∧ (p.k = 3 → j + 1 = (plainL n l).length) := by
  obtain ⟨h1, h2⟩ := clean_at (plain_clean n l 0 fun _ => 0) h
  refine ⟨h1, beq_eq_false_iff_ne.2 (by omega), fun h3 => ?_⟩
  rcases h2 with h2 | h2
  · omega
  · exact h2.2
set_option maxRecDepth 20000 in
set_option maxHeartbeats 3200000 in
theorem lawIdem_any (t : Nat) (ht : t ≤ 255) (y : Value) (l : List Pick) (w : World) (hg : Good w) (hl : LAt w y l) :
    Calls Tryd.prog 6 #[.int .u8 t, y] w fun e w' => e = .returned (.bool true) ∧ Below w.heap.size w w' := by
  obtain ⟨ya, ycap, rfl, hy⟩ := hl
  have HL := Lib.hid (show LAt w (.slice ya l.length ycap) l from ⟨ya, ycap, rfl, hy⟩)
  have HG := Lib.hid hg
  have hcap := hy.1
  clear hg hy
  obtain ⟨fw, hfw⟩ : ∃ b, fewB 250 l = b := ⟨_, rfl⟩
  have HF := Lib.hid hfw
  clear hfw
  obtain ⟨n, hn⟩ : ∃ n : Nat, t % 5 = n := ⟨_, rfl⟩
  have hn5 : n < 5 := by omega
  have k1 : (t : Int) % 5 = (n : Int) := by omega
  have k2 : (t : Int).tmod 5 = (n : Int) := by rw [Int.tmod_eq_emod_of_nonneg (by omega)]; exact k1
  clear hn
  obtain ⟨P, hP⟩ : ∃ P, plainL n l = P := ⟨_, rfl⟩
  have HP := Lib.hid hP
  clear hP
  go_enter Tryd.func6, Tryd.ntmps6
  go_wp2_with fail
  refine (sane_any w HG.out).mono ?_
  rintro e w2 ⟨rfl, hb⟩
  have HB := Lib.hid hb
  clear hb
  go_wp2_with fail
  refine (few_at (HL.out.below HB.out) HF.out).mono ?_
  rintro e w3 ⟨rfl, rfl⟩
  cases fw with
  | false =>
    go_wp2_with fail
    go_ret
    exact ⟨rfl, HB.out⟩
  | true =>
  obtain ⟨hl250, _⟩ := few_len HF.out
  have hPl : P.length ≤ l.length := by rw [← HP.out]; exact plain_len _ _ _ _
  go_wp2_with fail
  refine (plain_at (HL.out.below HB.out) (by omega) HP.out).mono ?_
  rintro e w4 ⟨qa, qcap, rfl, hv, hb⟩
  have HB4 := Lib.hid (chain HB.out hb)
  have HV := Lib.hid hv
  obtain ⟨qa', qcap', he, hqc, hqu, hat⟩ := hv
  cases he
  have HAT := Lib.hid hat
  unfold huge at hqu
  clear hat hb k1 k2
  go_wp2_with fail
  go_loopw [8] (fun i wr => ∃ j : Nat, j ≤ P.length ∧ i = .int .i64 j ∧ Below w4.heap.size w4 wr) (fun i _ => P.length - (intOf i).toNat)
  case atStart => exact ⟨0, Nat.zero_le _, rfl, Below.refl _ _⟩
  case round =>
    obtain ⟨j, hj, rfl, hb⟩ := hrel
    have HBW := Lib.hid hb
    clear hb
    by_cases hlt : j < P.length
    · obtain ⟨p, hp⟩ := get_of_lt hlt
      obtain ⟨f1, f2, f3⟩ := clean_facts (n := n) (l := l) (by rw [HP.out]; exact hp)
      obtain ⟨b, off, x, c, ccap, rfl, rfl, h0, h1, h2, h3, hpp⟩ := HAT.out j p hp
      have g0 := cell_on h0 HBW.out
      have g1 := cell_on h1 HBW.out
      have g2 := cell_on h2 HBW.out
      have g3 := cell_on h3 HBW.out
      have HPP := Lib.hid (And.intro hpp f1)
      have H0 := Lib.hid h0
      rw [HP.out] at f3
      clear hp hpp h0 h1 h2 h3 f1
      obtain ⟨k, pa, pb, pc⟩ := p
      simp only at f2 f3
      go_wp2_with fail
      refine (right_is (HPP.out.1.below HBW.out) HPP.out.2).mono ?_
      rintro e w5 ⟨rfl, hb⟩
      have HB5 := Lib.hid (chain HBW.out hb)
      clear g0 g1 g2 g3 hb
      have g0 := cell_on H0.out HB5.out
      by_cases hk : k = 3
      · have hj1 := f3 hk
        subst hk
        have d0 : decide ((j : Int) < (P.length : Int) - 1) = false := decide_eq_false (by omega)
        clear f3
        go_wp2_with fail
        go_roundw
        case rel => exact ⟨j + 1, by omega, by go_num, HB5.out⟩
        case measure => simp [intOf]; omega
      · have d0 : (k == 3) = false := beq_eq_false_iff_ne.2 hk
        clear f3
        go_wp2_with fail
        go_roundw
        case rel => exact ⟨j + 1, by omega, by go_num, HB5.out⟩
        case measure => simp [intOf]; omega
    · obtain rfl : j = P.length := by omega
      go_wp2_with fail
      refine (plain_at (HV.out.below HBW.out) (by omega) (show plainL n P = P by rw [← HP.out]; exact plain_twice n l)).mono ?_
      rintro e w5 ⟨ra, rcap, rfl, hr, hb⟩
      have HB5 := Lib.hid (chain HBW.out hb)
      have HR := Lib.hid hr
      clear hr hb
      go_wp2_with fail
      refine (same_at HR.out (HV.out.below HB5.out) (sameL_iff.2 rfl)).mono ?_
      rintro e w6 ⟨rfl, hb⟩
      have HB6 := Lib.hid (chain HB4.out (chain HB5.out hb))
      clear hb
      have d0 : decide ((P.length : Int) ≤ (l.length : Int)) = true := decide_eq_true (by omega)
      go_wp2_with fail
      go_ret
      exact ⟨rfl, HB6.out⟩
end Go.Proofs.YtlhnpaehhfimjaaDoor
