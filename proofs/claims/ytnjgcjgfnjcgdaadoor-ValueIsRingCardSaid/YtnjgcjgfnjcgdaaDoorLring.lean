/-
  The walk of the law ValueIsRing: it returns true.
-/
import Derived.Test.YtnjgcjgfnjcgdaaDoorSane
import Derived.Test.YtnjgcjgfnjcgdaaDoorLbase
namespace Go.Proofs.YtnjgcjgfnjcgdaaDoor
open Go.RowKit
set_option maxRecDepth 20000 in
set_option maxHeartbeats 3200000 in
theorem lawRing_any (x y z : Int) (w : World) (hg : Good w) :
    Calls Tryd.prog 5 #[.int .i64 x, .int .i64 y, .int .i64 z] w fun e w' => e = .returned (.bool true) ∧ Below w.heap.size w w' := by
  obtain ⟨a, ha⟩ : ∃ a, roundZ x = a := ⟨_, rfl⟩
  obtain ⟨b, hb0⟩ : ∃ b, roundZ y = b := ⟨_, rfl⟩
  obtain ⟨c, hc⟩ : ∃ c, roundZ z = c := ⟨_, rfl⟩
  have HA := Lib.hid (And.intro ha (And.intro hb0 hc))
  have ra : InR a := by have := round_bd x; unfold InR; omega
  have rb : InR b := by have := round_bd y; unfold InR; omega
  have rc : InR c := by have := round_bd z; unfold InR; omega
  clear ha hb0 hc
  have HR := Lib.hid (And.intro ra (And.intro rb rc))
  have hw : IntKind.i64.wrap (-a) = -a := wrap_id (by unfold InR at ra; unfold I64; omega)
  obtain ⟨ab, h_ab⟩ : ∃ ab, roundZ (a * b) = ab := ⟨_, rfl⟩
  obtain ⟨ac, h_ac⟩ : ∃ ac, roundZ (a * c) = ac := ⟨_, rfl⟩
  obtain ⟨pbc, h_pbc⟩ : ∃ pbc, roundZ (b * c) = pbc := ⟨_, rfl⟩
  obtain ⟨sab, h_sab⟩ : ∃ sab, roundZ (a + b) = sab := ⟨_, rfl⟩
  obtain ⟨sbc, h_sbc⟩ : ∃ sbc, roundZ (b + c) = sbc := ⟨_, rfl⟩
  obtain ⟨m, h_m⟩ : ∃ m, roundZ (a - b) = m := ⟨_, rfl⟩
  obtain ⟨S3, h_S3⟩ : ∃ S3, roundZ (a + b + c) = S3 := ⟨_, rfl⟩
  obtain ⟨P3, h_P3⟩ : ∃ P3, roundZ (a * b * c) = P3 := ⟨_, rfl⟩
  obtain ⟨D, h_D⟩ : ∃ D, roundZ (a * (b + c)) = D := ⟨_, rfl⟩
  have e_ab := Lib.hid (show binZ 3 a b = ab from bz3 ra rb h_ab)
  have e_ba := Lib.hid (show binZ 3 b a = ab from bz3 rb ra (by rw [Int.mul_comm]; exact h_ab))
  have e_sab := Lib.hid (show binZ 1 a b = sab from bz1 ra rb h_sab)
  have e_sba := Lib.hid (show binZ 1 b a = sab from bz1 rb ra (by rw [Int.add_comm]; exact h_sab))
  have e_sbc := Lib.hid (show binZ 1 b c = sbc from bz1 rb rc h_sbc)
  have e_S3 := Lib.hid (show binZ 1 a sbc = S3 from bz1 ra (h_sbc ▸ round_in _) (by rw [← h_sbc, ← h_S3, Int.add_assoc]; exact round_congr ((Cong.refl a).add (round_cong _))))
  have e_S3b := Lib.hid (show binZ 1 sab c = S3 from bz1 (h_sab ▸ round_in _) rc (by rw [← h_sab, ← h_S3]; exact round_congr ((round_cong _).add (Cong.refl c))))
  have e_pbc := Lib.hid (show binZ 3 b c = pbc from bz3 rb rc h_pbc)
  have e_P3 := Lib.hid (show binZ 3 a pbc = P3 from bz3 ra (h_pbc ▸ round_in _) (by rw [← h_pbc, ← h_P3, Int.mul_assoc]; exact round_congr ((Cong.refl a).mul (round_cong _))))
  have e_P3b := Lib.hid (show binZ 3 ab c = P3 from bz3 (h_ab ▸ round_in _) rc (by rw [← h_ab, ← h_P3]; exact round_congr ((round_cong _).mul (Cong.refl c))))
  have e_D := Lib.hid (show binZ 3 a sbc = D from bz3 ra (h_sbc ▸ round_in _) (by rw [← h_sbc, ← h_D]; exact round_congr ((Cong.refl a).mul (round_cong _))))
  have e_ac := Lib.hid (show binZ 3 a c = ac from bz3 ra rc h_ac)
  have e_D2 := Lib.hid (show binZ 1 ab ac = D from bz1 (h_ab ▸ round_in _) (h_ac ▸ round_in _) (by rw [← h_ab, ← h_ac, ← h_D, Int.mul_add]; exact round_congr ((round_cong _).add (round_cong _))))
  have e_m := Lib.hid (show binZ 2 a b = m from bz2 ra rb h_m)
  have e_mb := Lib.hid (show binZ 1 m b = a from bz1 (h_m ▸ round_in _) rb (by rw [← h_m]; exact round_eq (((round_cong _).add (Cong.refl b)).trans ⟨0, by omega⟩) ra.1 ra.2))
  have e_a1 := Lib.hid (show binZ 3 a 1 = a from bz3 ra ⟨by omega, by omega⟩ (by rw [Int.mul_one]; exact round_self ra.1 ra.2))
  have e_a0 := Lib.hid (show binZ 3 a 0 = 0 from bz3 ra ⟨by omega, by omega⟩ (by rw [Int.mul_zero]; exact round_self (by omega) (by omega)))
  have e_na := Lib.hid (show binZ 2 0 a = -a from bz2 ⟨by omega, by omega⟩ ra (by rw [Int.zero_sub]; exact round_self (by unfold InR at ra; omega) (by unfold InR at ra; omega)))
  have H_ab := Lib.hid h_ab
  clear ra rb rc h_ab h_ac h_pbc h_sab h_sbc h_m h_S3 h_P3 h_D
  have HG := Lib.hid hg; clear hg
  go_enter Tryd.func5, Tryd.ntmps5
  go_wp2_with fail
  refine (sanity_any _ HG.out).mono ?_
  rintro e w0 ⟨rfl, hb⟩
  have HB0 := Lib.hid hb; clear hb
  go_wp2_with fail
  refine (round_is _ HA.out.1).mono ?_
  rintro e w1 ⟨rfl, rfl⟩
  go_wp2_with fail
  refine (round_is _ HA.out.2.1).mono ?_
  rintro e w1 ⟨rfl, rfl⟩
  go_wp2_with fail
  refine (round_is _ HA.out.2.2).mono ?_
  rintro e w1 ⟨rfl, rfl⟩
  go_wp2_with fail
  refine (times_is H_ab.out _ HR.out.1 HR.out.2.1).mono ?_
  rintro e w1 ⟨rfl, hb⟩
  have HB1 := Lib.hid (chain HB0.out hb); clear hb HB0
  go_wp2_with fail
  refine (lb_is e_ab.out _ (by omega) (HG.out.below HB1.out).1).mono ?_
  rintro e w2 ⟨rfl, hb⟩
  have HB2 := Lib.hid (chain HB1.out hb); clear hb HB1
  go_wp2_with fail
  refine (times_is H_ab.out _ HR.out.1 HR.out.2.1).mono ?_
  rintro e w3 ⟨rfl, hb⟩
  have HB3 := Lib.hid (chain HB2.out hb); clear hb HB2
  go_wp2_with fail
  refine (refTimes_is H_ab.out _ HR.out.1 HR.out.2.1).mono ?_
  rintro e w4 ⟨rfl, rfl⟩
  go_wp2_with fail
  refine (lb_is e_sab.out _ (by omega) (HG.out.below HB3.out).1).mono ?_
  rintro e w4 ⟨rfl, hb⟩
  have HB4 := Lib.hid (chain HB3.out hb); clear hb HB3
  go_wp2_with fail
  refine (lb_is e_sba.out _ (by omega) (HG.out.below HB4.out).1).mono ?_
  rintro e w5 ⟨rfl, hb⟩
  have HB5 := Lib.hid (chain HB4.out hb); clear hb HB4
  go_wp2_with fail
  refine (lb_is e_ab.out _ (by omega) (HG.out.below HB5.out).1).mono ?_
  rintro e w6 ⟨rfl, hb⟩
  have HB6 := Lib.hid (chain HB5.out hb); clear hb HB5
  go_wp2_with fail
  refine (lb_is e_ba.out _ (by omega) (HG.out.below HB6.out).1).mono ?_
  rintro e w7 ⟨rfl, hb⟩
  have HB7 := Lib.hid (chain HB6.out hb); clear hb HB6
  go_wp2_with fail
  refine (lb_is e_sbc.out _ (by omega) (HG.out.below HB7.out).1).mono ?_
  rintro e w8 ⟨rfl, hb⟩
  have HB8 := Lib.hid (chain HB7.out hb); clear hb HB7
  go_wp2_with fail
  refine (lb_is e_S3.out _ (by omega) (HG.out.below HB8.out).1).mono ?_
  rintro e w9 ⟨rfl, hb⟩
  have HB9 := Lib.hid (chain HB8.out hb); clear hb HB8
  go_wp2_with fail
  refine (lb_is e_sab.out _ (by omega) (HG.out.below HB9.out).1).mono ?_
  rintro e w10 ⟨rfl, hb⟩
  have HB10 := Lib.hid (chain HB9.out hb); clear hb HB9
  go_wp2_with fail
  refine (lb_is e_S3b.out _ (by omega) (HG.out.below HB10.out).1).mono ?_
  rintro e w11 ⟨rfl, hb⟩
  have HB11 := Lib.hid (chain HB10.out hb); clear hb HB10
  go_wp2_with fail
  refine (lb_is e_pbc.out _ (by omega) (HG.out.below HB11.out).1).mono ?_
  rintro e w12 ⟨rfl, hb⟩
  have HB12 := Lib.hid (chain HB11.out hb); clear hb HB11
  go_wp2_with fail
  refine (lb_is e_P3.out _ (by omega) (HG.out.below HB12.out).1).mono ?_
  rintro e w13 ⟨rfl, hb⟩
  have HB13 := Lib.hid (chain HB12.out hb); clear hb HB12
  go_wp2_with fail
  refine (lb_is e_ab.out _ (by omega) (HG.out.below HB13.out).1).mono ?_
  rintro e w14 ⟨rfl, hb⟩
  have HB14 := Lib.hid (chain HB13.out hb); clear hb HB13
  go_wp2_with fail
  refine (lb_is e_P3b.out _ (by omega) (HG.out.below HB14.out).1).mono ?_
  rintro e w15 ⟨rfl, hb⟩
  have HB15 := Lib.hid (chain HB14.out hb); clear hb HB14
  go_wp2_with fail
  refine (lb_is e_sbc.out _ (by omega) (HG.out.below HB15.out).1).mono ?_
  rintro e w16 ⟨rfl, hb⟩
  have HB16 := Lib.hid (chain HB15.out hb); clear hb HB15
  go_wp2_with fail
  refine (lb_is e_D.out _ (by omega) (HG.out.below HB16.out).1).mono ?_
  rintro e w17 ⟨rfl, hb⟩
  have HB17 := Lib.hid (chain HB16.out hb); clear hb HB16
  go_wp2_with fail
  refine (lb_is e_ab.out _ (by omega) (HG.out.below HB17.out).1).mono ?_
  rintro e w18 ⟨rfl, hb⟩
  have HB18 := Lib.hid (chain HB17.out hb); clear hb HB17
  go_wp2_with fail
  refine (lb_is e_ac.out _ (by omega) (HG.out.below HB18.out).1).mono ?_
  rintro e w19 ⟨rfl, hb⟩
  have HB19 := Lib.hid (chain HB18.out hb); clear hb HB18
  go_wp2_with fail
  refine (lb_is e_D2.out _ (by omega) (HG.out.below HB19.out).1).mono ?_
  rintro e w20 ⟨rfl, hb⟩
  have HB20 := Lib.hid (chain HB19.out hb); clear hb HB19
  go_wp2_with fail
  refine (lb_is e_m.out _ (by omega) (HG.out.below HB20.out).1).mono ?_
  rintro e w21 ⟨rfl, hb⟩
  have HB21 := Lib.hid (chain HB20.out hb); clear hb HB20
  go_wp2_with fail
  refine (lb_is e_mb.out _ (by omega) (HG.out.below HB21.out).1).mono ?_
  rintro e w22 ⟨rfl, hb⟩
  have HB22 := Lib.hid (chain HB21.out hb); clear hb HB21
  go_wp2_with fail
  refine (lb_is e_a1.out _ (by omega) (HG.out.below HB22.out).1).mono ?_
  rintro e w23 ⟨rfl, hb⟩
  have HB23 := Lib.hid (chain HB22.out hb); clear hb HB22
  go_wp2_with fail
  refine (lb_is e_a0.out _ (by omega) (HG.out.below HB23.out).1).mono ?_
  rintro e w24 ⟨rfl, hb⟩
  have HB24 := Lib.hid (chain HB23.out hb); clear hb HB23
  go_wp2_with fail
  refine (lb_is e_na.out _ (by omega) (HG.out.below HB24.out).1).mono ?_
  rintro e w25 ⟨rfl, hb⟩
  have HB25 := Lib.hid (chain HB24.out hb); clear hb HB24
  go_wp2_with fail
  go_ret
  exact ⟨rfl, HB25.out⟩
end Go.Proofs.YtnjgcjgfnjcgdaaDoor
