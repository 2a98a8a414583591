/-
  The walk of the law ValueShowIsInjective: it returns true.
-/
import Derived.Test.YtnjgcjgfnjcgdaaDoorLspec
import Derived.Test.YtnjgcjgfnjcgdaaDoorInj
namespace Go.Proofs.YtnjgcjgfnjcgdaaDoor
open Go.RowKit
theorem plain_to {x : Value} {v : V} {b : Bool} {w : World} (hv : VAt w 50 x v) (hb : plainB 50 v = b) : Calls Tryd.prog 30 #[x] w fun e w' => e = .returned (.bool b) ∧ Below w.heap.size w w' := by
  subst hb; exact plain_any 50 x v w hv

set_option maxRecDepth 20000 in
set_option maxHeartbeats 6400000 in
theorem lawShow_any (d d' : Nat) (x y : Value) (v u : V) (w : World) (hg : Good w) (hv : VAt w d x v) (hu : VAt w d' y u) :
    Calls Tryd.prog 8 #[x, y] w fun e w' => e = .returned (.bool true) ∧ Below w.heap.size w w' := by
  obtain ⟨b1, h1⟩ : ∃ b, smallB 40 v = b := ⟨_, rfl⟩
  obtain ⟨b2, h2⟩ : ∃ b, smallB 40 u = b := ⟨_, rfl⟩
  obtain ⟨b3, h3⟩ : ∃ b, withinB 40 v = b := ⟨_, rfl⟩
  obtain ⟨b4, h4⟩ : ∃ b, withinB 40 u = b := ⟨_, rfl⟩
  obtain ⟨b5, h5⟩ : ∃ b, plainB 50 v = b := ⟨_, rfl⟩
  obtain ⟨b6, h6⟩ : ∃ b, plainB 50 u = b := ⟨_, rfl⟩
  have a1 : b1 = true → VAt w 50 x v := fun g1 => (hv.small (small_cnt (h1.trans g1))).more 10
  have a2 : b2 = true → VAt w 50 y u := fun g1 => (hu.small (small_cnt (h2.trans g1))).more 10
  obtain ⟨S, hS⟩ : ∃ S, sameB 50 v u = S := ⟨_, rfl⟩
  obtain ⟨T, hT⟩ : ∃ T, sh 50 v = T := ⟨_, rfl⟩
  obtain ⟨U, hU⟩ : ∃ U, sh 50 u = U := ⟨_, rfl⟩
  have inj : b1 = true → b2 = true → b3 = true → b4 = true → b5 = true → b6 = true → ((T.toList == U.toList) = S) := by
    intro _ _ g3 g4 g5 g6
    subst hS hT hU
    exact show_inj v u (h3.trans g3) (h4.trans g4) (h5.trans g5) (h6.trans g6)
  have HP := Lib.hid (And.intro hS (And.intro hT hU))
  have HJ := Lib.hid (And.intro a1 (And.intro a2 inj))
  have HS := Lib.hid (And.intro h1 (And.intro h2 (And.intro h3 (And.intro h4 (And.intro h5 h6)))))
  obtain ⟨k, n, m, of⟩ := v
  obtain ⟨k', n', m', of'⟩ := u
  obtain ⟨d, a, cap, rfl, rfl, _, _, _, _, _⟩ := hv.op
  obtain ⟨d', a', cap', rfl, rfl, _, _, _, _, _⟩ := hu.op
  have B2 := boxes2 w #[.int .i64 k, .int .i64 n, .int .i64 m, .slice a of.length cap] #[.int .i64 k', .int .i64 n', .int .i64 m', .slice a' of'.length cap'] 24 24
  have F0 := Lib.hid (And.intro hv (And.intro hu hg))
  have HB2 := Lib.hid B2
  clear hv hu hg a1 a2 inj hS hT hU h1 h2 h3 h4 h5 h6 B2
  go_enter Tryd.func8, Tryd.ntmps8
  go_wp2_with fail
  obtain ⟨W0, hW0⟩ : ∃ W0, W0 = ((w.alloc (.cells #[.int .i64 k, .int .i64 n, .int .i64 m, .slice a of.length cap] 24)).alloc (.cells #[.int .i64 k', .int .i64 n', .int .i64 m', .slice a' of'.length cap'] 24)) := ⟨_, rfl⟩
  rw [← hW0]
  have B2 := HB2.out
  rw [← hW0] at B2
  have F := Lib.hid (And.intro B2.1 (And.intro B2.2.1 (And.intro B2.2.2 (And.intro (F0.out.1.below B2.2.2) (And.intro (F0.out.2.1.below B2.2.2) (F0.out.2.2.below B2.2.2))))))
  clear hW0 B2 HB2
  refine (sanity_any _ F.out.2.2.2.2.2).mono ?_
  rintro e w1 ⟨rfl, hb⟩
  have HB1 := Lib.hid hb; clear hb
  have t0 := (cell_on (F.out.1 0 _ rfl) HB1.out)
  have t1 := (cell_on (F.out.1 1 _ rfl) HB1.out)
  have t2 := (cell_on (F.out.1 2 _ rfl) HB1.out)
  have t3 := (cell_on (F.out.1 3 _ rfl) HB1.out)
  go_wp2_with fail
  refine (small_is _ (F.out.2.2.2.1.below HB1.out) HS.out.1).mono ?_
  rintro e w2 ⟨rfl, hb⟩
  have HB2 := Lib.hid (chain HB1.out hb)
  clear hb t0 t1 t2 t3
  cases b1
  case false =>
    go_wp2_with fail
    go_ret
    exact ⟨rfl, F.out.2.2.1.trans (HB2.out.mono F.out.2.2.1.size)⟩
  case true =>
    have t0 := (cell_on (F.out.2.1 0 _ rfl) HB2.out)
    have t1 := (cell_on (F.out.2.1 1 _ rfl) HB2.out)
    have t2 := (cell_on (F.out.2.1 2 _ rfl) HB2.out)
    have t3 := (cell_on (F.out.2.1 3 _ rfl) HB2.out)
    go_wp2_with fail
    refine (small_is _ (F.out.2.2.2.2.1.below HB2.out) HS.out.2.1).mono ?_
    rintro e w3 ⟨rfl, hb⟩
    have HB3 := Lib.hid (chain HB2.out hb)
    clear hb t0 t1 t2 t3
    cases b2
    case false =>
      go_wp2_with fail
      go_ret
      exact ⟨rfl, F.out.2.2.1.trans (HB3.out.mono F.out.2.2.1.size)⟩
    case true =>
      have VA := Lib.hid ((HJ.out.1 (by simp)).below F.out.2.2.1)
      have UA := Lib.hid ((HJ.out.2.1 (by simp)).below F.out.2.2.1)
      have t0 := (cell_on (F.out.1 0 _ rfl) HB3.out)
      have t1 := (cell_on (F.out.1 1 _ rfl) HB3.out)
      have t2 := (cell_on (F.out.1 2 _ rfl) HB3.out)
      have t3 := (cell_on (F.out.1 3 _ rfl) HB3.out)
      go_wp2_with fail
      refine (refRight_to (F.out.2.2.2.1.below HB3.out) HS.out.2.2.1).mono ?_
      rintro e w4 ⟨rfl, hb⟩
      have HB4 := Lib.hid (chain HB3.out hb)
      clear hb t0 t1 t2 t3
      cases b3
      case false =>
        go_wp2_with fail
        go_ret
        exact ⟨rfl, F.out.2.2.1.trans (HB4.out.mono F.out.2.2.1.size)⟩
      case true =>
        have t0 := (cell_on (F.out.2.1 0 _ rfl) HB4.out)
        have t1 := (cell_on (F.out.2.1 1 _ rfl) HB4.out)
        have t2 := (cell_on (F.out.2.1 2 _ rfl) HB4.out)
        have t3 := (cell_on (F.out.2.1 3 _ rfl) HB4.out)
        go_wp2_with fail
        refine (refRight_to (F.out.2.2.2.2.1.below HB4.out) HS.out.2.2.2.1).mono ?_
        rintro e w5 ⟨rfl, hb⟩
        have HB5 := Lib.hid (chain HB4.out hb)
        clear hb t0 t1 t2 t3
        cases b4
        case false =>
          go_wp2_with fail
          go_ret
          exact ⟨rfl, F.out.2.2.1.trans (HB5.out.mono F.out.2.2.1.size)⟩
        case true =>
          have t0 := (cell_on (F.out.1 0 _ rfl) HB5.out)
          have t1 := (cell_on (F.out.1 1 _ rfl) HB5.out)
          have t2 := (cell_on (F.out.1 2 _ rfl) HB5.out)
          have t3 := (cell_on (F.out.1 3 _ rfl) HB5.out)
          go_wp2_with fail
          refine (plain_to (VA.out.below HB5.out) HS.out.2.2.2.2.1).mono ?_
          rintro e w6 ⟨rfl, hb⟩
          have HB6 := Lib.hid (chain HB5.out hb)
          clear hb t0 t1 t2 t3
          cases b5
          case false =>
            go_wp2_with fail
            go_ret
            exact ⟨rfl, F.out.2.2.1.trans (HB6.out.mono F.out.2.2.1.size)⟩
          case true =>
            have t0 := (cell_on (F.out.2.1 0 _ rfl) HB6.out)
            have t1 := (cell_on (F.out.2.1 1 _ rfl) HB6.out)
            have t2 := (cell_on (F.out.2.1 2 _ rfl) HB6.out)
            have t3 := (cell_on (F.out.2.1 3 _ rfl) HB6.out)
            go_wp2_with fail
            refine (plain_to (UA.out.below HB6.out) HS.out.2.2.2.2.2).mono ?_
            rintro e w7 ⟨rfl, hb⟩
            have HB7 := Lib.hid (chain HB6.out hb)
            clear hb t0 t1 t2 t3
            cases b6
            case false =>
              go_wp2_with fail
              go_ret
              exact ⟨rfl, F.out.2.2.1.trans (HB7.out.mono F.out.2.2.1.size)⟩
            case true =>
              have LB := Lib.hid (F.out.2.2.1.trans (HB7.out.mono F.out.2.2.1.size))
              have INJ := HJ.out.2.2 (by simp) (by simp) (by simp) (by simp) (by simp) (by simp)
              have lt0 := later_cell (cell_on (F.out.1 0 _ rfl) HB7.out)
              have lt1 := later_cell (cell_on (F.out.1 1 _ rfl) HB7.out)
              have lt2 := later_cell (cell_on (F.out.1 2 _ rfl) HB7.out)
              have lt3 := later_cell (cell_on (F.out.1 3 _ rfl) HB7.out)
              have ls0 := later_cell (cell_on (F.out.2.1 0 _ rfl) HB7.out)
              have ls1 := later_cell (cell_on (F.out.2.1 1 _ rfl) HB7.out)
              have ls2 := later_cell (cell_on (F.out.2.1 2 _ rfl) HB7.out)
              have ls3 := later_cell (cell_on (F.out.2.1 3 _ rfl) HB7.out)
              have VV := Lib.hid (VA.out.below HB7.out)
              have UU := Lib.hid (UA.out.below HB7.out)
              have GG := Lib.hid (F.out.2.2.2.2.2.below HB7.out)
              have IJ := Lib.hid INJ
              clear INJ HB1 HB2 HB3 HB4 HB5 HB6 HB7 F F0 HS HJ VA UA
              go_wp2_with fail
              refine wp_region_later (by kernel_rfl) (by kernel_rfl) ?_
              repeat (go_big_quiet_step (first
                | with_reducible refine calls_later (show_to (VV.out.later _) (GG.out.below (Later.below _)) HP.out.2.1)
                | with_reducible refine calls_later (show_to (UU.out.later _) (GG.out.below (Later.below _)) HP.out.2.2)
                | with_reducible refine calls_later (same_to (VV.out.later _) (UU.out.later _) HP.out.1)))
              refine wpQuiet_nil ?_
              rintro _ ⟨t, rfl⟩
              have HT := Lib.hid t.below
              clear lt0 lt1 lt2 lt3 ls0 ls1 ls2 ls3
              go_wp2_with fail
              rw [IJ.out]
              refine bodyPost_ret (v := .bool true) (by simp [results, Tryd.results8, go_sem]) rfl ⟨rfl, ?_⟩
              exact LB.out.trans (HT.out.mono LB.out.size)
end Go.Proofs.YtnjgcjgfnjcgdaaDoor
