/-
  The walk of the law ValueMatchesSpec: it returns true.
-/
import Derived.Test.YtnjgcjgfnjcgdaaDoorLbin
import Derived.Test.YtnjgcjgfnjcgdaaDoorLater
namespace Go.Proofs.YtnjgcjgfnjcgdaaDoor
open Go.RowKit
theorem idx_is (k n m i : Int) (of : List V) : ∃ (kr r : Int) (b : Bool), I64 kr ∧ I64 r ∧ idxEnd (withinB 40 (.mk k n m of)) k n m i = .returned (.tuple #[.agg #[.int .i64 kr, .int .i64 r, .int .i64 0, .slice none 0 0], .bool b]) := by
  unfold idxEnd idxV
  cases h : idxB (withinB 40 (.mk k n m of)) k m i with
  | false => exact ⟨0, 0, false, by unfold I64; omega, by unfold I64; omega, rfl⟩
  | true =>
    refine ⟨4, n + i, true, by unfold I64; omega, ?_, rfl⟩
    unfold idxB at h
    simp only [Bool.and_eq_true, decide_eq_true_eq] at h
    obtain ⟨⟨⟨rfl, hw⟩, h0⟩, h1⟩ := h
    have := within_arr hw
    unfold I64
    omega
theorem right_to {d : Nat} {x : Value} {v : V} {b : Bool} {w : World} (hv : VAt w d x v) (hb : validP 40 v = b) : Calls Tryd.prog 14 #[x] w fun e w' => e = .returned (.bool b) ∧ Below w.heap.size w w' := by
  subst hb; exact right_any d x v w hv
theorem refRight_to {d : Nat} {x : Value} {v : V} {b : Bool} {w : World} (hv : VAt w d x v) (hb : withinB 40 v = b) : Calls Tryd.prog 15 #[x] w fun e w' => e = .returned (.bool b) ∧ Below w.heap.size w w' := by
  subst hb; exact refRight_any d x v w hv
theorem same_to {d d' : Nat} {x y : Value} {v u : V} {b : Bool} {w : World} (hv : VAt w d x v) (hu : VAt w d' y u) (hb : sameB d v u = b) : Calls Tryd.prog 16 #[x, y] w fun e w' => e = .returned (.bool b) ∧ Below w.heap.size w w' := by
  subst hb; exact same_any d d' x y v u w hv hu
theorem refSame_to {d d' : Nat} {x y : Value} {v u : V} {b : Bool} {w : World} (hv : VAt w d x v) (hu : VAt w d' y u) (hb : sameB 50 v u = b) : Calls Tryd.prog 17 #[x, y] w fun e w' => e = .returned (.bool b) ∧ Below w.heap.size w w' := by
  subst hb; exact refSame_any d d' x y v u w hv hu
theorem show_to {x : Value} {v : V} {t : ByteArray} {w : World} (hv : VAt w 50 x v) (hg : Good w) (ht : sh 50 v = t) : Calls Tryd.prog 18 #[x] w fun e w' => e = .returned (.string t) ∧ Below w.heap.size w w' := by
  subst ht; exact show_any 50 x v w (by omega) hv hg
theorem refShow_to {x : Value} {v : V} {t : ByteArray} {w : World} (hv : VAt w 50 x v) (ht : sh 50 v = t) : Calls Tryd.prog 19 #[x] w fun e w' => e = .returned (.string t) ∧ Below w.heap.size w w' := by
  subst ht; exact refShow_any 50 x v w hv
theorem round_to {n r : Int} {w : World} (h : roundZ n = r) : Calls Tryd.prog 20 #[.int .i64 n] w fun e w' => e = .returned (.int .i64 r) ∧ w = w' := by subst h; exact round_any n w
theorem refRound_to {n r : Int} {w : World} (h : roundZ n = r) : Calls Tryd.prog 21 #[.int .i64 n] w fun e w' => e = .returned (.int .i64 r) ∧ w = w' := by subst h; exact refRound_any n w
theorem int_to {n r : Int} {w : World} (h : roundZ n = r) : Calls Tryd.prog 22 #[.int .i64 n] w fun e w' => e = .returned (.agg #[.int .i64 1, .int .i64 r, .int .i64 0, .slice none 0 0]) ∧ Below w.heap.size w w' := by subst h; exact int_any n w
theorem refInt_to {n r : Int} {w : World} (h : roundZ n = r) : Calls Tryd.prog 23 #[.int .i64 n] w fun e w' => e = .returned (.agg #[.int .i64 1, .int .i64 r, .int .i64 0, .slice none 0 0]) ∧ Below w.heap.size w w' := by subst h; exact refInt_any n w

set_option maxRecDepth 20000 in
set_option maxHeartbeats 6400000 in
theorem lawSpec_any (d d' : Nat) (x y : Value) (v u : V) (i : Int) (w : World) (hg : Good w) (hv : VAt w d x v) (hu : VAt w d' y u) :
    Calls Tryd.prog 3 #[x, y, .int .i64 i] w fun e w' => e = .returned (.bool true) ∧ Below w.heap.size w w' := by
  obtain ⟨b1, h1⟩ : ∃ b, smallB 40 v = b := ⟨_, rfl⟩
  obtain ⟨b2, h2⟩ : ∃ b, smallB 40 u = b := ⟨_, rfl⟩
  have agree : b1 = true → validP 40 v = withinB 40 v ∧ VAt w 50 x v := fun g1 => ⟨valid_within _ _ 40 (small_cnt (h1.trans g1)), (hv.small (small_cnt (h1.trans g1))).more 10⟩
  obtain ⟨P, hP⟩ : ∃ P, withinB 40 v = P := ⟨_, rfl⟩
  obtain ⟨S, hS⟩ : ∃ S, sameB 50 v u = S := ⟨_, rfl⟩
  obtain ⟨T, hT⟩ : ∃ T, sh 50 v = T := ⟨_, rfl⟩
  obtain ⟨rn, hrn⟩ : ∃ rn, roundZ i = rn := ⟨_, rfl⟩
  have hI : I64 rn := by have := round_bd i; unfold I64; omega
  have HP := Lib.hid (And.intro hP (And.intro hS (And.intro hT (And.intro hrn hI))))
  obtain ⟨k, n, m, of⟩ := v
  obtain ⟨k', n', m', of'⟩ := u
  obtain ⟨kr, r, bx, hk, hr, ho⟩ := idx_is k n m i of
  have HO := Lib.hid (And.intro agree (And.intro hk (And.intro hr ho)))
  have HS := Lib.hid (And.intro h1 h2)
  obtain ⟨d, a, cap, rfl, rfl, _, _, _, _, _⟩ := hv.op
  obtain ⟨d', a', cap', rfl, rfl, _, _, _, _, _⟩ := hu.op
  have B2 := boxes2 w #[.int .i64 k, .int .i64 n, .int .i64 m, .slice a of.length cap] #[.int .i64 k', .int .i64 n', .int .i64 m', .slice a' of'.length cap'] 24 24
  have F0 := Lib.hid (And.intro hv (And.intro hu hg))
  have HB2 := Lib.hid B2
  clear hv hu hg agree ho hk hr h1 h2 B2 hP hS hT hrn hI
  go_enter Tryd.func3, Tryd.ntmps3
  go_wp2_with fail
  obtain ⟨W0, hW0⟩ : ∃ W0, W0 = ((w.alloc (.cells #[.int .i64 k, .int .i64 n, .int .i64 m, .slice a of.length cap] 24)).alloc (.cells #[.int .i64 k', .int .i64 n', .int .i64 m', .slice a' of'.length cap'] 24)) := ⟨_, rfl⟩
  rw [← hW0]
  have B2 := HB2.out
  rw [← hW0] at B2
  have F := Lib.hid (And.intro B2.1 (And.intro B2.2.1 (And.intro B2.2.2 (And.intro (F0.out.1.below B2.2.2) (And.intro (F0.out.2.1.below B2.2.2) (F0.out.2.2.below B2.2.2))))))
  clear hW0 B2 HB2
  refine (sanity_any _ F.out.2.2.2.2.2).mono ?_
  rintro e w1 ⟨rfl, hb⟩
  have t0 := (cell_on (F.out.1 0 _ rfl) hb)
  have t1 := (cell_on (F.out.1 1 _ rfl) hb)
  have t2 := (cell_on (F.out.1 2 _ rfl) hb)
  have t3 := (cell_on (F.out.1 3 _ rfl) hb)
  have HB1 := Lib.hid hb; clear hb
  go_wp2_with fail
  refine (small_is _ (F.out.2.2.2.1.below HB1.out) HS.out.1).mono ?_
  rintro e w2 ⟨rfl, hb⟩
  have HB2 := Lib.hid (chain HB1.out hb)
  clear hb t0 t1 t2 t3
  cases b1
  case false =>
    go_wp2_with fail
    go_ret
    exact ⟨rfl, F.out.2.2.1.trans (HB2.out.mono F.out.2.2.1.size)⟩
  case true =>
    have s0 := (cell_on (F.out.2.1 0 _ rfl) HB2.out)
    have s1 := (cell_on (F.out.2.1 1 _ rfl) HB2.out)
    have s2 := (cell_on (F.out.2.1 2 _ rfl) HB2.out)
    have s3 := (cell_on (F.out.2.1 3 _ rfl) HB2.out)
    go_wp2_with fail
    refine (small_is _ (F.out.2.2.2.2.1.below HB2.out) HS.out.2).mono ?_
    rintro e w3 ⟨rfl, hb⟩
    have HB3 := Lib.hid (chain HB2.out hb)
    clear hb s0 s1 s2 s3
    cases b2
    case false =>
      go_wp2_with fail
      go_ret
      exact ⟨rfl, F.out.2.2.1.trans (HB3.out.mono F.out.2.2.1.size)⟩
    case true =>
      have AG := Lib.hid (HO.out.1 (by simp))
      have t0 := (cell_on (F.out.1 0 _ rfl) HB3.out)
      have t1 := (cell_on (F.out.1 1 _ rfl) HB3.out)
      have t2 := (cell_on (F.out.1 2 _ rfl) HB3.out)
      have t3 := (cell_on (F.out.1 3 _ rfl) HB3.out)
      go_wp2_with fail
      refine (index_any _ _ _ _ _ _ _ _ (F.out.2.2.2.1.below HB3.out)).mono ?_
      rintro e w4 ⟨he, hb⟩
      rw [AG.out.1, HO.out.2.2.2] at he
      subst he
      have HB4 := Lib.hid (chain HB3.out hb)
      clear hb t0 t1 t2 t3
      have t0 := alloc_on (cell_on (F.out.1 0 _ rfl) HB4.out)
      have t1 := alloc_on (cell_on (F.out.1 1 _ rfl) HB4.out)
      have t2 := alloc_on (cell_on (F.out.1 2 _ rfl) HB4.out)
      have t3 := alloc_on (cell_on (F.out.1 3 _ rfl) HB4.out)
      go_wp2_with fail
      refine (refIndex_any _ _ _ _ _ _ _ _ (F.out.2.2.2.1.below (alloc_below HB4.out))).mono ?_
      rintro e w5 ⟨he, hb⟩
      rw [HO.out.2.2.2] at he
      subst he
      have c := (box_later hb (by simp)).1
      have HB5 := Lib.hid (chain_alloc HB4.out hb)
      clear t0 t1 t2 t3
      have HC := Lib.hid c
      clear c hb
      go_wp2_with fail
      obtain ⟨W6, hW6⟩ : ∃ W6, W6 = w5.alloc (.cells #[.int .i64 kr, .int .i64 r, .int .i64 0, .slice none 0 0] 24) := ⟨_, rfl⟩
      rw [← hW6]
      have hb6 : Below W0.heap.size W0 W6 := by rw [hW6]; exact alloc_below HB5.out
      have lt0 := later_cell (cell_on (F.out.1 0 _ rfl) hb6)
      have lt1 := later_cell (cell_on (F.out.1 1 _ rfl) hb6)
      have lt2 := later_cell (cell_on (F.out.1 2 _ rfl) hb6)
      have lt3 := later_cell (cell_on (F.out.1 3 _ rfl) hb6)
      have ls0 := later_cell (cell_on (F.out.2.1 0 _ rfl) hb6)
      have ls1 := later_cell (cell_on (F.out.2.1 1 _ rfl) hb6)
      have ls2 := later_cell (cell_on (F.out.2.1 2 _ rfl) hb6)
      have ls3 := later_cell (cell_on (F.out.2.1 3 _ rfl) hb6)
      have lc0 := later_cell (show W6.cell? ⟨w4.heap.size, 0, none⟩ = some (.int .i64 kr) by rw [hW6]; exact alloc_on (HC.out 0 _ rfl) _)
      have lc1 := later_cell (show W6.cell? ⟨w4.heap.size, 1, none⟩ = some (.int .i64 r) by rw [hW6]; exact alloc_on (HC.out 1 _ rfl) _)
      have lc2 := later_cell (show W6.cell? ⟨w4.heap.size, 2, none⟩ = some (.int .i64 0) by rw [hW6]; exact alloc_on (HC.out 2 _ rfl) _)
      have lc3 := later_cell (show W6.cell? ⟨w4.heap.size, 3, none⟩ = some (.slice none 0 0) by rw [hW6]; exact alloc_on (HC.out 3 _ rfl) _)
      have le0 := later_cell (show W6.cell? ⟨w5.heap.size, 0, none⟩ = some (.int .i64 kr) by rw [hW6, World.cell?_alloc_new]; rfl)
      have le1 := later_cell (show W6.cell? ⟨w5.heap.size, 1, none⟩ = some (.int .i64 r) by rw [hW6, World.cell?_alloc_new]; rfl)
      have le2 := later_cell (show W6.cell? ⟨w5.heap.size, 2, none⟩ = some (.int .i64 0) by rw [hW6, World.cell?_alloc_new]; rfl)
      have le3 := later_cell (show W6.cell? ⟨w5.heap.size, 3, none⟩ = some (.slice none 0 0) by rw [hW6, World.cell?_alloc_new]; rfl)
      have VA := Lib.hid (AG.out.2.below (F.out.2.2.1.trans (hb6.mono F.out.2.2.1.size)))
      have UA := Lib.hid (F.out.2.2.2.2.1.below hb6)
      have GA := Lib.hid (F.out.2.2.2.2.2.below hb6)
      have PA := Lib.hid (AG.out.1.trans HP.out.1)
      have HB6 := Lib.hid (F.out.2.2.1.trans (hb6.mono F.out.2.2.1.size))
      clear hW6 hb6 HC HB5 HB4 HB3 HB2 HB1 F0 F AG HS
      refine wp_region_later (by kernel_rfl) (by kernel_rfl) ?_
      repeat (go_big_quiet_step (first
        | with_reducible refine calls_later (right_to (VA.out.later _) PA.out)
        | with_reducible refine calls_later (refRight_to (VA.out.later _) HP.out.1)
        | with_reducible refine calls_later (same_to (VA.out.later _) (UA.out.later _) HP.out.2.1)
        | with_reducible refine calls_later (refSame_to (VA.out.later _) (UA.out.later _) HP.out.2.1)
        | with_reducible refine calls_later (show_to (VA.out.later _) (GA.out.below (Later.below _)) HP.out.2.2.1)
        | with_reducible refine calls_later (refShow_to (VA.out.later _) HP.out.2.2.1)
        | with_reducible refine calls_later (refSame_to (flat_at _ HO.out.2.1 HO.out.2.2.1) (flat_at _ HO.out.2.1 HO.out.2.2.1) (sameB_flat kr r))
        | with_reducible refine calls_later_same (round_to HP.out.2.2.2.1)
        | with_reducible refine calls_later_same (refRound_to HP.out.2.2.2.1)
        | with_reducible refine calls_later (int_to HP.out.2.2.2.1)
        | with_reducible refine calls_later (refInt_to HP.out.2.2.2.1)
        | with_reducible refine calls_later (refSame_to (flat_at _ (by unfold I64; omega) HP.out.2.2.2.2) (flat_at _ (by unfold I64; omega) HP.out.2.2.2.2) (sameB_flat 1 rn))))
      refine wpQuiet_nil ?_
      rintro _ ⟨t, rfl⟩
      have HT := Lib.hid t.below
      clear lt0 lt1 lt2 lt3 ls0 ls1 ls2 ls3 lc0 lc1 lc2 lc3 le0 le1 le2 le3
      go_wp2_with fail
      go_ret
      exact ⟨rfl, HB6.out.trans (HT.out.mono HB6.out.size)⟩
end Go.Proofs.YtnjgcjgfnjcgdaaDoor
