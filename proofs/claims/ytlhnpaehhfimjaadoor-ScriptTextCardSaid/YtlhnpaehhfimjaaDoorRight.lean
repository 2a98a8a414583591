/-
  The walks of script.Right and hallmootref27.Right: both return rightB.
-/
import Derived.Test.YtlhnpaehhfimjaaDoorBase
namespace Go.Proofs.YtlhnpaehhfimjaaDoor
open Go.RowKit
theorem within_is {most : Int} {x : Value} {l : List Int} {b : Bool} {w : World} (h : CAt w x l) (hb : withinB most l = b) : Calls Tryd.prog 24 #[.int .i64 most, x] w fun e w' => e = .returned (.bool b) ∧ w = w' := by
  subst hb; exact within_any most x l w h
theorem cat_one {w : World} {n : Int} {t : TypeId} {N : Nat} (hN : w.heap.size = N) (hn : I64 n) : CAt (w.alloc (.cells #[.int .i64 n] t)) (.slice (some ⟨N, 0, none⟩) 1 1) [n] := by
  subst hN
  exact ⟨some ⟨w.heap.size, 0, none⟩, 1, rfl, by simp [big], by simpa using hn, fun i m hi => by
    cases i with
    | zero => simp at hi; subst hi; exact ⟨w.heap.size, 0, rfl, by simp⟩
    | succ i => simp at hi⟩
theorem len_beq (c : List Int) : ((c.length : Int) == 0) = c.isEmpty := by
  cases c with
  | nil => rfl
  | cons x c => simp; omega
theorem within_zero (b : Int) : withinB 0 [b] = decide (b = 0) := by
  simp only [withinB, List.all_cons, List.all_nil, Bool.and_true]
  by_cases e : b = 0
  · subst e; rfl
  · by_cases e2 : 0 ≤ b
    · simp [e, show ¬ b ≤ 0 by omega]
    · simp [e, e2]
theorem within_step (b : Int) : withinB 1048576 [b] = (decide (0 ≤ b) && decide (b ≤ 1048576)) := by
  simp only [withinB, List.all_cons, List.all_nil, Bool.and_true]
set_option maxRecDepth 20000 in
set_option maxHeartbeats 3200000 in
theorem right_any (threads : Int) (x : Value) (p : Pick) (w : World) (h : PAt w x p) :
    Calls Tryd.prog 12 #[.int .i64 threads, x] w fun e w' => e = .returned (.bool (rightB threads p)) ∧ Below w.heap.size w w' := by
  obtain ⟨k, pa, pb, c⟩ := p
  obtain ⟨a, cap, rfl, hk, ha, hb, hl, hall, hat⟩ := h
  have HC := Lib.hid (show CAt w (.slice a c.length cap) c from ⟨a, cap, rfl, hl, hall, hat⟩)
  have HI := Lib.hid (And.intro hk (And.intro ha hb))
  clear hk ha hb hall hat
  unfold big at hl
  by_cases h1 : k = 1
  · subst h1
    have hr : rightB threads ⟨1, pa, pb, c⟩ = (decide (0 ≤ pa) && decide (pa < threads) && (decide (pb = 0)) && c.isEmpty) := rfl
    have HR := Lib.hid hr
    clear hr
    by_cases h2 : 0 ≤ pa
    · by_cases h3 : pa < threads
      · cases hw : (decide (pb = 0)) with
        | false =>
          have HW := Lib.hid ((within_zero pb).trans hw)
          have HB := Lib.hid hw
          clear hw
          go_enter Tryd.func12, Tryd.ntmps12
          go_wp2_with fail
          refine (within_is (cat_one (World.size_alloc _ _) HI.out.2.2) HW.out).mono ?_
          rintro e w1 ⟨rfl, rfl⟩
          go_wp2_with fail
          go_ret
          exact ⟨ret_bool (by rw [HR.out, HB.out]; simp), alloc_below (below_alloc _ _)⟩
        | true =>
          have HW := Lib.hid ((within_zero pb).trans hw)
          have HB := Lib.hid hw
          clear hw
          go_enter Tryd.func12, Tryd.ntmps12
          go_wp2_with fail
          refine (within_is (cat_one (World.size_alloc _ _) HI.out.2.2) HW.out).mono ?_
          rintro e w1 ⟨rfl, rfl⟩
          go_wp2_with fail
          go_ret
          exact ⟨ret_bool (by rw [HR.out, HB.out, len_beq]; simp [h2, h3]), alloc_below (below_alloc _ _)⟩
      · have h3' : decide (pa < threads) = false := decide_eq_false h3
        go_enter Tryd.func12, Tryd.ntmps12
        go_wp2_with fail
        go_ret
        exact ⟨ret_bool (by rw [HR.out, h3']; simp), below_alloc _ _⟩
    · have h2' : decide (0 ≤ pa) = false := decide_eq_false h2
      go_enter Tryd.func12, Tryd.ntmps12
      go_wp2_with fail
      go_ret
      exact ⟨ret_bool (by rw [HR.out, h2']; simp), below_alloc _ _⟩
  have h1i : (k == 1) = false := beq_eq_false_iff_ne.2 h1
  by_cases h5 : k = 2
  · subst h5
    have hr : rightB threads ⟨2, pa, pb, c⟩ = (decide (0 ≤ pa) && decide (pa < threads) && (decide (0 ≤ pb) && decide (pb ≤ 1048576)) && c.isEmpty) := rfl
    have HR := Lib.hid hr
    clear hr
    by_cases h2 : 0 ≤ pa
    · by_cases h3 : pa < threads
      · cases hw : (decide (0 ≤ pb) && decide (pb ≤ 1048576)) with
        | false =>
          have HW := Lib.hid ((within_step pb).trans hw)
          have HB := Lib.hid hw
          clear hw
          go_enter Tryd.func12, Tryd.ntmps12
          go_wp2_with fail
          refine (within_is (cat_one (World.size_alloc _ _) HI.out.2.2) HW.out).mono ?_
          rintro e w1 ⟨rfl, rfl⟩
          go_wp2_with fail
          go_ret
          exact ⟨ret_bool (by rw [HR.out, HB.out]; simp), alloc_below (below_alloc _ _)⟩
        | true =>
          have HW := Lib.hid ((within_step pb).trans hw)
          have HB := Lib.hid hw
          clear hw
          go_enter Tryd.func12, Tryd.ntmps12
          go_wp2_with fail
          refine (within_is (cat_one (World.size_alloc _ _) HI.out.2.2) HW.out).mono ?_
          rintro e w1 ⟨rfl, rfl⟩
          go_wp2_with fail
          go_ret
          exact ⟨ret_bool (by rw [HR.out, HB.out, len_beq]; simp [h2, h3]), alloc_below (below_alloc _ _)⟩
      · have h3' : decide (pa < threads) = false := decide_eq_false h3
        go_enter Tryd.func12, Tryd.ntmps12
        go_wp2_with fail
        go_ret
        exact ⟨ret_bool (by rw [HR.out, h3']; simp), below_alloc _ _⟩
    · have h2' : decide (0 ≤ pa) = false := decide_eq_false h2
      go_enter Tryd.func12, Tryd.ntmps12
      go_wp2_with fail
      go_ret
      exact ⟨ret_bool (by rw [HR.out, h2']; simp), below_alloc _ _⟩
  have h5i : (k == 2) = false := beq_eq_false_iff_ne.2 h5
  by_cases h6 : k = 3
  · subst h6
    have hr : rightB threads ⟨3, pa, pb, c⟩ = (decide (pa = 0) && decide (pb = 0) && decide (c.length ≤ 64) && withinB 32 c) := rfl
    have HR := Lib.hid hr
    clear hr
    by_cases h2 : pa = 0
    · have h2i : (pa == 0) = true := beq_iff_eq.2 h2
      by_cases h3 : pb = 0
      · have h3i : (pb == 0) = true := beq_iff_eq.2 h3
        have HE := Lib.hid (And.intro h2 h3)
        clear h2 h3
        by_cases h4 : c.length ≤ 64
        · have h4i : (c.length : Int) ≤ 64 := by omega
          obtain ⟨b, hw⟩ : ∃ b, withinB 32 c = b := ⟨_, rfl⟩
          have HW := Lib.hid hw
          clear hw
          go_enter Tryd.func12, Tryd.ntmps12
          go_wp2_with fail
          refine (within_is (HC.out.below (below_alloc _ _)) HW.out).mono ?_
          rintro e w1 ⟨rfl, rfl⟩
          go_wp2_with fail
          go_ret
          exact ⟨ret_bool (by rw [HR.out, HW.out, HE.out.1, HE.out.2]; simp [h4]), below_alloc _ _⟩
        · have h4i : decide ((c.length : Int) ≤ 64) = false := decide_eq_false (by omega)
          have h4' : decide (c.length ≤ 64) = false := decide_eq_false h4
          go_enter Tryd.func12, Tryd.ntmps12
          go_wp2_with fail
          go_ret
          exact ⟨ret_bool (by rw [HR.out, h4']; simp), below_alloc _ _⟩
      · have h3i : (pb == 0) = false := beq_eq_false_iff_ne.2 h3
        have h3' := Lib.hid (decide_eq_false h3)
        clear h2
        go_enter Tryd.func12, Tryd.ntmps12
        go_wp2_with fail
        go_ret
        exact ⟨ret_bool (by rw [HR.out, h3'.out]; simp), below_alloc _ _⟩
    · have h2i : (pa == 0) = false := beq_eq_false_iff_ne.2 h2
      have h2' := Lib.hid (decide_eq_false h2)
      go_enter Tryd.func12, Tryd.ntmps12
      go_wp2_with fail
      go_ret
      exact ⟨ret_bool (by rw [HR.out, h2'.out]; simp), below_alloc _ _⟩
  · have h6i : (k == 3) = false := beq_eq_false_iff_ne.2 h6
    have hr : rightB threads ⟨k, pa, pb, c⟩ = false := by simp [rightB, h1, h5, h6]
    have HR := Lib.hid hr
    clear hr
    go_enter Tryd.func12, Tryd.ntmps12
    go_wp2_with fail
    go_ret
    exact ⟨ret_bool HR.out.symm, below_alloc _ _⟩

set_option maxRecDepth 20000 in
set_option maxHeartbeats 3200000 in
theorem refRight_any (threads : Int) (x : Value) (p : Pick) (w : World) (h : PAt w x p) :
    Calls Tryd.prog 13 #[.int .i64 threads, x] w fun e w' => e = .returned (.bool (rightB threads p)) ∧ Below w.heap.size w w' := by
  obtain ⟨k, pa, pb, c⟩ := p
  obtain ⟨a, cap, rfl, hk, ha, hb, hl, hall, hat⟩ := h
  have HI := Lib.hid (And.intro hk (And.intro ha hb))
  have HALL := Lib.hid hall
  clear hk ha hb hall
  unfold big at hl
  by_cases h1 : k = 1
  · subst h1
    have hr : rightB threads ⟨1, pa, pb, c⟩ = (decide (0 ≤ pa) && decide (pa < threads) && (decide (pb = 0)) && c.isEmpty) := rfl
    have HR := Lib.hid hr
    clear hr
    by_cases h2 : 0 ≤ pa
    · by_cases h3 : pa < threads
      · by_cases h4 : pb = 0
        · have h4i : (pb == 0) = true := beq_iff_eq.2 h4
          have HE := Lib.hid h4
          clear h4
          go_enter Tryd.func13, Tryd.ntmps13
          go_wp2_with fail
          go_ret
          exact ⟨ret_bool (by rw [HR.out, HE.out, len_beq]; simp [h2, h3]), below_alloc _ _⟩
        · have h4i : (pb == 0) = false := beq_eq_false_iff_ne.2 h4
          have h4' := Lib.hid (decide_eq_false h4)
          go_enter Tryd.func13, Tryd.ntmps13
          go_wp2_with fail
          go_ret
          exact ⟨ret_bool (by rw [HR.out, h4'.out]; simp), below_alloc _ _⟩
      · have h3' : decide (pa < threads) = false := decide_eq_false h3
        go_enter Tryd.func13, Tryd.ntmps13
        go_wp2_with fail
        go_ret
        exact ⟨ret_bool (by rw [HR.out, h3']; simp), below_alloc _ _⟩
    · have h2' : decide (0 ≤ pa) = false := decide_eq_false h2
      go_enter Tryd.func13, Tryd.ntmps13
      go_wp2_with fail
      go_ret
      exact ⟨ret_bool (by rw [HR.out, h2']; simp), below_alloc _ _⟩
  have h1i : (k == 1) = false := beq_eq_false_iff_ne.2 h1
  by_cases h5 : k = 2
  · subst h5
    have hr : rightB threads ⟨2, pa, pb, c⟩ = (decide (0 ≤ pa) && decide (pa < threads) && (decide (0 ≤ pb) && decide (pb ≤ 1048576)) && c.isEmpty) := rfl
    have HR := Lib.hid hr
    clear hr
    by_cases h2 : 0 ≤ pa
    · by_cases h3 : pa < threads
      · by_cases h4 : 0 ≤ pb
        · by_cases h7 : pb ≤ 1048576
          · go_enter Tryd.func13, Tryd.ntmps13
            go_wp2_with fail
            go_ret
            exact ⟨ret_bool (by rw [HR.out, len_beq]; simp [h2, h3, h4, h7]), below_alloc _ _⟩
          · have h7i : decide (pb ≤ 1048576) = false := decide_eq_false h7
            go_enter Tryd.func13, Tryd.ntmps13
            go_wp2_with fail
            go_ret
            exact ⟨ret_bool (by rw [HR.out, h7i]; simp), below_alloc _ _⟩
        · have h4i : decide (0 ≤ pb) = false := decide_eq_false h4
          go_enter Tryd.func13, Tryd.ntmps13
          go_wp2_with fail
          go_ret
          exact ⟨ret_bool (by rw [HR.out, h4i]; simp), below_alloc _ _⟩
      · have h3' : decide (pa < threads) = false := decide_eq_false h3
        go_enter Tryd.func13, Tryd.ntmps13
        go_wp2_with fail
        go_ret
        exact ⟨ret_bool (by rw [HR.out, h3']; simp), below_alloc _ _⟩
    · have h2' : decide (0 ≤ pa) = false := decide_eq_false h2
      go_enter Tryd.func13, Tryd.ntmps13
      go_wp2_with fail
      go_ret
      exact ⟨ret_bool (by rw [HR.out, h2']; simp), below_alloc _ _⟩
  have h5i : (k == 2) = false := beq_eq_false_iff_ne.2 h5
  by_cases h6 : k = 3
  · subst h6
    have hr : rightB threads ⟨3, pa, pb, c⟩ = (decide (pa = 0) && decide (pb = 0) && decide (c.length ≤ 64) && withinB 32 c) := rfl
    have HR := Lib.hid hr
    clear hr
    go_enter Tryd.func13, Tryd.ntmps13
    go_wp2_with fail
    have hs1 : ∀ o, ((w.alloc o).cell? ⟨w.heap.size, 3, none⟩ = (w.alloc o).cell? ⟨w.heap.size, 3, none⟩) := fun _ => rfl
    clear hs1
    obtain ⟨W0, hW0⟩ : ∃ W0, W0 = w.alloc (.cells #[.int .i64 3, .int .i64 pa, .int .i64 pb, .slice a c.length cap] 25) := ⟨_, rfl⟩
    have k3 : W0.cell? ⟨w.heap.size, 3, none⟩ = some (.slice a c.length cap) := by rw [hW0]; simp
    have k1 : W0.cell? ⟨w.heap.size, 1, none⟩ = some (.int .i64 pa) := by rw [hW0]; simp
    have k2 : W0.cell? ⟨w.heap.size, 2, none⟩ = some (.int .i64 pb) := by rw [hW0]; simp
    have HB := Lib.hid (show Below w.heap.size w W0 by rw [hW0]; exact below_alloc _ _)
    have HAT := Lib.hid (hat.below HB.out)
    rw [← hW0]
    clear hW0 hat
    go_loop [5] (fun i => ∃ j : Nat, j ≤ c.length ∧ i = .int .i64 j ∧ withinB 32 (c.drop j) = withinB 32 c) (fun i => c.length - (intOf i).toNat)
    case atStart => exact ⟨0, Nat.zero_le _, rfl, by simp⟩
    case round =>
      obtain ⟨j, hj, rfl, hw⟩ := hrel
      have HW := Lib.hid hw
      clear hw
      by_cases hlt : j < c.length
      · obtain ⟨n, hn⟩ := get_of_lt hlt
        obtain ⟨b, off, rfl, hc⟩ := HAT.out j n hn
        have hi : I64 n := HALL.out n (mem_of_get hn)
        unfold I64 at hi
        have HN := Lib.hid hn
        clear hn
        by_cases h0 : n < 0
        · go_wp2_with fail
          go_ret
          exact ⟨ret_bool (by rw [HR.out, ← HW.out, drop_of_get HN.out]; simp [withinB, show ¬ 0 ≤ n by omega]), HB.out⟩
        · have h0' : decide (n < 0) = false := decide_eq_false h0
          by_cases h1 : 32 < n
          · go_wp2_with fail
            go_ret
            exact ⟨ret_bool (by rw [HR.out, ← HW.out, drop_of_get HN.out]; simp [withinB, show ¬ n ≤ 32 by omega]), HB.out⟩
          · have h1' : decide (32 < n) = false := decide_eq_false h1
            go_wp2_with fail
            go_round
            case rel => exact ⟨j + 1, by omega, by go_num, by rw [← HW.out, drop_of_get HN.out]; simp [withinB, show 0 ≤ n by omega, show n ≤ 32 by omega]⟩
            case measure => simp [intOf]; omega
      · have : j = c.length := by omega
        subst this
        have hw1 : withinB 32 c = true := by rw [← HW.out]; simp [withinB]
        have HW1 := Lib.hid hw1
        clear hw1 HW
        by_cases h2 : pa = 0
        · have h2i : (pa == 0) = true := beq_iff_eq.2 h2
          by_cases h3 : pb = 0
          · have h3i : (pb == 0) = true := beq_iff_eq.2 h3
            have HE := Lib.hid (And.intro h2 h3)
            clear h2 h3
            go_wp2_with fail
            go_ret
            exact ⟨ret_bool (by rw [HR.out, HW1.out, HE.out.1, HE.out.2]; simp; omega), HB.out⟩
          · have h3i : (pb == 0) = false := beq_eq_false_iff_ne.2 h3
            have h3' := Lib.hid (decide_eq_false h3)
            clear h2
            go_wp2_with fail
            go_ret
            exact ⟨ret_bool (by rw [HR.out, h3'.out]; simp), HB.out⟩
        · have h2i : (pa == 0) = false := beq_eq_false_iff_ne.2 h2
          have h2' := Lib.hid (decide_eq_false h2)
          go_wp2_with fail
          go_ret
          exact ⟨ret_bool (by rw [HR.out, h2'.out]; simp), HB.out⟩
  · have h6i : (k == 3) = false := beq_eq_false_iff_ne.2 h6
    have hr : rightB threads ⟨k, pa, pb, c⟩ = false := by simp [rightB, h1, h5, h6]
    have HR := Lib.hid hr
    clear hr
    go_enter Tryd.func13, Tryd.ntmps13
    go_wp2_with fail
    go_ret
    exact ⟨ret_bool HR.out.symm, below_alloc _ _⟩
end Go.Proofs.YtlhnpaehhfimjaaDoor
