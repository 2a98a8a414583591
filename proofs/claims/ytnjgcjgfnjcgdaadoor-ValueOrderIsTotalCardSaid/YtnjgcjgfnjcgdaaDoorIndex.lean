/-
  The walks of Index, of the program and of the reference.
-/
import Derived.Test.YtnjgcjgfnjcgdaaDoorArith
import Derived.Test.YtnjgcjgfnjcgdaaDoorCells
namespace Go.Proofs.YtnjgcjgfnjcgdaaDoor
open Go.RowKit

/-- What Index returns, 'ok' being the validity of the array. -/
def idxB (ok : Bool) (k m i : Int) : Bool := decide (k = 5) && ok && decide (0 ≤ i) && decide (i < m)
def idxV (ok : Bool) (k n m i : Int) : Value := if idxB ok k m i then flat 4 (n + i) else flat 0 0
def idxEnd (ok : Bool) (k n m i : Int) : Ending := .returned (.tuple #[idxV ok k n m i, .bool (idxB ok k m i)])
theorem idx_no {ok : Bool} {k n m i : Int} (h : idxB ok k m i = false) : Ending.returned (.tuple #[.agg #[.int .i64 0, .int .i64 0, .int .i64 0, .slice none 0 0], .bool false]) = idxEnd ok k n m i := by
  unfold idxEnd idxV; rw [h]; rfl
theorem idx_yes {ok : Bool} {k n m i : Int} (h : idxB ok k m i = true) : Ending.returned (.tuple #[.agg #[.int .i64 4, .int .i64 (n + i), .int .i64 0, .slice none 0 0], .bool true]) = idxEnd ok k n m i := by
  unfold idxEnd idxV; rw [h]; rfl
theorem valid_arr {l : Nat} {n m : Int} {of : List V} (h : validP l (.mk 5 n m of) = true) : 0 ≤ n ∧ 1 ≤ m ∧ m ≤ 32 ∧ n + m ≤ 32 := by
  cases l with
  | zero => simp [validP] at h
  | succ l =>
    simp only [validP, okB, Bool.and_eq_true] at h
    have := numB_iff.1 h.1.2
    unfold numP at this
    omega
theorem within_arr {l : Nat} {n m : Int} {of : List V} (h : withinB l (.mk 5 n m of) = true) : 0 ≤ n ∧ 1 ≤ m ∧ m ≤ 32 ∧ n + m ≤ 32 := by
  cases l with
  | zero => simp [withinB] at h
  | succ l =>
    simp only [withinB, Bool.and_eq_true] at h
    have := ownB_iff.1 h.1
    unfold ownP at this
    omega

set_option maxHeartbeats 800000 in
theorem index_any (d : Nat) (x : Value) (k n m : Int) (of : List V) (i : Int) (w : World) (hv : VAt w d x (.mk k n m of)) :
    Calls Tryd.prog 12 #[x, .int .i64 i] w fun e w' => e = idxEnd (validP 40 (.mk k n m of)) k n m i ∧ Below w.heap.size w w' := by
  obtain ⟨d, a, cap, rfl, rfl, hk, hn, hm, hl2, he⟩ := hv.op
  clear he hk hn hm
  have hbb : Below w.heap.size w ((w.alloc (.cells #[.int .i64 k, .int .i64 n, .int .i64 m, .slice a of.length cap] 24)).alloc (.cells #[.int .i64 0, .int .i64 0, .int .i64 0, .slice none 0 0] 24)) :=
    ((Below.refl _ _).alloc (Nat.le_refl _) _).alloc (by simp) _
  have HBB := Lib.hid hbb; clear hbb
  by_cases h5 : k = 5
  case neg =>
    have hb : (k != 5) = true := by simpa using h5
    go_enter Tryd.func12, Tryd.ntmps12
    go_wp2_with fail
    refine bodyPost_ret (v := .tuple #[.agg #[.int .i64 0, .int .i64 0, .int .i64 0, .slice none 0 0], .bool false]) (by simp [results, Tryd.results12, go_sem]) rfl ⟨idx_no (by simp [idxB, h5]), HBB.out⟩
  subst h5
  cases hval : validP 40 (.mk 5 n m of)
  case false =>
    have HV := Lib.hid hval; clear hval
    go_enter Tryd.func12, Tryd.ntmps12
    go_wp2_with fail
    refine (right_any _ _ _ _ (hv.below HBB.out)).mono ?_
    rintro e w1 ⟨rfl, hb⟩
    have hsz := hb.size
    simp only [World.size_alloc] at hsz
    obtain ⟨c0, f0⟩ := box_later hb (by simp)
    simp only [World.size_alloc] at c0 f0
    have d0 := c0 0 _ rfl
    have d1 := c0 1 _ rfl
    have d2 := c0 2 _ rfl
    have d3 := c0 3 _ rfl
    clear c0
    have HB := Lib.hid (HBB.out.trans (hb.mono (by simp; omega))); clear hb
    rw [HV.out]
    go_wp2_with fail
    refine bodyPost_ret (v := .tuple #[.agg #[.int .i64 0, .int .i64 0, .int .i64 0, .slice none 0 0], .bool false]) (by simp [results, Tryd.results12, go_sem, cell_set_has, d0, d1, d2, d3]) rfl ⟨idx_no (by simp [idxB]), ?_⟩
    exact (((HB.out.setCell (by simp) _).setCell (by simp) _).setCell (by simp) _).setCell (by simp) _
  case true =>
    obtain ⟨n0, m0, m1, nm⟩ := valid_arr hval
    have HV := Lib.hid hval; clear hval
    by_cases hi0 : i < 0
    · go_enter Tryd.func12, Tryd.ntmps12
      go_wp2_with fail
      refine (right_any _ _ _ _ (hv.below HBB.out)).mono ?_
      rintro e w1 ⟨rfl, hb⟩
      have hsz := hb.size
      simp only [World.size_alloc] at hsz
      obtain ⟨c0, f0⟩ := box_later hb (by simp)
      simp only [World.size_alloc] at c0 f0
      have d0 := c0 0 _ rfl
      have d1 := c0 1 _ rfl
      have d2 := c0 2 _ rfl
      have d3 := c0 3 _ rfl
      clear c0
      have HB := Lib.hid (HBB.out.trans (hb.mono (by simp; omega))); clear hb
      rw [HV.out]
      go_wp2_with fail
      refine bodyPost_ret (v := .tuple #[.agg #[.int .i64 0, .int .i64 0, .int .i64 0, .slice none 0 0], .bool false]) (by simp [results, Tryd.results12, go_sem, cell_set_has, d0, d1, d2, d3]) rfl ⟨idx_no (by simp [idxB]; omega), ?_⟩
      exact (((HB.out.setCell (by simp) _).setCell (by simp) _).setCell (by simp) _).setCell (by simp) _
    by_cases him : m ≤ i
    · go_enter Tryd.func12, Tryd.ntmps12
      go_wp2_with fail
      refine (right_any _ _ _ _ (hv.below HBB.out)).mono ?_
      rintro e w1 ⟨rfl, hb⟩
      have hsz := hb.size
      simp only [World.size_alloc] at hsz
      obtain ⟨c0, f0⟩ := box_later hb (by simp)
      simp only [World.size_alloc] at c0 f0
      have d0 := c0 0 _ rfl
      have d1 := c0 1 _ rfl
      have d2 := c0 2 _ rfl
      have d3 := c0 3 _ rfl
      clear c0
      have e2 : w1.cell? ⟨w.heap.size, 2, none⟩ = some (.int .i64 m) := by
        rw [hb.cell (by simp; omega), World.cell?_alloc_lt _ _ _ (by simp)]; simp
      have HB := Lib.hid (HBB.out.trans (hb.mono (by simp; omega))); clear hb
      rw [HV.out]
      go_wp2_with fail
      refine bodyPost_ret (v := .tuple #[.agg #[.int .i64 0, .int .i64 0, .int .i64 0, .slice none 0 0], .bool false]) (by simp [results, Tryd.results12, go_sem, cell_set_has, d0, d1, d2, d3]) rfl ⟨idx_no (by simp [idxB]; omega), ?_⟩
      exact (((HB.out.setCell (by simp) _).setCell (by simp) _).setCell (by simp) _).setCell (by simp) _
    go_enter Tryd.func12, Tryd.ntmps12
    go_wp2_with fail
    refine (right_any _ _ _ _ (hv.below HBB.out)).mono ?_
    rintro e w1 ⟨rfl, hb⟩
    have hsz := hb.size
    simp only [World.size_alloc] at hsz
    obtain ⟨c0, f0⟩ := box_later hb (by simp)
    simp only [World.size_alloc] at c0 f0
    have d0 := c0 0 _ rfl
    have d1 := c0 1 _ rfl
    have d2 := c0 2 _ rfl
    have d3 := c0 3 _ rfl
    clear c0
    have e2 : w1.cell? ⟨w.heap.size, 2, none⟩ = some (.int .i64 m) := by
      rw [hb.cell (by simp; omega), World.cell?_alloc_lt _ _ _ (by simp)]; simp
    have e1 : w1.cell? ⟨w.heap.size, 1, none⟩ = some (.int .i64 n) := by
      rw [hb.cell (by simp; omega), World.cell?_alloc_lt _ _ _ (by simp)]; simp
    have HB := Lib.hid (HBB.out.trans (hb.mono (by simp; omega))); clear hb
    rw [HV.out]
    go_wp2_with fail
    refine bodyPost_ret (v := .tuple #[.agg #[.int .i64 4, .int .i64 (n + i), .int .i64 0, .slice none 0 0], .bool true]) (by simp [results, Tryd.results12, go_sem, cell_set_has, d0, d1, d2, d3]) rfl ⟨idx_yes (by simp [idxB]; omega), ?_⟩
    exact (((HB.out.setCell (by simp) _).setCell (by simp) _).setCell (by simp) _).setCell (by simp) _

set_option maxHeartbeats 800000 in
theorem refIndex_any (d : Nat) (x : Value) (k n m : Int) (of : List V) (i : Int) (w : World) (hv : VAt w d x (.mk k n m of)) :
    Calls Tryd.prog 13 #[x, .int .i64 i] w fun e w' => e = idxEnd (withinB 40 (.mk k n m of)) k n m i ∧ Below w.heap.size w w' := by
  obtain ⟨d, a, cap, rfl, rfl, hk, hn, hm, hl2, he⟩ := hv.op
  clear he hk hn hm
  have hbb : Below w.heap.size w ((w.alloc (.cells #[.int .i64 k, .int .i64 n, .int .i64 m, .slice a of.length cap] 24)).alloc (.cells #[.int .i64 0, .int .i64 0, .int .i64 0, .slice none 0 0] 24)) :=
    ((Below.refl _ _).alloc (Nat.le_refl _) _).alloc (by simp) _
  have HBB := Lib.hid hbb; clear hbb
  go_enter Tryd.func13, Tryd.ntmps13
  go_wp2_with fail
  refine (refRight_any _ _ _ _ (hv.below HBB.out)).mono ?_
  rintro e w1 ⟨rfl, hb⟩
  have hsz := hb.size
  simp only [World.size_alloc] at hsz
  obtain ⟨c0, f0⟩ := box_later hb (by simp)
  simp only [World.size_alloc] at c0 f0
  have d0 := c0 0 _ rfl
  have d1 := c0 1 _ rfl
  have d2 := c0 2 _ rfl
  have d3 := c0 3 _ rfl
  clear c0
  have e2 : w1.cell? ⟨w.heap.size, 2, none⟩ = some (.int .i64 m) := by
    rw [hb.cell (by simp; omega), World.cell?_alloc_lt _ _ _ (by simp)]; simp
  have e1 : w1.cell? ⟨w.heap.size, 1, none⟩ = some (.int .i64 n) := by
    rw [hb.cell (by simp; omega), World.cell?_alloc_lt _ _ _ (by simp)]; simp
  have e0 : w1.cell? ⟨w.heap.size, 0, none⟩ = some (.int .i64 k) := by
    rw [hb.cell (by simp; omega), World.cell?_alloc_lt _ _ _ (by simp)]; simp
  have HB := Lib.hid (HBB.out.trans (hb.mono (by simp; omega))); clear hb
  by_cases h5 : k = 5
  case neg =>
    have hb : (k != 5) = true := by simpa using h5
    go_wp2_with fail
    refine bodyPost_ret (v := .tuple #[.agg #[.int .i64 0, .int .i64 0, .int .i64 0, .slice none 0 0], .bool false]) (by simp [results, Tryd.results13, go_sem, cell_set_has, d0, d1, d2, d3]) rfl ⟨idx_no (by simp [idxB, h5]), ?_⟩
    exact (((HB.out.setCell (by simp) _).setCell (by simp) _).setCell (by simp) _).setCell (by simp) _
  subst h5
  cases hval : withinB 40 (.mk 5 n m of)
  case false =>
    have HV := Lib.hid hval
    go_wp2_with fail
    refine bodyPost_ret (v := .tuple #[.agg #[.int .i64 0, .int .i64 0, .int .i64 0, .slice none 0 0], .bool false]) (by simp [results, Tryd.results13, go_sem, cell_set_has, d0, d1, d2, d3]) rfl ⟨idx_no (by simp [idxB, HV.out]), ?_⟩
    exact (((HB.out.setCell (by simp) _).setCell (by simp) _).setCell (by simp) _).setCell (by simp) _
  case true =>
    obtain ⟨n0, m0, m1, nm⟩ := within_arr hval
    have HV := Lib.hid hval
    by_cases hi0 : i < 0
    · go_wp2_with fail
      refine bodyPost_ret (v := .tuple #[.agg #[.int .i64 0, .int .i64 0, .int .i64 0, .slice none 0 0], .bool false]) (by simp [results, Tryd.results13, go_sem, cell_set_has, d0, d1, d2, d3]) rfl ⟨idx_no (by simp [idxB]; omega), ?_⟩
      exact (((HB.out.setCell (by simp) _).setCell (by simp) _).setCell (by simp) _).setCell (by simp) _
    have hi1 : decide (i < 0) = false := decide_eq_false hi0
    by_cases him : m ≤ i
    · go_wp2_with fail
      refine bodyPost_ret (v := .tuple #[.agg #[.int .i64 0, .int .i64 0, .int .i64 0, .slice none 0 0], .bool false]) (by simp [results, Tryd.results13, go_sem, cell_set_has, d0, d1, d2, d3]) rfl ⟨idx_no (by simp [idxB]; omega), ?_⟩
      exact (((HB.out.setCell (by simp) _).setCell (by simp) _).setCell (by simp) _).setCell (by simp) _
    have him1 : decide (m ≤ i) = false := decide_eq_false him
    go_wp2_with fail
    refine bodyPost_ret (v := .tuple #[.agg #[.int .i64 4, .int .i64 (n + i), .int .i64 0, .slice none 0 0], .bool true]) (by simp [results, Tryd.results13, go_sem, cell_set_has, d0, d1, d2, d3]) rfl ⟨idx_yes (by simp [idxB, HV.out]; omega), ?_⟩
    exact (((HB.out.setCell (by simp) _).setCell (by simp) _).setCell (by simp) _).setCell (by simp) _
end Go.Proofs.YtnjgcjgfnjcgdaaDoor
