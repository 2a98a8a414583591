/-
  The walks of the table's functions and of value.Bin.
-/
import Derived.Test.YtnjgcjgfnjcgdaaDoorTimes
import Derived.Test.YtnjgcjgfnjcgdaaDoorCells
import Derived.Test.YtnjgcjgfnjcgdaaDoorRight
import Derived.Laws.EntriesVeiled
namespace Go.Proofs.YtnjgcjgfnjcgdaaDoor
open Go.RowKit
/-- What a call of F at two numbers returns: a value without components. -/
def OpSaid (F : Nat) (a b k r : Int) : Prop := ∀ w : World, Calls Tryd.prog F #[.int .i64 a, .int .i64 b] w fun e w' => e = .returned (flat k r) ∧ Below w.heap.size w w'

theorem op_add (a b : Int) (ha : InR a) (hb : InR b) : OpSaid 80 a b 1 (roundZ (a + b)) := fun w => by
  obtain ⟨a0, a1⟩ := ha
  obtain ⟨b0, b1⟩ := hb
  go_enter Tryd.func80, Tryd.ntmps80
  go_wp2_with fail
  refine (int_any _ _).mono ?_
  rintro e w1 ⟨rfl, hbe⟩
  obtain ⟨c0, f0⟩ := box_later hbe (by simp)
  have d0 := c0 0 _ rfl
  have d1 := c0 1 _ rfl
  have d2 := c0 2 _ rfl
  have d3 := c0 3 _ rfl
  clear c0
  have HB := Lib.hid (((Below.refl _ _).alloc (Nat.le_refl _) _).trans (hbe.mono (by simp))); clear hbe
  unfold flat
  go_wp2_with fail
  refine bodyPost_ret (v := .agg #[.int .i64 1, .int .i64 (roundZ (a + b)), .int .i64 0, .slice none 0 0]) (by simp [results, Tryd.results80, go_sem, cell_set_has, d0, d1, d2, d3]) rfl ⟨rfl, ?_⟩
  exact (((HB.out.setCell (by simp) _).setCell (by simp) _).setCell (by simp) _).setCell (by simp) _

theorem op_sub (a b : Int) (ha : InR a) (hb : InR b) : OpSaid 81 a b 1 (roundZ (a - b)) := fun w => by
  obtain ⟨a0, a1⟩ := ha
  obtain ⟨b0, b1⟩ := hb
  go_enter Tryd.func81, Tryd.ntmps81
  go_wp2_with fail
  refine (int_any _ _).mono ?_
  rintro e w1 ⟨rfl, hbe⟩
  obtain ⟨c0, f0⟩ := box_later hbe (by simp)
  have d0 := c0 0 _ rfl
  have d1 := c0 1 _ rfl
  have d2 := c0 2 _ rfl
  have d3 := c0 3 _ rfl
  clear c0
  have HB := Lib.hid (((Below.refl _ _).alloc (Nat.le_refl _) _).trans (hbe.mono (by simp))); clear hbe
  unfold flat
  go_wp2_with fail
  refine bodyPost_ret (v := .agg #[.int .i64 1, .int .i64 (roundZ (a - b)), .int .i64 0, .slice none 0 0]) (by simp [results, Tryd.results81, go_sem, cell_set_has, d0, d1, d2, d3]) rfl ⟨rfl, ?_⟩
  exact (((HB.out.setCell (by simp) _).setCell (by simp) _).setCell (by simp) _).setCell (by simp) _

theorem op_mul (a b : Int) (ha : InR a) (hb : InR b) : OpSaid 82 a b 1 (roundZ (a * b)) := fun w => by
  have hr := round_bd (a * b)
  have HRR := Lib.hid (round_self hr.1 hr.2)
  clear hr
  have hw : Below w.heap.size w (w.alloc (.cells #[.int .i64 0, .int .i64 0, .int .i64 0, .slice none 0 0] 24)) := (Below.refl _ _).alloc (Nat.le_refl _) _
  have HW := Lib.hid hw; clear hw
  go_enter Tryd.func82, Tryd.ntmps82
  go_wp2_with fail
  refine (times_any _ _ _ ha hb).mono ?_
  rintro e w0 ⟨rfl, hb0⟩
  have HB0 := Lib.hid hb0; clear hb0
  go_wp2_with fail
  refine (int_any _ _).mono ?_
  rintro e w1 ⟨rfl, hb1⟩
  rw [HRR.out]
  have hbe := HB0.out.trans (hb1.mono HB0.out.size)
  clear hb1 HB0
  obtain ⟨c0, f0⟩ := box_later hbe (by simp)
  have d0 := c0 0 _ rfl
  have d1 := c0 1 _ rfl
  have d2 := c0 2 _ rfl
  have d3 := c0 3 _ rfl
  clear c0
  have HB := Lib.hid (((Below.refl _ _).alloc (Nat.le_refl _) _).trans (hbe.mono (by simp))); clear hbe
  unfold flat
  go_wp2_with fail
  refine bodyPost_ret (v := .agg #[.int .i64 1, .int .i64 (roundZ (a * b)), .int .i64 0, .slice none 0 0]) (by simp [results, Tryd.results82, go_sem, cell_set_has, d0, d1, d2, d3]) rfl ⟨rfl, ?_⟩
  exact (((HB.out.setCell (by simp) _).setCell (by simp) _).setCell (by simp) _).setCell (by simp) _

theorem op_less (a b : Int) : OpSaid 83 a b 2 (b2i (decide (a < b))) := fun w => by
  go_enter Tryd.func83, Tryd.ntmps83
  go_wp2_with fail
  refine (bool_any _ _).mono ?_
  rintro e w1 ⟨rfl, hbe⟩
  obtain ⟨c0, f0⟩ := box_later hbe (by simp)
  have d0 := c0 0 _ rfl
  have d1 := c0 1 _ rfl
  have d2 := c0 2 _ rfl
  have d3 := c0 3 _ rfl
  clear c0
  have HB := Lib.hid (((Below.refl _ _).alloc (Nat.le_refl _) _).trans (hbe.mono (by simp))); clear hbe
  unfold flat
  go_wp2_with fail
  refine bodyPost_ret (v := .agg #[.int .i64 2, .int .i64 (b2i (decide (a < b))), .int .i64 0, .slice none 0 0]) (by simp [results, Tryd.results83, go_sem, cell_set_has, d0, d1, d2, d3]) rfl ⟨rfl, ?_⟩
  exact (((HB.out.setCell (by simp) _).setCell (by simp) _).setCell (by simp) _).setCell (by simp) _

theorem op_eq (a b : Int) : OpSaid 84 a b 2 (b2i (a == b)) := fun w => by
  go_enter Tryd.func84, Tryd.ntmps84
  go_wp2_with fail
  refine (bool_any _ _).mono ?_
  rintro e w1 ⟨rfl, hbe⟩
  obtain ⟨c0, f0⟩ := box_later hbe (by simp)
  have d0 := c0 0 _ rfl
  have d1 := c0 1 _ rfl
  have d2 := c0 2 _ rfl
  have d3 := c0 3 _ rfl
  clear c0
  have HB := Lib.hid (((Below.refl _ _).alloc (Nat.le_refl _) _).trans (hbe.mono (by simp))); clear hbe
  unfold flat
  go_wp2_with fail
  refine bodyPost_ret (v := .agg #[.int .i64 2, .int .i64 (b2i (a == b)), .int .i64 0, .slice none 0 0]) (by simp [results, Tryd.results84, go_sem, cell_set_has, d0, d1, d2, d3]) rfl ⟨rfl, ?_⟩
  exact (((HB.out.setCell (by simp) _).setCell (by simp) _).setCell (by simp) _).setCell (by simp) _

theorem op_and (a b : Int) : OpSaid 85 a b 2 (b2i (bits .and .i64 a b == 1)) := fun w => by
  go_enter Tryd.func85, Tryd.ntmps85
  go_wp2_with fail
  refine (bool_any _ _).mono ?_
  rintro e w1 ⟨rfl, hbe⟩
  obtain ⟨c0, f0⟩ := box_later hbe (by simp)
  have d0 := c0 0 _ rfl
  have d1 := c0 1 _ rfl
  have d2 := c0 2 _ rfl
  have d3 := c0 3 _ rfl
  clear c0
  have HB := Lib.hid (((Below.refl _ _).alloc (Nat.le_refl _) _).trans (hbe.mono (by simp))); clear hbe
  unfold flat
  go_wp2_with fail
  refine bodyPost_ret (v := .agg #[.int .i64 2, .int .i64 (b2i (bits .and .i64 a b == 1)), .int .i64 0, .slice none 0 0]) (by simp [results, Tryd.results85, go_sem, cell_set_has, d0, d1, d2, d3]) rfl ⟨rfl, ?_⟩
  exact (((HB.out.setCell (by simp) _).setCell (by simp) _).setCell (by simp) _).setCell (by simp) _

theorem op_or (a b : Int) : OpSaid 86 a b 2 (b2i (bits .or .i64 a b == 1)) := fun w => by
  go_enter Tryd.func86, Tryd.ntmps86
  go_wp2_with fail
  refine (bool_any _ _).mono ?_
  rintro e w1 ⟨rfl, hbe⟩
  obtain ⟨c0, f0⟩ := box_later hbe (by simp)
  have d0 := c0 0 _ rfl
  have d1 := c0 1 _ rfl
  have d2 := c0 2 _ rfl
  have d3 := c0 3 _ rfl
  clear c0
  have HB := Lib.hid (((Below.refl _ _).alloc (Nat.le_refl _) _).trans (hbe.mono (by simp))); clear hbe
  unfold flat
  go_wp2_with fail
  refine bodyPost_ret (v := .agg #[.int .i64 2, .int .i64 (b2i (bits .or .i64 a b == 1)), .int .i64 0, .slice none 0 0]) (by simp [results, Tryd.results86, go_sem, cell_set_has, d0, d1, d2, d3]) rfl ⟨rfl, ?_⟩
  exact (((HB.out.setCell (by simp) _).setCell (by simp) _).setCell (by simp) _).setCell (by simp) _

/-- The table of the operators, as the program lays it. -/
def OpsAt (w : World) : Prop := ∀ j : Nat, 1 ≤ j → j ≤ 7 → w.cell? ⟨0, j * 2, none⟩ = some (.int .i64 (if j ≤ 5 then 1 else 2)) ∧ w.cell? ⟨0, j * 2 + 1, none⟩ = some (.func (.func (79 + j)) #[] #[])
theorem OpsAt.below {w w' : World} (h : OpsAt w) (hb : Below w.heap.size w w') : OpsAt w' := fun j h1 h2 =>
  ⟨(hb.cell (World.block_lt_of_cell? _ _ (h j h1 h2).1)).trans (h j h1 h2).1, (hb.cell (World.block_lt_of_cell? _ _ (h j h1 h2).2)).trans (h j h1 h2).2⟩
def binEnd (k k' kd : Int) (v u : Bool) (kr r : Int) : Ending := if k = kd ∧ k' = kd ∧ v = true ∧ u = true then .returned (.tuple #[flat kr r, .int .i64 0]) else .returned (.tuple #[flat 0 0, .int .i64 1])
def binFail : Ending := .returned (.tuple #[flat 0 0, .int .i64 1])

set_option maxHeartbeats 800000 in
theorem bin_out (op : Int) (d d' : Nat) (x y : Value) (v u : V) (w : World) (hv : VAt w d x v) (hu : VAt w d' y u) (h : op < 1 ∨ 7 < op) :
    Calls Tryd.prog 24 #[.int .i64 op, x, y] w fun e w' => e = binFail ∧ Below w.heap.size w w' := by
  obtain ⟨k, n, m, of⟩ := v
  obtain ⟨d, a, cap, rfl, rfl, hk, hn, hm, hl2, he⟩ := hv.op
  obtain ⟨k', n', m', of'⟩ := u
  obtain ⟨d', a', cap', rfl, rfl, hk', hn', hm', hl2', he'⟩ := hu.op
  clear he hk hn hm he' hk' hn' hm' hv hu
  by_cases h1 : op < 1
  · go_enter Tryd.func24, Tryd.ntmps24
    go_wp2_with fail
    refine bodyPost_ret (v := .tuple #[.agg #[.int .i64 0, .int .i64 0, .int .i64 0, .slice none 0 0], .int .i64 1]) (by simp [results, Tryd.results24, go_sem]) rfl ⟨rfl, ?_⟩
    exact (((Below.refl _ _).alloc (Nat.le_refl _) _).alloc (by simp) _).alloc (by simp; omega) _
  · have h2 : 7 < op := by omega
    have h3 : decide (op < 1) = false := decide_eq_false h1
    clear h h1
    go_enter Tryd.func24, Tryd.ntmps24
    go_wp2_with fail
    refine bodyPost_ret (v := .tuple #[.agg #[.int .i64 0, .int .i64 0, .int .i64 0, .slice none 0 0], .int .i64 1]) (by simp [results, Tryd.results24, go_sem]) rfl ⟨rfl, ?_⟩
    exact (((Below.refl _ _).alloc (Nat.le_refl _) _).alloc (by simp) _).alloc (by simp; omega) _

set_option maxHeartbeats 1600000 in
theorem bin_in (j F : Nat) (kd kr r : Int) (d d' : Nat) (x y : Value) (k n m k' n' m' : Int) (of of' : List V) (w : World) (hv : VAt w d x (.mk k n m of)) (hu : VAt w d' y (.mk k' n' m' of')) (hj1 : 1 ≤ j) (hj7 : j ≤ 7)
    (c0 : w.cell? ⟨0, j * 2, none⟩ = some (.int .i64 kd)) (c1 : w.cell? ⟨0, j * 2 + 1, none⟩ = some (.func (.func F) #[] #[])) (hcall : ∀ (args : Array Value) (w : World), (callFunc F args).run Tryd.prog w = .ok (.enter F args) w) (hF : k = kd → k' = kd → validP 40 (.mk k n m of) = true → validP 40 (.mk k' n' m' of') = true → OpSaid F n n' kr r) :
    Calls Tryd.prog 24 #[.int .i64 j, x, y] w fun e w' => e = binEnd k k' kd (validP 40 (.mk k n m of)) (validP 40 (.mk k' n' m' of')) kr r ∧ Below w.heap.size w w' := by
  obtain ⟨d, a, cap, rfl, rfl, hk, hn, hm, hl2, he⟩ := hv.op
  obtain ⟨d', a', cap', rfl, rfl, hk', hn', hm', hl2', he'⟩ := hu.op
  clear he hk hn hm he' hk' hn' hm'
  have HF := Lib.hid hF; clear hF
  have hz : 0 < w.heap.size := World.block_lt_of_cell? _ _ c0
  obtain ⟨W3, hW3⟩ : ∃ W3, W3 = ((w.alloc (.cells #[.int .i64 k, .int .i64 n, .int .i64 m, .slice a of.length cap] 24)).alloc (.cells #[.int .i64 k', .int .i64 n', .int .i64 m', .slice a' of'.length cap'] 24)).alloc (.cells #[.int .i64 0, .int .i64 0, .int .i64 0, .slice none 0 0] 24) := ⟨_, rfl⟩
  have hb3 : Below w.heap.size w W3 := by rw [hW3]; exact (((Below.refl _ _).alloc (Nat.le_refl _) _).alloc (by simp) _).alloc (by simp; omega) _
  have b0 : W3.cell? ⟨0, j * 2, none⟩ = some (.int .i64 kd) := (hb3.cell hz).trans c0
  have b1 : W3.cell? ⟨0, j * 2 + 1, none⟩ = some (.func (.func F) #[] #[]) := (hb3.cell hz).trans c1
  have hb4 : Below w.heap.size w (W3.alloc (.cells #[.int .i64 kd, .func (.func F) #[] #[]] 62)) := hb3.alloc hb3.size _
  have HB4 := Lib.hid hb4; clear hb4
  rw [hW3] at b0 b1 HB4
  clear c0 c1 hb3
  have jj0 : (j : Int) ≤ 7 := by omega
  have jj1 : 1 ≤ (j : Int) := by omega
  have jd1 : decide ((j : Int) < 1) = false := decide_eq_false (by omega)
  have jd7 : decide (7 < (j : Int)) = false := decide_eq_false (by omega)
  clear hW3
  by_cases e1 : k = kd
  case neg =>
    have hbq : (k != kd) = true := by simpa using e1
    go_enter Tryd.func24, Tryd.ntmps24
    go_wp2_with fail
    refine bodyPost_ret (v := .tuple #[.agg #[.int .i64 0, .int .i64 0, .int .i64 0, .slice none 0 0], .int .i64 1]) (by simp [results, Tryd.results24, go_sem]) rfl ⟨?_, ?_⟩
    · unfold binEnd; rw [if_neg (by intro h; exact e1 h.1)]; rfl
    · exact HB4.out
  subst e1
  by_cases e2 : k = k'
  case neg =>
    have hbq2 : (k' != k) = true := by simpa using fun h : k' = k => e2 h.symm
    go_enter Tryd.func24, Tryd.ntmps24
    go_wp2_with fail
    refine bodyPost_ret (v := .tuple #[.agg #[.int .i64 0, .int .i64 0, .int .i64 0, .slice none 0 0], .int .i64 1]) (by simp [results, Tryd.results24, go_sem]) rfl ⟨?_, ?_⟩
    · unfold binEnd; rw [if_neg (by intro h; exact e2 h.2.1.symm)]; rfl
    · exact HB4.out
  subst e2
  have HV := Lib.hid (hv.below HB4.out)
  have HU := Lib.hid (hu.below HB4.out)
  have HF' := HF.out rfl rfl
  have HFF := Lib.hid HF'
  clear HF' HF hv hu
  obtain ⟨W4, hW4⟩ : ∃ W4, W4 = (((w.alloc (.cells #[.int .i64 k, .int .i64 n, .int .i64 m, .slice a of.length cap] 24)).alloc (.cells #[.int .i64 k, .int .i64 n', .int .i64 m', .slice a' of'.length cap'] 24)).alloc (.cells #[.int .i64 0, .int .i64 0, .int .i64 0, .slice none 0 0] 24)).alloc (.cells #[.int .i64 k, .func (.func F) #[] #[]] 62) := ⟨_, rfl⟩
  have s4 : W4.heap.size = w.heap.size + 1 + 1 + 1 + 1 := by rw [hW4]; simp
  have B4 := boxes4 w #[.int .i64 k, .int .i64 n, .int .i64 m, .slice a of.length cap] #[.int .i64 k, .int .i64 n', .int .i64 m', .slice a' of'.length cap'] #[.int .i64 0, .int .i64 0, .int .i64 0, .slice none 0 0] #[.int .i64 k, .func (.func F) #[] #[]] 24 24 24 62
  rw [← hW4] at B4
  obtain ⟨⟨BA, BB⟩, ⟨BC, BD⟩, f4⟩ := B4
  have W4r0 : W4.cell? ⟨w.heap.size + 1 + 1, 0, none⟩ = some (.int .i64 0) := BC 0
  have W4r1 : W4.cell? ⟨w.heap.size + 1 + 1, 1, none⟩ = some (.int .i64 0) := BC 1
  have W4r2 : W4.cell? ⟨w.heap.size + 1 + 1, 2, none⟩ = some (.int .i64 0) := BC 2
  have W4r3 : W4.cell? ⟨w.heap.size + 1 + 1, 3, none⟩ = some (.slice none 0 0) := BC 3
  have W4p1 : W4.cell? ⟨w.heap.size, 1, none⟩ = some (.int .i64 n) := BA 1
  have W4q0 : W4.cell? ⟨w.heap.size + 1, 0, none⟩ = some (.int .i64 k) := BB 0
  have W4q1 : W4.cell? ⟨w.heap.size + 1, 1, none⟩ = some (.int .i64 n') := BB 1
  have W4q2 : W4.cell? ⟨w.heap.size + 1, 2, none⟩ = some (.int .i64 m') := BB 2
  have W4q3 : W4.cell? ⟨w.heap.size + 1, 3, none⟩ = some (.slice a' of'.length cap') := BB 3
  have W4o0 : W4.cell? ⟨w.heap.size + 1 + 1 + 1, 0, none⟩ = some (.int .i64 k) := BD 0
  have W4o1 : W4.cell? ⟨w.heap.size + 1 + 1 + 1, 1, none⟩ = some (.func (.func F) #[] #[]) := BD 1
  clear BA BB BC BD
  go_enter Tryd.func24, Tryd.ntmps24
  go_wp2_with fail
  rw [← hW4] at HV HU HB4
  rw [← hW4]
  refine (right_any _ _ _ _ HV.out).mono ?_
  rintro e w5 ⟨rfl, hb5⟩
  have s5 := hb5.size
  clear b0 b1 hW4
  have r0 : w5.cell? ⟨w.heap.size + 1 + 1, 0, none⟩ = some (.int .i64 0) := by rw [hb5.cell (by simp; omega)]; exact W4r0
  have r1 : w5.cell? ⟨w.heap.size + 1 + 1, 1, none⟩ = some (.int .i64 0) := by rw [hb5.cell (by simp; omega)]; exact W4r1
  have r2 : w5.cell? ⟨w.heap.size + 1 + 1, 2, none⟩ = some (.int .i64 0) := by rw [hb5.cell (by simp; omega)]; exact W4r2
  have r3 : w5.cell? ⟨w.heap.size + 1 + 1, 3, none⟩ = some (.slice none 0 0) := by rw [hb5.cell (by simp; omega)]; exact W4r3
  have p1 : w5.cell? ⟨w.heap.size, 1, none⟩ = some (.int .i64 n) := by rw [hb5.cell (by simp; omega)]; exact W4p1
  have q0 : w5.cell? ⟨w.heap.size + 1, 0, none⟩ = some (.int .i64 k) := by rw [hb5.cell (by simp; omega)]; exact W4q0
  have q1 : w5.cell? ⟨w.heap.size + 1, 1, none⟩ = some (.int .i64 n') := by rw [hb5.cell (by simp; omega)]; exact W4q1
  have q2 : w5.cell? ⟨w.heap.size + 1, 2, none⟩ = some (.int .i64 m') := by rw [hb5.cell (by simp; omega)]; exact W4q2
  have q3 : w5.cell? ⟨w.heap.size + 1, 3, none⟩ = some (.slice a' of'.length cap') := by rw [hb5.cell (by simp; omega)]; exact W4q3
  have o0 : w5.cell? ⟨w.heap.size + 1 + 1 + 1, 0, none⟩ = some (.int .i64 k) := by rw [hb5.cell (by simp; omega)]; exact W4o0
  have o1 : w5.cell? ⟨w.heap.size + 1 + 1 + 1, 1, none⟩ = some (.func (.func F) #[] #[]) := by rw [hb5.cell (by simp; omega)]; exact W4o1
  have f5 : ∀ i, w5.frozen? ⟨w.heap.size + 1 + 1, i, none⟩ = false := fun i => by rw [hb5.frozen (by simp; omega)]; exact f4 i
  have HB5 := Lib.hid (HB4.out.trans (hb5.mono (by omega)))
  have HU5 := Lib.hid (HU.out.below hb5)
  have HV' := Lib.hid HV
  clear hb5 HU HV'
  clear W4r0 W4r1 W4r2 W4r3 W4p1 W4q0 W4q1 W4q2 W4q3 W4o0 W4o1 f4
  cases hval : validP 40 (.mk k n m of)
  case false =>
    have HVAL := Lib.hid hval
    go_wp2_with fail
    refine bodyPost_ret (v := .tuple #[.agg #[.int .i64 0, .int .i64 0, .int .i64 0, .slice none 0 0], .int .i64 1]) (by simp [results, Tryd.results24, go_sem, cell_set_has, r0, r1, r2, r3]) rfl ⟨?_, ?_⟩
    · unfold binEnd; rw [HVAL.out]; simp [flat]
    · exact ((((HB5.out).setCell (by simp; omega) _).setCell (by simp; omega) _).setCell (by simp; omega) _).setCell (by simp; omega) _
  have HVAL := Lib.hid hval
  go_wp2_with fail
  refine (right_any _ _ _ _ HU5.out).mono ?_
  rintro e w6 ⟨rfl, hb6⟩
  have s6 := hb6.size
  have xr0 : w6.cell? ⟨w.heap.size + 1 + 1, 0, none⟩ = some (.int .i64 0) := by rw [hb6.cell (by simp; omega)]; exact r0
  have xr1 : w6.cell? ⟨w.heap.size + 1 + 1, 1, none⟩ = some (.int .i64 0) := by rw [hb6.cell (by simp; omega)]; exact r1
  have xr2 : w6.cell? ⟨w.heap.size + 1 + 1, 2, none⟩ = some (.int .i64 0) := by rw [hb6.cell (by simp; omega)]; exact r2
  have xr3 : w6.cell? ⟨w.heap.size + 1 + 1, 3, none⟩ = some (.slice none 0 0) := by rw [hb6.cell (by simp; omega)]; exact r3
  have xp1 : w6.cell? ⟨w.heap.size, 1, none⟩ = some (.int .i64 n) := by rw [hb6.cell (by simp; omega)]; exact p1
  have xq1 : w6.cell? ⟨w.heap.size + 1, 1, none⟩ = some (.int .i64 n') := by rw [hb6.cell (by simp; omega)]; exact q1
  have xo1 : w6.cell? ⟨w.heap.size + 1 + 1 + 1, 1, none⟩ = some (.func (.func F) #[] #[]) := by rw [hb6.cell (by simp; omega)]; exact o1
  have f6 : ∀ i, w6.frozen? ⟨w.heap.size + 1 + 1, i, none⟩ = false := fun i => by rw [hb6.frozen (by simp; omega)]; exact f5 i
  have HB6 := Lib.hid (HB5.out.trans (hb6.mono (by omega)))
  clear hb6
  clear r0 r1 r2 r3 p1 q0 q1 q2 q3 o0 o1 f5
  cases hval2 : validP 40 (.mk k n' m' of')
  case false =>
    have HVAL2 := Lib.hid hval2
    go_wp2_with fail
    refine bodyPost_ret (v := .tuple #[.agg #[.int .i64 0, .int .i64 0, .int .i64 0, .slice none 0 0], .int .i64 1]) (by simp [results, Tryd.results24, go_sem, cell_set_has, xr0, xr1, xr2, xr3]) rfl ⟨?_, ?_⟩
    · unfold binEnd; rw [HVAL2.out]; simp [flat]
    · exact ((((HB6.out).setCell (by simp; omega) _).setCell (by simp; omega) _).setCell (by simp; omega) _).setCell (by simp; omega) _
  have HVAL2 := Lib.hid hval2
  go_wp2_with fail
  refine (HFF.out HVAL.out HVAL2.out _).mono ?_
  rintro e w7 ⟨rfl, hb7⟩
  have s7 := hb7.size
  have yr0 : w7.cell? ⟨w.heap.size + 1 + 1, 0, none⟩ = some (.int .i64 0) := by rw [hb7.cell (by simp; omega)]; exact xr0
  have yr1 : w7.cell? ⟨w.heap.size + 1 + 1, 1, none⟩ = some (.int .i64 0) := by rw [hb7.cell (by simp; omega)]; exact xr1
  have yr2 : w7.cell? ⟨w.heap.size + 1 + 1, 2, none⟩ = some (.int .i64 0) := by rw [hb7.cell (by simp; omega)]; exact xr2
  have yr3 : w7.cell? ⟨w.heap.size + 1 + 1, 3, none⟩ = some (.slice none 0 0) := by rw [hb7.cell (by simp; omega)]; exact xr3
  have f7 : ∀ i, w7.frozen? ⟨w.heap.size + 1 + 1, i, none⟩ = false := fun i => by rw [hb7.frozen (by simp; omega)]; exact f6 i
  have HB7 := Lib.hid (HB6.out.trans (hb7.mono (by omega)))
  clear hb7
  clear xr0 xr1 xr2 xr3 xp1 xq1 xo1 f6
  unfold flat
  go_wp2_with fail
  refine bodyPost_ret (v := .tuple #[.agg #[.int .i64 kr, .int .i64 r, .int .i64 0, .slice none 0 0], .int .i64 0]) (by simp [results, Tryd.results24, go_sem, cell_set_has, yr0, yr1, yr2, yr3]) rfl ⟨?_, ?_⟩
  · unfold binEnd; rw [HVAL.out, HVAL2.out]; simp [flat]
  · exact ((((HB7.out).setCell (by simp; omega) _).setCell (by simp; omega) _).setCell (by simp; omega) _).setCell (by simp; omega) _

theorem call80 (args : Array Value) (w : World) : (callFunc 80 args).run Tryd.prog w = .ok (.enter 80 args) w := by kernel_rfl
end Go.Proofs.YtnjgcjgfnjcgdaaDoor
