/-
  The walks of hallmootref08.Bin, and what Bin returns, in one specification.
-/
import Derived.Test.YtnjgcjgfnjcgdaaDoorOps
namespace Go.Proofs.YtnjgcjgfnjcgdaaDoor
open Go.RowKit
/-- What Bin returns: kind and number of the result, or nothing. -/
def binSpec (op k n k' n' : Int) (v u : Bool) : Option (Int × Int) :=
  if v && u && decide (k = k') then
    if k = 1 then
      if op = 1 then some (1, roundZ (n + n')) else if op = 2 then some (1, roundZ (n - n')) else if op = 3 then some (1, roundZ (n * n'))
      else if op = 4 then some (2, b2i (decide (n < n'))) else if op = 5 then some (2, b2i (n == n')) else none
    else if k = 2 then
      if op = 6 then some (2, b2i (n == 1 && n' == 1)) else if op = 7 then some (2, b2i (n == 1 || n' == 1)) else none
    else none
  else none
def binOf : Option (Int × Int) → Ending
  | some (k, r) => .returned (.tuple #[flat k r, .int .i64 0])
  | none => .returned (.tuple #[flat 0 0, .int .i64 1])
theorem binOf_none {o : Option (Int × Int)} (h : o = none) : Ending.returned (.tuple #[.agg #[.int .i64 0, .int .i64 0, .int .i64 0, .slice none 0 0], .int .i64 1]) = binOf o := by rw [h]; rfl
theorem binOf_some {o : Option (Int × Int)} {k r : Int} (h : o = some (k, r)) : Ending.returned (.tuple #[.agg #[.int .i64 k, .int .i64 r, .int .i64 0, .slice none 0 0], .int .i64 0]) = binOf o := by rw [h]; rfl

/-- Three boxes of the call's own, one behind the other. -/
theorem boxes3 (w : World) (A B C : Array Value) (t1 t2 t3 : TypeId) :
    ((∀ j, (((w.alloc (.cells A t1)).alloc (.cells B t2)).alloc (.cells C t3)).cell? ⟨w.heap.size, j, none⟩ = A[j]?) ∧
     (∀ j, (((w.alloc (.cells A t1)).alloc (.cells B t2)).alloc (.cells C t3)).cell? ⟨w.heap.size + 1, j, none⟩ = B[j]?)) ∧
    ((∀ j, (((w.alloc (.cells A t1)).alloc (.cells B t2)).alloc (.cells C t3)).cell? ⟨w.heap.size + 1 + 1, j, none⟩ = C[j]?) ∧
    (∀ j, (((w.alloc (.cells A t1)).alloc (.cells B t2)).alloc (.cells C t3)).frozen? ⟨w.heap.size + 1 + 1, j, none⟩ = false)) := by
  have n (w : World) (c : Array Value) (t : TypeId) (b j : Nat) (hb : b = w.heap.size) : (w.alloc (.cells c t)).cell? ⟨b, j, none⟩ = c[j]? := by subst hb; exact World.cell?_alloc_new _ _ _ _
  have o (w : World) (c : Array Value) (t : TypeId) (b j : Nat) (hb : b < w.heap.size) : (w.alloc (.cells c t)).cell? ⟨b, j, none⟩ = w.cell? ⟨b, j, none⟩ := World.cell?_alloc_lt _ _ _ hb
  have fn (w : World) (c : Array Value) (t : TypeId) (b j : Nat) (hb : b = w.heap.size) : (w.alloc (.cells c t)).frozen? ⟨b, j, none⟩ = false := by subst hb; exact World.frozen?_alloc_new _ _ _ _
  refine ⟨⟨fun j => ?_, fun j => ?_⟩, ⟨fun j => ?_, fun j => ?_⟩⟩
  · rw [o _ _ _ _ _ (by simp only [World.size_alloc]; omega), o _ _ _ _ _ (by simp only [World.size_alloc]; omega), n _ _ _ _ _ rfl]
  · rw [o _ _ _ _ _ (by simp only [World.size_alloc]; omega), n _ _ _ _ _ (by simp only [World.size_alloc])]
  · rw [n _ _ _ _ _ (by simp only [World.size_alloc])]
  · rw [fn _ _ _ _ _ (by simp only [World.size_alloc])]

theorem within_int {l : Nat} {k n m : Int} {of : List V} {b : Bool} (hb : withinB l (.mk k n m of) = b) : b = true → k = 1 → InR n := by
  intro h hk
  subst h hk
  cases l with
  | zero => simp [withinB] at hb
  | succ l =>
    simp only [withinB, Bool.and_eq_true] at hb
    have := ownB_iff.1 hb.1
    unfold ownP at this
    exact ⟨by omega, by omega⟩
set_option maxHeartbeats 3200000 in
theorem refBin_any (op : Int) (d d' : Nat) (x y : Value) (k n m k' n' m' : Int) (of of' : List V) (w : World) (hv : VAt w d x (.mk k n m of)) (hu : VAt w d' y (.mk k' n' m' of')) :
    Calls Tryd.prog 25 #[.int .i64 op, x, y] w fun e w' => e = binOf (binSpec op k n k' n' (withinB 40 (.mk k n m of)) (withinB 40 (.mk k' n' m' of'))) ∧ Below w.heap.size w w' := by
  obtain ⟨d, a, cap, rfl, rfl, hk, hn, hm, hl2, he⟩ := hv.op
  obtain ⟨d', a', cap', rfl, rfl, hk', hn', hm', hl2', he'⟩ := hu.op
  clear he hk hn hm he' hk' hn' hm'
  obtain ⟨ok1, h1⟩ : ∃ b, b = withinB 40 (.mk k n m of) := ⟨_, rfl⟩
  obtain ⟨ok2, h2⟩ : ∃ b, b = withinB 40 (.mk k' n' m' of') := ⟨_, rfl⟩
  rw [← h1, ← h2]
  have BD1 := Lib.hid (within_int (l := 40) (k := k) (n := n) (m := m) (of := of) h1.symm)
  have BD2 := Lib.hid (within_int (l := 40) (k := k') (n := n') (m := m') (of := of') h2.symm)
  have H1 := Lib.hid h1
  have H2 := Lib.hid h2
  clear h1 h2
  obtain ⟨W3, hW3⟩ : ∃ W3, W3 = ((w.alloc (.cells #[.int .i64 k, .int .i64 n, .int .i64 m, .slice a of.length cap] 24)).alloc (.cells #[.int .i64 k', .int .i64 n', .int .i64 m', .slice a' of'.length cap'] 24)).alloc (.cells #[.int .i64 0, .int .i64 0, .int .i64 0, .slice none 0 0] 24) := ⟨_, rfl⟩
  have s3 : W3.heap.size = w.heap.size + 1 + 1 + 1 := by rw [hW3]; simp
  have hb3 : Below w.heap.size w W3 := by rw [hW3]; exact (((Below.refl _ _).alloc (Nat.le_refl _) _).alloc (by simp) _).alloc (by simp; omega) _
  have HB3 := Lib.hid hb3; clear hb3
  have B3 := boxes3 w #[.int .i64 k, .int .i64 n, .int .i64 m, .slice a of.length cap] #[.int .i64 k', .int .i64 n', .int .i64 m', .slice a' of'.length cap'] #[.int .i64 0, .int .i64 0, .int .i64 0, .slice none 0 0] 24 24 24
  rw [← hW3] at B3
  have HU3 := Lib.hid (hu.below HB3.out)
  have HV3 := Lib.hid (hv.below HB3.out)
  clear hv hu
  have HBX := Lib.hid B3; clear B3
  go_enter Tryd.func25, Tryd.ntmps25
  go_wp2_with fail
  rw [← hW3]
  refine (refRight_any _ _ _ _ HV3.out).mono ?_
  rintro e w4 ⟨rfl, hb4⟩
  rw [← H1.out]
  obtain ⟨⟨BA, BB⟩, ⟨BC, f3⟩⟩ := HBX.out
  have sz4 := hb4.size
  have q0 : w4.cell? ⟨w.heap.size + 1, 0, none⟩ = some (.int .i64 k') := by rw [hb4.cell (by simp; omega)]; exact BB 0
  have q1 : w4.cell? ⟨w.heap.size + 1, 1, none⟩ = some (.int .i64 n') := by rw [hb4.cell (by simp; omega)]; exact BB 1
  have q2 : w4.cell? ⟨w.heap.size + 1, 2, none⟩ = some (.int .i64 m') := by rw [hb4.cell (by simp; omega)]; exact BB 2
  have q3 : w4.cell? ⟨w.heap.size + 1, 3, none⟩ = some (.slice a' of'.length cap') := by rw [hb4.cell (by simp; omega)]; exact BB 3
  have HB4 := Lib.hid hb4
  have HU4 := Lib.hid (HU3.out.below hb4)
  clear hb4 BA BB BC f3
  clear hW3
  go_wp2_with fail
  refine (refRight_any _ _ _ _ HU4.out).mono ?_
  rintro e w5 ⟨rfl, hb5⟩
  rw [← H2.out]
  have hb := HB4.out.trans (hb5.mono sz4)
  clear hb5 q0 q1 q2 q3
  obtain ⟨⟨BA, BB⟩, ⟨BC, f3⟩⟩ := HBX.out
  have sz5 := hb.size
  have p0 : w5.cell? ⟨w.heap.size, 0, none⟩ = some (.int .i64 k) := by rw [hb.cell (by simp; omega)]; exact BA 0
  have p1 : w5.cell? ⟨w.heap.size, 1, none⟩ = some (.int .i64 n) := by rw [hb.cell (by simp; omega)]; exact BA 1
  have q0 : w5.cell? ⟨w.heap.size + 1, 0, none⟩ = some (.int .i64 k') := by rw [hb.cell (by simp; omega)]; exact BB 0
  have q1 : w5.cell? ⟨w.heap.size + 1, 1, none⟩ = some (.int .i64 n') := by rw [hb.cell (by simp; omega)]; exact BB 1
  have r0 : w5.cell? ⟨w.heap.size + 1 + 1, 0, none⟩ = some (.int .i64 0) := by rw [hb.cell (by simp; omega)]; exact BC 0
  have r1 : w5.cell? ⟨w.heap.size + 1 + 1, 1, none⟩ = some (.int .i64 0) := by rw [hb.cell (by simp; omega)]; exact BC 1
  have r2 : w5.cell? ⟨w.heap.size + 1 + 1, 2, none⟩ = some (.int .i64 0) := by rw [hb.cell (by simp; omega)]; exact BC 2
  have r3 : w5.cell? ⟨w.heap.size + 1 + 1, 3, none⟩ = some (.slice none 0 0) := by rw [hb.cell (by simp; omega)]; exact BC 3
  have f5 : ∀ i, w5.frozen? ⟨w.heap.size + 1 + 1, i, none⟩ = false := fun i => by rw [hb.frozen (by simp; omega)]; exact f3 i
  have HB := Lib.hid (HB3.out.trans (hb.mono (by omega)))
  clear hb BA BB BC f3 HBX HB4 HU4 HU3 HB3
  cases ok1
  case false =>
    go_wp2_with fail
    refine bodyPost_ret (v := .tuple #[.agg #[.int .i64 0, .int .i64 0, .int .i64 0, .slice none 0 0], .int .i64 1]) (by simp [results, Tryd.results25, go_sem, cell_set_has, r0, r1, r2, r3]) rfl ⟨binOf_none (by simp [binSpec]), ?_⟩
    exact (((HB.out.setCell (by simp; omega) _).setCell (by simp; omega) _).setCell (by simp; omega) _).setCell (by simp; omega) _
  cases ok2
  case false =>
    go_wp2_with fail
    refine bodyPost_ret (v := .tuple #[.agg #[.int .i64 0, .int .i64 0, .int .i64 0, .slice none 0 0], .int .i64 1]) (by simp [results, Tryd.results25, go_sem, cell_set_has, r0, r1, r2, r3]) rfl ⟨binOf_none (by simp [binSpec]), ?_⟩
    exact (((HB.out.setCell (by simp; omega) _).setCell (by simp; omega) _).setCell (by simp; omega) _).setCell (by simp; omega) _
  by_cases ek : k = k'
  case neg =>
    have hbq : (k != k') = true := by simpa using ek
    go_wp2_with fail
    refine bodyPost_ret (v := .tuple #[.agg #[.int .i64 0, .int .i64 0, .int .i64 0, .slice none 0 0], .int .i64 1]) (by simp [results, Tryd.results25, go_sem, cell_set_has, r0, r1, r2, r3]) rfl ⟨binOf_none (by simp [binSpec, ek]), ?_⟩
    exact (((HB.out.setCell (by simp; omega) _).setCell (by simp; omega) _).setCell (by simp; omega) _).setCell (by simp; omega) _
  subst ek
  have hs3 : W3.heap.size = w.heap.size + 1 + 1 + 1 := s3
  by_cases e1 : k = 1
  · subst e1
    have IN1 := Lib.hid (BD1.out rfl rfl)
    have IN2 := Lib.hid (BD2.out rfl rfl)
    by_cases o1 : op = 1
    · subst o1
      obtain ⟨n0, n1⟩ := IN1.out
      obtain ⟨n2, n3⟩ := IN2.out
      go_wp2_with fail
      refine (refInt_any _ _).mono ?_
      rintro e w6 ⟨rfl, hb6⟩
      have sz6 := hb6.size
      have xr0 : w6.cell? ⟨w.heap.size + 1 + 1, 0, none⟩ = some (.int .i64 0) := by rw [hb6.cell (by simp; omega)]; exact r0
      have xr1 : w6.cell? ⟨w.heap.size + 1 + 1, 1, none⟩ = some (.int .i64 0) := by rw [hb6.cell (by simp; omega)]; exact r1
      have xr2 : w6.cell? ⟨w.heap.size + 1 + 1, 2, none⟩ = some (.int .i64 0) := by rw [hb6.cell (by simp; omega)]; exact r2
      have xr3 : w6.cell? ⟨w.heap.size + 1 + 1, 3, none⟩ = some (.slice none 0 0) := by rw [hb6.cell (by simp; omega)]; exact r3
      have f6 : ∀ i, w6.frozen? ⟨w.heap.size + 1 + 1, i, none⟩ = false := fun i => by rw [hb6.frozen (by simp; omega)]; exact f5 i
      have HB6 := Lib.hid (HB.out.trans (hb6.mono (by omega)))
      clear hb6 r0 r1 r2 r3 f5 HB
      unfold flat
      go_wp2_with fail
      refine bodyPost_ret (v := .tuple #[.agg #[.int .i64 1, .int .i64 (roundZ (n + n')), .int .i64 0, .slice none 0 0], .int .i64 0]) (by simp [results, Tryd.results25, go_sem, cell_set_has, xr0, xr1, xr2, xr3]) rfl ⟨binOf_some (by simp [binSpec]), ?_⟩
      exact (((HB6.out.setCell (by simp; omega) _).setCell (by simp; omega) _).setCell (by simp; omega) _).setCell (by simp; omega) _
    have t1 : (op == 1) = false := by simpa using o1
    by_cases o2 : op = 2
    · subst o2
      obtain ⟨n0, n1⟩ := IN1.out
      obtain ⟨n2, n3⟩ := IN2.out
      go_wp2_with fail
      refine (refInt_any _ _).mono ?_
      rintro e w6 ⟨rfl, hb6⟩
      have sz6 := hb6.size
      have xr0 : w6.cell? ⟨w.heap.size + 1 + 1, 0, none⟩ = some (.int .i64 0) := by rw [hb6.cell (by simp; omega)]; exact r0
      have xr1 : w6.cell? ⟨w.heap.size + 1 + 1, 1, none⟩ = some (.int .i64 0) := by rw [hb6.cell (by simp; omega)]; exact r1
      have xr2 : w6.cell? ⟨w.heap.size + 1 + 1, 2, none⟩ = some (.int .i64 0) := by rw [hb6.cell (by simp; omega)]; exact r2
      have xr3 : w6.cell? ⟨w.heap.size + 1 + 1, 3, none⟩ = some (.slice none 0 0) := by rw [hb6.cell (by simp; omega)]; exact r3
      have f6 : ∀ i, w6.frozen? ⟨w.heap.size + 1 + 1, i, none⟩ = false := fun i => by rw [hb6.frozen (by simp; omega)]; exact f5 i
      have HB6 := Lib.hid (HB.out.trans (hb6.mono (by omega)))
      clear hb6 r0 r1 r2 r3 f5 HB
      unfold flat
      go_wp2_with fail
      refine bodyPost_ret (v := .tuple #[.agg #[.int .i64 1, .int .i64 (roundZ (n - n')), .int .i64 0, .slice none 0 0], .int .i64 0]) (by simp [results, Tryd.results25, go_sem, cell_set_has, xr0, xr1, xr2, xr3]) rfl ⟨binOf_some (by simp [binSpec]), ?_⟩
      exact (((HB6.out.setCell (by simp; omega) _).setCell (by simp; omega) _).setCell (by simp; omega) _).setCell (by simp; omega) _
    have t2 : (op == 2) = false := by simpa using o2
    by_cases o3 : op = 3
    · subst o3
      have RR := Lib.hid (round_self (round_bd (n * n')).1 (round_bd (n * n')).2)
      go_wp2_with fail
      refine (refTimes_any _ _ _ IN1.out IN2.out).mono ?_
      rintro e w6 ⟨rfl, rfl⟩
      go_wp2_with fail
      refine (refInt_any _ _).mono ?_
      rintro e w6 ⟨rfl, hb6⟩
      have sz6 := hb6.size
      have xr0 : w6.cell? ⟨w.heap.size + 1 + 1, 0, none⟩ = some (.int .i64 0) := by rw [hb6.cell (by simp; omega)]; exact r0
      have xr1 : w6.cell? ⟨w.heap.size + 1 + 1, 1, none⟩ = some (.int .i64 0) := by rw [hb6.cell (by simp; omega)]; exact r1
      have xr2 : w6.cell? ⟨w.heap.size + 1 + 1, 2, none⟩ = some (.int .i64 0) := by rw [hb6.cell (by simp; omega)]; exact r2
      have xr3 : w6.cell? ⟨w.heap.size + 1 + 1, 3, none⟩ = some (.slice none 0 0) := by rw [hb6.cell (by simp; omega)]; exact r3
      have f6 : ∀ i, w6.frozen? ⟨w.heap.size + 1 + 1, i, none⟩ = false := fun i => by rw [hb6.frozen (by simp; omega)]; exact f5 i
      have HB6 := Lib.hid (HB.out.trans (hb6.mono (by omega)))
      clear hb6 r0 r1 r2 r3 f5 HB
      rw [RR.out]
      unfold flat
      go_wp2_with fail
      refine bodyPost_ret (v := .tuple #[.agg #[.int .i64 1, .int .i64 (roundZ (n * n')), .int .i64 0, .slice none 0 0], .int .i64 0]) (by simp [results, Tryd.results25, go_sem, cell_set_has, xr0, xr1, xr2, xr3]) rfl ⟨binOf_some (by simp [binSpec]), ?_⟩
      exact (((HB6.out.setCell (by simp; omega) _).setCell (by simp; omega) _).setCell (by simp; omega) _).setCell (by simp; omega) _
    have t3 : (op == 3) = false := by simpa using o3
    by_cases o4 : op = 4
    · subst o4
      go_wp2_with fail
      refine (refBool_any _ _).mono ?_
      rintro e w6 ⟨rfl, hb6⟩
      have sz6 := hb6.size
      have xr0 : w6.cell? ⟨w.heap.size + 1 + 1, 0, none⟩ = some (.int .i64 0) := by rw [hb6.cell (by simp; omega)]; exact r0
      have xr1 : w6.cell? ⟨w.heap.size + 1 + 1, 1, none⟩ = some (.int .i64 0) := by rw [hb6.cell (by simp; omega)]; exact r1
      have xr2 : w6.cell? ⟨w.heap.size + 1 + 1, 2, none⟩ = some (.int .i64 0) := by rw [hb6.cell (by simp; omega)]; exact r2
      have xr3 : w6.cell? ⟨w.heap.size + 1 + 1, 3, none⟩ = some (.slice none 0 0) := by rw [hb6.cell (by simp; omega)]; exact r3
      have f6 : ∀ i, w6.frozen? ⟨w.heap.size + 1 + 1, i, none⟩ = false := fun i => by rw [hb6.frozen (by simp; omega)]; exact f5 i
      have HB6 := Lib.hid (HB.out.trans (hb6.mono (by omega)))
      clear hb6 r0 r1 r2 r3 f5 HB
      unfold flat
      go_wp2_with fail
      refine bodyPost_ret (v := .tuple #[.agg #[.int .i64 2, .int .i64 (b2i (decide (n < n'))), .int .i64 0, .slice none 0 0], .int .i64 0]) (by simp [results, Tryd.results25, go_sem, cell_set_has, xr0, xr1, xr2, xr3]) rfl ⟨binOf_some (by simp [binSpec]), ?_⟩
      exact (((HB6.out.setCell (by simp; omega) _).setCell (by simp; omega) _).setCell (by simp; omega) _).setCell (by simp; omega) _
    have t4 : (op == 4) = false := by simpa using o4
    by_cases o5 : op = 5
    · subst o5
      go_wp2_with fail
      refine (refBool_any _ _).mono ?_
      rintro e w6 ⟨rfl, hb6⟩
      have sz6 := hb6.size
      have xr0 : w6.cell? ⟨w.heap.size + 1 + 1, 0, none⟩ = some (.int .i64 0) := by rw [hb6.cell (by simp; omega)]; exact r0
      have xr1 : w6.cell? ⟨w.heap.size + 1 + 1, 1, none⟩ = some (.int .i64 0) := by rw [hb6.cell (by simp; omega)]; exact r1
      have xr2 : w6.cell? ⟨w.heap.size + 1 + 1, 2, none⟩ = some (.int .i64 0) := by rw [hb6.cell (by simp; omega)]; exact r2
      have xr3 : w6.cell? ⟨w.heap.size + 1 + 1, 3, none⟩ = some (.slice none 0 0) := by rw [hb6.cell (by simp; omega)]; exact r3
      have f6 : ∀ i, w6.frozen? ⟨w.heap.size + 1 + 1, i, none⟩ = false := fun i => by rw [hb6.frozen (by simp; omega)]; exact f5 i
      have HB6 := Lib.hid (HB.out.trans (hb6.mono (by omega)))
      clear hb6 r0 r1 r2 r3 f5 HB
      unfold flat
      go_wp2_with fail
      refine bodyPost_ret (v := .tuple #[.agg #[.int .i64 2, .int .i64 (b2i (n == n')), .int .i64 0, .slice none 0 0], .int .i64 0]) (by simp [results, Tryd.results25, go_sem, cell_set_has, xr0, xr1, xr2, xr3]) rfl ⟨binOf_some (by simp [binSpec]), ?_⟩
      exact (((HB6.out.setCell (by simp; omega) _).setCell (by simp; omega) _).setCell (by simp; omega) _).setCell (by simp; omega) _
    have t5 : (op == 5) = false := by simpa using o5
    have OO := Lib.hid (And.intro o1 (And.intro o2 (And.intro o3 (And.intro o4 o5))))
    clear o1 o2 o3 o4 o5
    go_wp2_with fail
    refine bodyPost_ret (v := .tuple #[.agg #[.int .i64 0, .int .i64 0, .int .i64 0, .slice none 0 0], .int .i64 1]) (by simp [results, Tryd.results25, go_sem, cell_set_has, r0, r1, r2, r3]) rfl ⟨binOf_none (by simp [binSpec, OO.out.1, OO.out.2.1, OO.out.2.2.1, OO.out.2.2.2.1, OO.out.2.2.2.2]), ?_⟩
    exact (((HB.out.setCell (by simp; omega) _).setCell (by simp; omega) _).setCell (by simp; omega) _).setCell (by simp; omega) _
  by_cases e2 : k = 2
  · subst e2
    by_cases o6 : op = 6
    · subst o6
      cases hn1 : (n == 1)
      · have HN1 := Lib.hid hn1
        go_wp2_with fail
        refine (refBool_any _ _).mono ?_
        rintro e w6 ⟨rfl, hb6⟩
        have sz6 := hb6.size
        have xr0 : w6.cell? ⟨w.heap.size + 1 + 1, 0, none⟩ = some (.int .i64 0) := by rw [hb6.cell (by simp; omega)]; exact r0
        have xr1 : w6.cell? ⟨w.heap.size + 1 + 1, 1, none⟩ = some (.int .i64 0) := by rw [hb6.cell (by simp; omega)]; exact r1
        have xr2 : w6.cell? ⟨w.heap.size + 1 + 1, 2, none⟩ = some (.int .i64 0) := by rw [hb6.cell (by simp; omega)]; exact r2
        have xr3 : w6.cell? ⟨w.heap.size + 1 + 1, 3, none⟩ = some (.slice none 0 0) := by rw [hb6.cell (by simp; omega)]; exact r3
        have f6 : ∀ i, w6.frozen? ⟨w.heap.size + 1 + 1, i, none⟩ = false := fun i => by rw [hb6.frozen (by simp; omega)]; exact f5 i
        have HB6 := Lib.hid (HB.out.trans (hb6.mono (by omega)))
        clear hb6 r0 r1 r2 r3 f5 HB
        unfold flat
        go_wp2_with fail
        refine bodyPost_ret (v := .tuple #[.agg #[.int .i64 2, .int .i64 (b2i false), .int .i64 0, .slice none 0 0], .int .i64 0]) (by simp [results, Tryd.results25, go_sem, cell_set_has, xr0, xr1, xr2, xr3]) rfl ⟨binOf_some (by simp [binSpec, HN1.out]), ?_⟩
        exact (((HB6.out.setCell (by simp; omega) _).setCell (by simp; omega) _).setCell (by simp; omega) _).setCell (by simp; omega) _
      · have HN1 := Lib.hid hn1
        go_wp2_with fail
        refine (refBool_any _ _).mono ?_
        rintro e w6 ⟨rfl, hb6⟩
        have sz6 := hb6.size
        have xr0 : w6.cell? ⟨w.heap.size + 1 + 1, 0, none⟩ = some (.int .i64 0) := by rw [hb6.cell (by simp; omega)]; exact r0
        have xr1 : w6.cell? ⟨w.heap.size + 1 + 1, 1, none⟩ = some (.int .i64 0) := by rw [hb6.cell (by simp; omega)]; exact r1
        have xr2 : w6.cell? ⟨w.heap.size + 1 + 1, 2, none⟩ = some (.int .i64 0) := by rw [hb6.cell (by simp; omega)]; exact r2
        have xr3 : w6.cell? ⟨w.heap.size + 1 + 1, 3, none⟩ = some (.slice none 0 0) := by rw [hb6.cell (by simp; omega)]; exact r3
        have f6 : ∀ i, w6.frozen? ⟨w.heap.size + 1 + 1, i, none⟩ = false := fun i => by rw [hb6.frozen (by simp; omega)]; exact f5 i
        have HB6 := Lib.hid (HB.out.trans (hb6.mono (by omega)))
        clear hb6 r0 r1 r2 r3 f5 HB
        unfold flat
        go_wp2_with fail
        refine bodyPost_ret (v := .tuple #[.agg #[.int .i64 2, .int .i64 (b2i (n' == 1)), .int .i64 0, .slice none 0 0], .int .i64 0]) (by simp [results, Tryd.results25, go_sem, cell_set_has, xr0, xr1, xr2, xr3]) rfl ⟨binOf_some (by simp [binSpec, HN1.out]), ?_⟩
        exact (((HB6.out.setCell (by simp; omega) _).setCell (by simp; omega) _).setCell (by simp; omega) _).setCell (by simp; omega) _
    have t6 : (op == 6) = false := by simpa using o6
    by_cases o7 : op = 7
    · subst o7
      cases hn1 : (n == 1)
      · have HN1 := Lib.hid hn1
        go_wp2_with fail
        refine (refBool_any _ _).mono ?_
        rintro e w6 ⟨rfl, hb6⟩
        have sz6 := hb6.size
        have xr0 : w6.cell? ⟨w.heap.size + 1 + 1, 0, none⟩ = some (.int .i64 0) := by rw [hb6.cell (by simp; omega)]; exact r0
        have xr1 : w6.cell? ⟨w.heap.size + 1 + 1, 1, none⟩ = some (.int .i64 0) := by rw [hb6.cell (by simp; omega)]; exact r1
        have xr2 : w6.cell? ⟨w.heap.size + 1 + 1, 2, none⟩ = some (.int .i64 0) := by rw [hb6.cell (by simp; omega)]; exact r2
        have xr3 : w6.cell? ⟨w.heap.size + 1 + 1, 3, none⟩ = some (.slice none 0 0) := by rw [hb6.cell (by simp; omega)]; exact r3
        have f6 : ∀ i, w6.frozen? ⟨w.heap.size + 1 + 1, i, none⟩ = false := fun i => by rw [hb6.frozen (by simp; omega)]; exact f5 i
        have HB6 := Lib.hid (HB.out.trans (hb6.mono (by omega)))
        clear hb6 r0 r1 r2 r3 f5 HB
        unfold flat
        go_wp2_with fail
        refine bodyPost_ret (v := .tuple #[.agg #[.int .i64 2, .int .i64 (b2i (n' == 1)), .int .i64 0, .slice none 0 0], .int .i64 0]) (by simp [results, Tryd.results25, go_sem, cell_set_has, xr0, xr1, xr2, xr3]) rfl ⟨binOf_some (by simp [binSpec, HN1.out]), ?_⟩
        exact (((HB6.out.setCell (by simp; omega) _).setCell (by simp; omega) _).setCell (by simp; omega) _).setCell (by simp; omega) _
      · have HN1 := Lib.hid hn1
        go_wp2_with fail
        refine (refBool_any _ _).mono ?_
        rintro e w6 ⟨rfl, hb6⟩
        have sz6 := hb6.size
        have xr0 : w6.cell? ⟨w.heap.size + 1 + 1, 0, none⟩ = some (.int .i64 0) := by rw [hb6.cell (by simp; omega)]; exact r0
        have xr1 : w6.cell? ⟨w.heap.size + 1 + 1, 1, none⟩ = some (.int .i64 0) := by rw [hb6.cell (by simp; omega)]; exact r1
        have xr2 : w6.cell? ⟨w.heap.size + 1 + 1, 2, none⟩ = some (.int .i64 0) := by rw [hb6.cell (by simp; omega)]; exact r2
        have xr3 : w6.cell? ⟨w.heap.size + 1 + 1, 3, none⟩ = some (.slice none 0 0) := by rw [hb6.cell (by simp; omega)]; exact r3
        have f6 : ∀ i, w6.frozen? ⟨w.heap.size + 1 + 1, i, none⟩ = false := fun i => by rw [hb6.frozen (by simp; omega)]; exact f5 i
        have HB6 := Lib.hid (HB.out.trans (hb6.mono (by omega)))
        clear hb6 r0 r1 r2 r3 f5 HB
        unfold flat
        go_wp2_with fail
        refine bodyPost_ret (v := .tuple #[.agg #[.int .i64 2, .int .i64 (b2i true), .int .i64 0, .slice none 0 0], .int .i64 0]) (by simp [results, Tryd.results25, go_sem, cell_set_has, xr0, xr1, xr2, xr3]) rfl ⟨binOf_some (by simp [binSpec, HN1.out]), ?_⟩
        exact (((HB6.out.setCell (by simp; omega) _).setCell (by simp; omega) _).setCell (by simp; omega) _).setCell (by simp; omega) _
    have t7 : (op == 7) = false := by simpa using o7
    have OO := Lib.hid (And.intro o6 o7)
    clear o6 o7
    go_wp2_with fail
    refine bodyPost_ret (v := .tuple #[.agg #[.int .i64 0, .int .i64 0, .int .i64 0, .slice none 0 0], .int .i64 1]) (by simp [results, Tryd.results25, go_sem, cell_set_has, r0, r1, r2, r3]) rfl ⟨binOf_none (by simp [binSpec, OO.out.1, OO.out.2]), ?_⟩
    exact (((HB.out.setCell (by simp; omega) _).setCell (by simp; omega) _).setCell (by simp; omega) _).setCell (by simp; omega) _
  have t1 : (k == 1) = false := by simpa using e1
  have t2 : (k == 2) = false := by simpa using e2
  have EE := Lib.hid (And.intro e1 e2)
  clear e1 e2
  go_wp2_with fail
  refine bodyPost_ret (v := .tuple #[.agg #[.int .i64 0, .int .i64 0, .int .i64 0, .slice none 0 0], .int .i64 1]) (by simp [results, Tryd.results25, go_sem, cell_set_has, r0, r1, r2, r3]) rfl ⟨binOf_none (by simp [binSpec, EE.out.1, EE.out.2]), ?_⟩
  exact (((HB.out.setCell (by simp; omega) _).setCell (by simp; omega) _).setCell (by simp; omega) _).setCell (by simp; omega) _
end Go.Proofs.YtnjgcjgfnjcgdaaDoor
