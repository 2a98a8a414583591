/-
  The walks of Round, Int, Bool and Index, of the program and of the reference.
-/
import Derived.Test.YtnjgcjgfnjcgdaaDoorRight
import Derived.Test.YtnjgcjgfnjcgdaaDoorWithin
namespace Go.Proofs.YtnjgcjgfnjcgdaaDoor
open Go.RowKit

def around : Int := 2199023255553
def most : Int := 1099511627776
def roundZ (n : Int) : Int := if most < n.tmod around then n.tmod around - around else if n.tmod around < -most then n.tmod around + around else n.tmod around
theorem tmod_bd (n : Int) : -2199023255553 < n.tmod 2199023255553 ∧ n.tmod 2199023255553 < 2199023255553 := by
  constructor
  · have := Int.lt_tmod_of_pos n (b := 2199023255553) (by omega); omega
  · exact Int.tmod_lt_of_pos n (by omega)
theorem round_bd (n : Int) : -1099511627776 ≤ roundZ n ∧ roundZ n ≤ 1099511627776 := by
  obtain ⟨b0, b1⟩ := tmod_bd n
  unfold roundZ around most
  split
  · omega
  · split <;> omega

theorem round_any (n : Int) (w : World) :
    Calls Tryd.prog 20 #[.int .i64 n] w fun e w' => e = .returned (.int .i64 (roundZ n)) ∧ w = w' := by
  obtain ⟨b0, b1⟩ := tmod_bd n
  go_enter Tryd.func20, Tryd.ntmps20
  go_wp2
  all_goals go_ret
  · exact ⟨ret_int (by unfold roundZ around most; rw [if_pos (by assumption)]), rfl⟩
  · exact ⟨ret_int (by unfold roundZ around most; rw [if_neg (by omega), if_pos (by assumption)]), rfl⟩
  · exact ⟨ret_int (by unfold roundZ around most; rw [if_neg (by omega), if_neg (by omega)]), rfl⟩
theorem refRound_any (n : Int) (w : World) :
    Calls Tryd.prog 21 #[.int .i64 n] w fun e w' => e = .returned (.int .i64 (roundZ n)) ∧ w = w' := by
  obtain ⟨b0, b1⟩ := tmod_bd n
  by_cases h1 : 1099511627776 < n.tmod 2199023255553
  · go_enter Tryd.func21, Tryd.ntmps21
    go_wp2
    go_ret
    exact ⟨ret_int (by unfold roundZ around most; rw [if_pos h1]; omega), rfl⟩
  · by_cases h2 : n.tmod 2199023255553 < -1099511627776
    · go_enter Tryd.func21, Tryd.ntmps21
      go_wp2
      go_ret
      exact ⟨ret_int (by unfold roundZ around most; rw [if_neg (by omega), if_pos h2]; omega), rfl⟩
    · go_enter Tryd.func21, Tryd.ntmps21
      go_wp2
      go_ret
      exact ⟨ret_int (by unfold roundZ around most; rw [if_neg (by omega), if_neg (by omega)]), rfl⟩

/-- A value without components, as Go hands it over. -/
def flat (k n : Int) : Value := .agg #[.int .i64 k, .int .i64 n, .int .i64 0, .slice none 0 0]
theorem flat_at (w : World) {k n : Int} (hk : I64 k) (hn : I64 n) : VAt w 1 (flat k n) (.mk k n 0 []) :=
  ⟨none, 0, 0, rfl, hk, hn, by unfold I64; omega, rfl, by omega, fun i v h => by simp at h⟩

theorem int_any (n : Int) (w : World) :
    Calls Tryd.prog 22 #[.int .i64 n] w fun e w' => e = .returned (flat 1 (roundZ n)) ∧ Below w.heap.size w w' := by
  go_enter Tryd.func22, Tryd.ntmps22
  go_wp2_with (go_at_call 20; refine (round_any _ _).mono ?_; rintro e w' ⟨rfl, rfl⟩)
  refine bodyPost_ret (v := .agg #[.int .i64 1, .int .i64 (roundZ n), .int .i64 0, .slice none 0 0]) (by simp [results, Tryd.results22, go_sem]) rfl ⟨rfl, ?_⟩
  exact (Below.refl _ _).alloc (Nat.le_refl _) _
theorem refInt_any (n : Int) (w : World) :
    Calls Tryd.prog 23 #[.int .i64 n] w fun e w' => e = .returned (flat 1 (roundZ n)) ∧ Below w.heap.size w w' := by
  go_enter Tryd.func23, Tryd.ntmps23
  go_wp2_with (go_at_call 21; refine (refRound_any _ _).mono ?_; rintro e w' ⟨rfl, rfl⟩)
  refine bodyPost_ret (v := .agg #[.int .i64 1, .int .i64 (roundZ n), .int .i64 0, .slice none 0 0]) (by simp [results, Tryd.results23, go_sem]) rfl ⟨rfl, ?_⟩
  exact (Below.refl _ _).alloc (Nat.le_refl _) _
def b2i (b : Bool) : Int := if b then 1 else 0
theorem bool_any (b : Bool) (w : World) :
    Calls Tryd.prog 29 #[.bool b] w fun e w' => e = .returned (flat 2 (b2i b)) ∧ Below w.heap.size w w' := by
  cases b
  · go_enter Tryd.func29, Tryd.ntmps29
    go_wp2
    refine bodyPost_ret (v := .agg #[.int .i64 2, .int .i64 0, .int .i64 0, .slice none 0 0]) (by simp [results, Tryd.results29, go_sem]) rfl ⟨rfl, ?_⟩
    exact (Below.refl _ _).alloc (Nat.le_refl _) _
  · go_enter Tryd.func29, Tryd.ntmps29
    go_wp2
    refine bodyPost_ret (v := .agg #[.int .i64 2, .int .i64 1, .int .i64 0, .slice none 0 0]) (by simp [results, Tryd.results29, go_sem]) rfl ⟨rfl, ?_⟩
    exact (Below.refl _ _).alloc (Nat.le_refl _) _
theorem refBool_any (b : Bool) (w : World) :
    Calls Tryd.prog 40 #[.bool b] w fun e w' => e = .returned (flat 2 (b2i b)) ∧ Below w.heap.size w w' := by
  cases b
  · go_enter Tryd.func40, Tryd.ntmps40
    go_wp2
    refine bodyPost_ret (v := .agg #[.int .i64 2, .int .i64 0, .int .i64 0, .slice none 0 0]) (by simp [results, Tryd.results40, go_sem]) rfl ⟨rfl, ?_⟩
    exact (Below.refl _ _).alloc (Nat.le_refl _) _
  · go_enter Tryd.func40, Tryd.ntmps40
    go_wp2
    refine bodyPost_ret (v := .agg #[.int .i64 2, .int .i64 1, .int .i64 0, .slice none 0 0]) (by simp [results, Tryd.results40, go_sem]) rfl ⟨rfl, ?_⟩
    exact (Below.refl _ _).alloc (Nat.le_refl _) _
end Go.Proofs.YtnjgcjgfnjcgdaaDoor
