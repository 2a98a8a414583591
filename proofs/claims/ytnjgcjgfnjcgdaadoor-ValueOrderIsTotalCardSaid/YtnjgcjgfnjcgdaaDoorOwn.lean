/-
  The walks of hallmootref08.own, value.many and value.number.
-/
import Derived.Test.YtnjgcjgfnjcgdaaDoorBase
import Derived.BigGuardPart
import Derived.Deep.Light
namespace Go.Proofs.YtnjgcjgfnjcgdaaDoor
open Go.RowKit
theorem ret_bool {a b : Bool} (h : a = b) : Ending.returned (.bool a) = .returned (.bool b) := by rw [h]

/-- What the reference asks of a value's own parts. -/
def ownP (k n m : Int) (len : Nat) : Prop := (k = 5 ∧ len = 0 ∧ 0 ≤ n ∧ n ≤ 32 ∧ 1 ≤ m ∧ m ≤ 32 ∧ n + m ≤ 32) ∨
  (k ≠ 5 ∧ m = 0 ∧ ((k = 1 ∧ len = 0 ∧ -1099511627776 ≤ n ∧ n ≤ 1099511627776) ∨ (k = 2 ∧ len = 0 ∧ (n = 0 ∨ n = 1)) ∨ ((k = 3 ∨ k = 7) ∧ len = 0 ∧ n = 0) ∨
    (k = 4 ∧ len = 0 ∧ 0 ≤ n ∧ n < 32) ∨ (k = 6 ∧ len = 2 ∧ n = 0) ∨ (k = 8 ∧ len = 1 ∧ n = 0) ∨ (k = 9 ∧ 0 ≤ n)))
instance (k n m : Int) (len : Nat) : Decidable (ownP k n m len) := by unfold ownP; exact inferInstance
def ownB (k n m : Int) (len : Nat) : Bool := decide (ownP k n m len)
theorem ownB_iff {k n m : Int} {len : Nat} : ownB k n m len = true ↔ ownP k n m len := by unfold ownB; exact decide_eq_true_iff

set_option maxHeartbeats 1600000 in
theorem own_any (a : Option Addr) (len cap : Nat) (k n m : Int) (w : World) (_hl : len ≤ 4611686018427387904) (hn : I64 n) (hm : I64 m) :
    Calls Tryd.prog 45 #[.agg #[.int .i64 k, .int .i64 n, .int .i64 m, .slice a len cap]] w fun e w' => e = .returned (.bool (ownB k n m len)) ∧ Below w.heap.size w w' := by
  obtain ⟨hn0, hn1⟩ := hn
  obtain ⟨hm0, hm1⟩ := hm
  go_enter Tryd.func45, Tryd.ntmps45
  go_wp2_with fail
  all_goals
    go_ret
    refine ⟨ret_bool ?_, (Below.refl _ _).alloc (Nat.le_refl _) _⟩
    clear hn0 hn1 hm0 hm1
    go_light
    rw [Bool.eq_iff_iff, ownB_iff]
    unfold ownP
    simp only [beq_iff_eq, beq_eq_false_iff_ne, bne_iff_ne, bne_eq_false_iff_eq, ne_eq, decide_eq_true_eq, Bool.false_eq_true, false_iff, true_iff] at *
    omega

def manyLo (k : Int) : Int := if k = 6 then 2 else if k = 8 then 1 else 0
def manyHi (k : Int) : Int := if k = 6 then 2 else if k = 8 then 1 else if k = 9 then 1073741824 else 0
def manyIs (k : Int) : Bool := decide (1 ≤ k ∧ k ≤ 9)
theorem ret_many {k a b : Int} {c : Bool} (h1 : a = manyLo k) (h2 : b = manyHi k) (h3 : c = manyIs k) :
    Ending.returned (.tuple #[.int .i64 a, .int .i64 b, .bool c]) = .returned (.tuple #[.int .i64 (manyLo k), .int .i64 (manyHi k), .bool (manyIs k)]) := by rw [h1, h2, h3]
set_option maxHeartbeats 1600000 in
theorem many_any (k : Int) (w : World) :
    Calls Tryd.prog 43 #[.int .i64 k] w fun e w' => e = .returned (.tuple #[.int .i64 (manyLo k), .int .i64 (manyHi k), .bool (manyIs k)]) ∧ w = w' := by
  go_enter Tryd.func43, Tryd.ntmps43
  go_wp2_with fail
  all_goals
    go_ret3
    refine ⟨ret_many ?_ ?_ ?_, rfl⟩
    all_goals
      simp only [beq_iff_eq, beq_eq_false_iff_ne, ne_eq] at *
      first
        | (unfold manyLo; split <;> omega)
        | (unfold manyHi; split <;> omega)
        | (unfold manyIs; simp; omega)

/-- What the program asks of N and M. -/
def numP (k n m : Int) : Prop := (k = 5 ∧ 0 ≤ n ∧ 1 ≤ m ∧ m ≤ 32 ∧ n + m ≤ 32) ∨
  (k ≠ 5 ∧ m = 0 ∧ ((k = 1 ∧ -1099511627776 ≤ n ∧ n ≤ 1099511627776) ∨ (k = 2 ∧ 0 ≤ n ∧ n ≤ 1) ∨ (k = 4 ∧ 0 ≤ n ∧ n ≤ 31) ∨ (k = 9 ∧ 0 ≤ n) ∨ (k ≠ 1 ∧ k ≠ 2 ∧ k ≠ 4 ∧ k ≠ 9 ∧ n = 0)))
instance (k n m : Int) : Decidable (numP k n m) := by unfold numP; exact inferInstance
def numB (k n m : Int) : Bool := decide (numP k n m)
theorem numB_iff {k n m : Int} : numB k n m = true ↔ numP k n m := by unfold numB; exact decide_eq_true_iff
set_option maxHeartbeats 1600000 in
theorem number_any (s : Value) (hs : ∃ a len cap, s = .slice a len cap) (k n m : Int) (w : World) (hn : I64 n) (hm : I64 m) :
    Calls Tryd.prog 44 #[.agg #[.int .i64 k, .int .i64 n, .int .i64 m, s]] w fun e w' => e = .returned (.bool (numB k n m)) ∧ Below w.heap.size w w' := by
  obtain ⟨hn0, hn1⟩ := hn
  obtain ⟨hm0, hm1⟩ := hm
  obtain ⟨a, len, cap, rfl⟩ := hs
  go_enter Tryd.func44, Tryd.ntmps44
  go_wp2_with fail
  all_goals
    go_ret
    refine ⟨ret_bool ?_, (Below.refl _ _).alloc (Nat.le_refl _) _⟩
    clear hn0 hn1 hm0 hm1
    go_light
    rw [Bool.eq_iff_iff, numB_iff]
    unfold numP
    simp only [beq_iff_eq, beq_eq_false_iff_ne, ne_eq, decide_eq_true_eq, Bool.false_eq_true, false_iff, true_iff] at *
    omega
end Go.Proofs.YtnjgcjgfnjcgdaaDoor
