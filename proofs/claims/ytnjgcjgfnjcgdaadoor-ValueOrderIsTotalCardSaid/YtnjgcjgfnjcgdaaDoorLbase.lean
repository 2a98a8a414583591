/-
  Small restatements of the contracts that the laws' walks use, with the result named.
-/
import Derived.Test.YtnjgcjgfnjcgdaaDoorBin2
import Derived.Test.YtnjgcjgfnjcgdaaDoorRing
import Derived.Laws.BitsLemmas
namespace Go.Proofs.YtnjgcjgfnjcgdaaDoor
open Go.RowKit
theorem round_is {n r : Int} (w : World) (h : roundZ n = r) : Calls Tryd.prog 20 #[.int .i64 n] w fun e w' => e = .returned (.int .i64 r) ∧ w = w' := by
  subst h; exact round_any n w
theorem round_in (n : Int) : InR (roundZ n) := round_bd n
theorem wrap_id {x : Int} (h : I64 x) : IntKind.i64.wrap x = x := by
  unfold I64 at h
  rw [IntKind.wrap_i64]
  omega
theorem lb_is {op a b r : Int} (h : binZ op a b = r) (w : World) (hop : op = 1 ∨ op = 2 ∨ op = 3) (ho : OpsAt w) :
    Calls Tryd.prog 27 #[.int .i64 op, .int .i64 a, .int .i64 b] w fun e w' => e = .returned (.int .i64 r) ∧ Below w.heap.size w w' := by
  subst h; exact lawBin_any op a b w hop ho
theorem times_is {a b r : Int} (h : roundZ (a * b) = r) (w : World) (ha : InR a) (hb : InR b) :
    Calls Tryd.prog 26 #[.int .i64 a, .int .i64 b] w fun e w' => e = .returned (.int .i64 r) ∧ Below w.heap.size w w' := by
  subst h; exact times_any a b w ha hb
theorem refTimes_is {a b r : Int} (h : roundZ (a * b) = r) (w : World) (ha : InR a) (hb : InR b) :
    Calls Tryd.prog 28 #[.int .i64 a, .int .i64 b] w fun e w' => e = .returned (.int .i64 r) ∧ w = w' := by
  subst h; exact refTimes_any a b w ha hb
theorem bz1 {a b r : Int} (ha : InR a) (hb : InR b) (h : roundZ (a + b) = r) : binZ 1 a b = r := by
  unfold binZ; rw [if_pos rfl, round_self ha.1 ha.2, round_self hb.1 hb.2]; exact h
theorem bz2 {a b r : Int} (ha : InR a) (hb : InR b) (h : roundZ (a - b) = r) : binZ 2 a b = r := by
  unfold binZ; rw [if_neg (by omega), if_pos rfl, round_self ha.1 ha.2, round_self hb.1 hb.2]; exact h
theorem bz3 {a b r : Int} (ha : InR a) (hb : InR b) (h : roundZ (a * b) = r) : binZ 3 a b = r := by
  unfold binZ; rw [if_neg (by omega), if_neg (by omega), round_self ha.1 ha.2, round_self hb.1 hb.2]; exact h
end Go.Proofs.YtnjgcjgfnjcgdaaDoor
