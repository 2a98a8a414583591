/-
  The plain arithmetic of the program's integers: Round is the one integer in range that is congruent.
-/
import Derived.Test.YtnjgcjgfnjcgdaaDoorArith
namespace Go.Proofs.YtnjgcjgfnjcgdaaDoor

def Cong (x z : Int) : Prop := ∃ k : Int, x = z + 2199023255553 * k
theorem Cong.refl (x : Int) : Cong x x := ⟨0, by omega⟩
theorem Cong.symm {x z : Int} (h : Cong x z) : Cong z x := by obtain ⟨k, h⟩ := h; exact ⟨-k, by omega⟩
theorem Cong.trans {x y z : Int} (h : Cong x y) (g : Cong y z) : Cong x z := by obtain ⟨k, h⟩ := h; obtain ⟨l, g⟩ := g; exact ⟨k + l, by omega⟩
theorem Cong.add {x y u v : Int} (h : Cong x y) (g : Cong u v) : Cong (x + u) (y + v) := by obtain ⟨k, h⟩ := h; obtain ⟨l, g⟩ := g; exact ⟨k + l, by omega⟩
theorem Cong.neg {x y : Int} (h : Cong x y) : Cong (-x) (-y) := by obtain ⟨k, h⟩ := h; exact ⟨-k, by omega⟩
theorem Cong.sub {x y u v : Int} (h : Cong x y) (g : Cong u v) : Cong (x - u) (y - v) := by obtain ⟨k, h⟩ := h; obtain ⟨l, g⟩ := g; exact ⟨k - l, by omega⟩
theorem Cong.mulr {x y : Int} (h : Cong x y) (c : Int) : Cong (x * c) (y * c) := by
  obtain ⟨k, h⟩ := h
  exact ⟨k * c, by rw [h, Int.add_mul, Int.mul_assoc]⟩
theorem Cong.mul {x y u v : Int} (h : Cong x y) (g : Cong u v) : Cong (x * u) (y * v) := by
  refine (h.mulr u).trans ?_
  rw [Int.mul_comm y u, Int.mul_comm y v]
  exact g.mulr y
theorem Cong.eq {x y : Int} (h : Cong x y) (x0 : -1099511627776 ≤ x) (x1 : x ≤ 1099511627776) (y0 : -1099511627776 ≤ y) (y1 : y ≤ 1099511627776) : x = y := by
  obtain ⟨k, h⟩ := h
  omega
theorem round_cong (n : Int) : Cong (roundZ n) n := by
  have h := Int.mul_tdiv_add_tmod n 2199023255553
  have hb := tmod_bd n
  unfold roundZ around most
  split
  · exact ⟨-(n.tdiv 2199023255553) - 1, by omega⟩
  · split
    · exact ⟨-(n.tdiv 2199023255553) + 1, by omega⟩
    · exact ⟨-(n.tdiv 2199023255553), by omega⟩
theorem round_eq {n r : Int} (h : Cong n r) (r0 : -1099511627776 ≤ r) (r1 : r ≤ 1099511627776) : roundZ n = r :=
  ((round_cong n).trans h).eq (round_bd n).1 (round_bd n).2 r0 r1
theorem round_congr {n m : Int} (h : Cong n m) : roundZ n = roundZ m := round_eq (h.trans (round_cong m).symm) (round_bd m).1 (round_bd m).2
theorem round_self {n : Int} (r0 : -1099511627776 ≤ n) (r1 : n ≤ 1099511627776) : roundZ n = n := round_eq (Cong.refl n) r0 r1
theorem emod_cong (n : Int) : Cong (n % 2199023255553) n := ⟨-(n / 2199023255553), by have := Int.mul_ediv_add_emod n 2199023255553; omega⟩
theorem abs_mul_cong (a b : Int) (s : Bool) (h : s = (decide (a < 0) != decide (b < 0))) : (if s then -((a.natAbs : Int) * (b.natAbs : Int)) else (a.natAbs : Int) * (b.natAbs : Int)) = a * b := by
  subst h
  rcases Int.natAbs_eq a with ha | ha <;> rcases Int.natAbs_eq b with hb | hb
  all_goals
    generalize a.natAbs = x at *
    generalize b.natAbs = y at *
    subst ha hb
    by_cases h1 : x = 0 <;> by_cases h2 : y = 0
    all_goals
      first
        | (subst h1; simp)
        | (subst h2; simp)
        | (have e1 : decide ((x : Int) < 0) = false := decide_eq_false (by omega)
           have e2 : decide ((y : Int) < 0) = false := decide_eq_false (by omega)
           have e3 : decide (-(x : Int) < 0) = true := decide_eq_true (by omega)
           have e4 : decide (-(y : Int) < 0) = true := decide_eq_true (by omega)
           simp only [e1, e2, e3, e4]
           simp [Int.neg_mul, Int.mul_neg])
end Go.Proofs.YtnjgcjgfnjcgdaaDoor
