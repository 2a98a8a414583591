/-
  The walk of the law ValueRoundIsCongruent: it returns true.
-/
import Derived.Test.YtnjgcjgfnjcgdaaDoorSane
import Derived.Test.YtnjgcjgfnjcgdaaDoorLbase
namespace Go.Proofs.YtnjgcjgfnjcgdaaDoor
open Go.RowKit
theorem round_rem (n : Int) : (n.tmod 2199023255553 - roundZ n).tmod 2199023255553 = 0 := by
  obtain ⟨k, h⟩ := round_cong n
  have h2 := Int.mul_tdiv_add_tmod n 2199023255553
  have e : n.tmod 2199023255553 - roundZ n = 2199023255553 * (-(n.tdiv 2199023255553) - k) := by omega
  rw [e, Int.mul_tmod_right]
set_option maxRecDepth 20000 in
set_option maxHeartbeats 3200000 in
theorem lawRound_at (n k r f : Int) (hn0 : I64 n) (hk : -128 ≤ k ∧ k ≤ 127) (w : World) (hg : Good w) (hr : roundZ n = r)
    (hf : f = if -4611686018427387904 < n ∧ n < 4611686018427387904 then n + k * 2199023255553 else n) :
    Calls Tryd.prog 6 #[.int .i64 n, .int .i8 k] w fun e w' => e = .returned (.bool true) ∧ Below w.heap.size w w' := by
  have hn := hn0
  have hr2 : roundZ f = r := by
    rw [hf]
    split
    · rw [← hr]; exact round_congr ⟨k, by omega⟩
    · exact hr
  have hb0 := round_bd n
  rw [hr] at hb0
  have hw1 : IntKind.i64.wrap k = k := wrap_id (by unfold I64; omega)
  have hw2 : IntKind.i64.wrap (k * 2199023255553) = k * 2199023255553 := wrap_id (by unfold I64; omega)
  have hw3 : (-4611686018427387904 < n ∧ n < 4611686018427387904) → IntKind.i64.wrap (n + k * 2199023255553) = n + k * 2199023255553 := fun _ => wrap_id (by unfold I64; omega)
  have ht := tmod_bd n
  have hw4 : IntKind.i64.wrap (n.tmod 2199023255553 - r) = n.tmod 2199023255553 - r := wrap_id (by unfold I64; omega)
  have hz : (n.tmod 2199023255553 - r).tmod 2199023255553 = 0 := by rw [← hr]; exact round_rem n
  have q1 : decide (r < -1099511627776) = false := decide_eq_false (by omega)
  have q2 : decide (1099511627776 < r) = false := decide_eq_false (by omega)
  have hc : (decide (-1099511627776 ≤ n) = false ∨ decide (n ≤ 1099511627776) = false ∧ decide (-1099511627776 ≤ n) = true) ∨ (decide (-1099511627776 ≤ n) = true ∧ decide (n ≤ 1099511627776) = true ∧ (r == n) = true) := by
    by_cases h1 : -1099511627776 ≤ n
    · by_cases h2 : n ≤ 1099511627776
      · exact .inr ⟨decide_eq_true h1, decide_eq_true h2, by rw [← hr, round_self h1 h2]; simp⟩
      · exact .inl (.inr ⟨decide_eq_false h2, decide_eq_true h1⟩)
    · exact .inl (.inl (decide_eq_false h1))
  have hd : (decide (-4611686018427387904 < n) = true ∧ decide (n < 4611686018427387904) = true ∧ IntKind.i64.wrap (n + k * 2199023255553) = f) ∨ ((decide (-4611686018427387904 < n) = false ∨ decide (n < 4611686018427387904) = false ∧ decide (-4611686018427387904 < n) = true) ∧ n = f) := by
    by_cases h1 : -4611686018427387904 < n
    · by_cases h2 : n < 4611686018427387904
      · rw [if_pos ⟨h1, h2⟩] at hf
        exact .inl ⟨decide_eq_true h1, decide_eq_true h2, by rw [hf]; exact hw3 ⟨h1, h2⟩⟩
      · rw [if_neg (fun h => h2 h.2)] at hf
        exact .inr ⟨.inr ⟨decide_eq_false h2, decide_eq_true h1⟩, hf.symm⟩
    · rw [if_neg (fun h => h1 h.1)] at hf
      exact .inr ⟨.inl (decide_eq_false h1), hf.symm⟩
  have HR := Lib.hid (And.intro hr hr2)
  have HG := Lib.hid hg
  clear hb0 hk hn hn0 hf hw3 ht hr hr2 hg
  go_enter Tryd.func6, Tryd.ntmps6
  go_wp2_with fail
  refine (sanity_any _ HG.out).mono ?_
  rintro e w0 ⟨rfl, hb⟩
  have HB0 := Lib.hid hb; clear hb
  go_wp2_with fail
  refine (round_is _ HR.out.1).mono ?_
  rintro e w1 ⟨rfl, rfl⟩
  have hfd : ∀ w : World, (Instr.field 24 (.agg #[.int .i64 1, .int .i64 r, .int .i64 0, .slice none 0 0]) 1).run Tryd.prog w = .ok (.int .i64 r) w := fun w => by kernel_rfl
  rcases hc with (c1 | ⟨c1, c2⟩) | ⟨c1, c2, c3⟩
  all_goals
    rcases hd with ⟨d1, d2, d3⟩ | ⟨d1 | ⟨d1, d2⟩, rfl⟩
    all_goals
      go_wp2_with fail
      refine (round_is _ HR.out.2).mono ?_
      rintro e w1 ⟨rfl, rfl⟩
      go_wp2_with fail
      refine (int_is _ HR.out.1).mono ?_
      rintro e w5 ⟨rfl, hb⟩
      have HB1 := Lib.hid (chain HB0.out hb); clear hb
      go_wp2_with fail
      go_ret
      exact ⟨rfl, HB1.out⟩
theorem lawRound_any (n k : Int) (hn : I64 n) (hk : -128 ≤ k ∧ k ≤ 127) (w : World) (hg : Good w) :
    Calls Tryd.prog 6 #[.int .i64 n, .int .i8 k] w fun e w' => e = .returned (.bool true) ∧ Below w.heap.size w w' :=
  lawRound_at n k _ _ hn hk w hg rfl rfl
end Go.Proofs.YtnjgcjgfnjcgdaaDoor
