/-
  The walk of hallmootref08.count.
-/
import Derived.Test.YtnjgcjgfnjcgdaaDoorBase
namespace Go.Proofs.YtnjgcjgfnjcgdaaDoor
open Go.RowKit
set_option maxHeartbeats 800000 in
theorem count_any (l : Nat) : ∀ (left : Int) (d : Nat) (x : Value) (v : V) (w : World), left = l → l ≤ 40 → VAt w d x v →
    Calls Tryd.prog 32 #[x, .int .i64 left, .int .i64 60] w fun e w' => e = .returned (.int .i64 (cnt 60 l v)) ∧ Below w.heap.size w w' := by
  induction l with
  | zero =>
    intro left d x v w hl hl4 hv
    obtain ⟨k, n, m, of⟩ := v
    obtain ⟨d, a, cap, rfl, rfl, hk, hn, hm, hl2, he⟩ := hv.op
    clear hv
    subst hl
    clear he
    go_enter Tryd.func32, Tryd.ntmps32
    go_wp2_with fail
    go_ret
    exact ⟨ret_int (by simp [cnt]), (Below.refl _ _).alloc (Nat.le_refl _) _⟩
  | succ l ih =>
    intro left d x v w hl hl4 hv
    obtain ⟨k, n, m, of⟩ := v
    obtain ⟨d, a, cap, rfl, rfl, hk, hn, hm, hl2, he⟩ := hv.op
    clear hv
    have hl0 : 1 ≤ left := by omega
    have hl9 : left ≤ 40 := by omega
    have hne : (left == 0) = false := beq_eq_false_iff_ne.2 (by omega)
    have HL := Lib.hid hl; clear hl
    have IH := Lib.hid ih; clear ih
    go_enter Tryd.func32, Tryd.ntmps32
    go_wp2_with fail
    go_loopw [7, 8] (fun nn i wr => ∃ (j : Nat) (c : Int), j ≤ of.length ∧ i = .int .i64 j ∧ nn = .int .i64 c ∧ 0 ≤ c ∧ c ≤ 100000 ∧ cntList (cnt 60 l) 60 (of.drop j) c = cntList (cnt 60 l) 60 of 1 ∧
       Below (w.heap.size + 1) (w.alloc (.cells #[.int .i64 k, .int .i64 n, .int .i64 m, .slice a of.length cap] 24)) wr) (fun _ i _ => of.length - (intOf i).toNat)
    case atStart => exact ⟨0, 1, Nat.zero_le _, rfl, rfl, by omega, by omega, by simp, Below.refl _ _⟩
    case round =>
      obtain ⟨j, c, hj, rfl, rfl, hc0, hc1, hcnt, hb⟩ := hrel
      have HC := Lib.hid hcnt; clear hcnt
      have hs3 : wr.cell? ⟨w.heap.size, 3, none⟩ = some (.slice a of.length cap) := by
        rw [hb.cell (by simp)]; simp
      have hb0 : Below w.heap.size w wr := ((Below.refl _ _).alloc (Nat.le_refl _) _).trans (hb.mono (by omega))
      have HB := Lib.hid hb; clear hb
      have HB0 := Lib.hid hb0; clear hb0
      by_cases hlt : j < of.length
      · by_cases hc : c ≤ 60
        · obtain ⟨v, hv⟩ := get_of_lt hlt
          obtain ⟨b, off, k', n', m', of', a', cap', rfl, rfl, h0, h1, h2, h3, hvv⟩ := (he.below HB0.out).get hv
          have hbd := cnt_bd l (.mk k' n' m' of')
          have HV := Lib.hid hv; clear hv
          have HVV := Lib.hid hvv; clear hvv
          go_wp2_with fail
          refine (IH.out _ _ _ _ _ (by have := HL.out; omega) (by omega) HVV.out).mono ?_
          rintro e w1 ⟨rfl, hb1⟩
          have HB1 := Lib.hid hb1; clear hb1
          go_wp2_with fail
          go_roundw
          case rel => exact ⟨j + 1, _, by omega, by go_num, rfl, by omega, by omega, by rw [← HC.out, cntList_drop _ _ _ _ _ HV.out, if_pos hc], HB.out.trans (HB1.out.mono (by have := HB.out.size; simpa using this))⟩
          case measure => simp [intOf]; omega
        · have hlt' : (j : Int) < of.length := by omega
          go_wp2_with fail
          go_ret
          obtain ⟨v, hv⟩ := get_of_lt hlt
          exact ⟨ret_int (by rw [cnt, ← HC.out, cntList_drop _ _ _ _ _ hv, if_neg (by omega)]), HB0.out⟩
      · have : j = of.length := by omega
        subst this
        go_wp2_with fail
        go_ret
        exact ⟨ret_int (by rw [cnt, ← HC.out]; simp [cntList]), HB0.out⟩
end Go.Proofs.YtnjgcjgfnjcgdaaDoor
