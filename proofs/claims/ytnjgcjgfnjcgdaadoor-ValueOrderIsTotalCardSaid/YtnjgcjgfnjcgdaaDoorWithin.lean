/-
  The walks of hallmootref08.within, Right, Small, Shallow and Plain.
-/
import Derived.Test.YtnjgcjgfnjcgdaaDoorCount
import Derived.Test.YtnjgcjgfnjcgdaaDoorWalk
namespace Go.Proofs.YtnjgcjgfnjcgdaaDoor
open Go.RowKit
def withinB : Nat → V → Bool
  | 0, _ => false
  | l + 1, .mk k n m of => ownB k n m of.length && of.all (withinB l)

set_option maxHeartbeats 1600000 in
theorem within_any (l : Nat) : ∀ (left : Int) (d : Nat) (x : Value) (v : V) (w : World), left = l → l ≤ 40 → VAt w d x v →
    Calls Tryd.prog 35 #[x, .int .i64 left] w fun e w' => e = .returned (.bool (withinB l v)) ∧ Below w.heap.size w w' := by
  induction l with
  | zero =>
    intro left d x v w hl hl4 hv
    obtain ⟨k, n, m, of⟩ := v
    obtain ⟨d, a, cap, rfl, rfl, hk, hn, hm, hl2, he⟩ := hv.op
    subst hl
    have HN := Lib.hid hn; clear hn
    have HM := Lib.hid hm; clear hm
    clear he hv
    go_enter Tryd.func35, Tryd.ntmps35
    go_wp2_with fail
    refine (own_any _ _ _ _ _ _ _ hl2 HN.out HM.out).mono ?_
    rintro e w1 ⟨rfl, hb⟩
    have HB := Lib.hid hb; clear hb
    go_wp2_with fail
    go_ret
    exact ⟨ret_bool rfl, ((Below.refl _ _).alloc (Nat.le_refl _) _).trans (HB.out.mono (by simp))⟩
  | succ l ih =>
    intro left d x v w hl hl4 hv
    obtain ⟨k, n, m, of⟩ := v
    obtain ⟨d, a, cap, rfl, rfl, hk, hn, hm, hl2, he⟩ := hv.op
    have hl0 : 1 ≤ left := by omega
    have hl9 : left ≤ 40 := by omega
    have hne : (left == 0) = false := beq_eq_false_iff_ne.2 (by omega)
    have HL := Lib.hid hl; clear hl
    have IH := Lib.hid ih; clear ih
    have HN := Lib.hid hn; clear hn
    have HM := Lib.hid hm; clear hm
    clear hk hv
    cases hown : ownB k n m of.length
    · go_enter Tryd.func35, Tryd.ntmps35
      go_wp2_with fail
      refine (own_any _ _ _ _ _ _ _ hl2 HN.out HM.out).mono ?_
      rintro e w1 ⟨rfl, hb⟩
      have HB := Lib.hid hb; clear hb
      go_wp2_with fail
      go_ret
      exact ⟨ret_bool (by simp [withinB, hown]), ((Below.refl _ _).alloc (Nat.le_refl _) _).trans (HB.out.mono (by simp))⟩
    go_enter Tryd.func35, Tryd.ntmps35
    go_wp2_with fail
    refine (own_any _ _ _ _ _ _ _ hl2 HN.out HM.out).mono ?_
    rintro e w1 ⟨rfl, hb⟩
    have HB0 := Lib.hid hb; clear hb
    have HOWN := Lib.hid hown
    go_wp2_with fail
    clear hown
    go_loopw [6] (fun i wr => ∃ j : Nat, j ≤ of.length ∧ i = .int .i64 j ∧ (of.drop j).all (withinB l) = of.all (withinB l) ∧
      Below (w.heap.size + 1) (w.alloc (.cells #[.int .i64 k, .int .i64 n, .int .i64 m, .slice a of.length cap] 24)) wr) (fun i _ => of.length - (intOf i).toNat)
    case atStart => exact ⟨0, Nat.zero_le _, rfl, by simp, HB0.out.mono (by simp)⟩
    case round =>
      obtain ⟨j, hj, rfl, hall, hb⟩ := hrel
      have HA := Lib.hid hall; clear hall
      have hs3 : wr.cell? ⟨w.heap.size, 3, none⟩ = some (.slice a of.length cap) := by
        rw [hb.cell (by simp)]; simp
      have hb0 : Below w.heap.size w wr := ((Below.refl _ _).alloc (Nat.le_refl _) _).trans (hb.mono (by omega))
      have HB := Lib.hid hb; clear hb
      have HBW := Lib.hid hb0; clear hb0
      clear HB0
      by_cases hlt : j < of.length
      · obtain ⟨v, hv⟩ := get_of_lt hlt
        obtain ⟨b, off, k', n', m', of', a', cap', rfl, rfl, h0, h1, h2, h3, hvv⟩ := (he.below HBW.out).get hv
        have HV := Lib.hid hv; clear hv
        have HVV := Lib.hid hvv; clear hvv
        cases hval : withinB l (.mk k' n' m' of')
        · have HVAL := Lib.hid hval
          go_wp2_with fail
          refine (IH.out (left - 1) _ _ _ _ (by have := HL.out; omega) (by omega) HVV.out).mono ?_
          rintro e w2 ⟨rfl, hb1⟩
          have HB1 := Lib.hid hb1; clear hb1
          go_wp2_with fail
          go_ret
          exact ⟨ret_bool (by rw [withinB, ← HA.out, all_drop _ _ _ _ HV.out, HVAL.out]; simp), HBW.out.trans (HB1.out.mono HBW.out.size)⟩
        · have HVAL := Lib.hid hval
          go_wp2_with fail
          refine (IH.out (left - 1) _ _ _ _ (by have := HL.out; omega) (by omega) HVV.out).mono ?_
          rintro e w2 ⟨rfl, hb1⟩
          have HB1 := Lib.hid hb1; clear hb1
          go_wp2_with fail
          go_roundw
          case rel => exact ⟨j + 1, by omega, by go_num, by rw [← HA.out, all_drop _ _ _ _ HV.out, HVAL.out]; simp, HB.out.trans (HB1.out.mono (by have := HB.out.size; simpa using this))⟩
          case measure => simp [intOf]; omega
      · have : j = of.length := by omega
        subst this
        go_wp2_with fail
        go_ret
        exact ⟨ret_bool (by rw [withinB, HOWN.out, ← HA.out]; simp), HBW.out⟩

theorem refRight_any (d : Nat) (x : Value) (v : V) (w : World) (hv : VAt w d x v) :
    Calls Tryd.prog 15 #[x] w fun e w' => e = .returned (.bool (withinB 40 v)) ∧ Below w.heap.size w w' := by
  obtain ⟨k, n, m, of⟩ := v
  obtain ⟨d, a, cap, rfl, rfl, hk, hn, hm, hl2, he⟩ := hv.op
  clear he hk hn hm
  go_enter Tryd.func15, Tryd.ntmps15
  go_wp2_with fail
  refine (within_any 40 _ _ _ _ _ rfl (Nat.le_refl _) (hv.below ((Below.refl _ _).alloc (Nat.le_refl _) _))).mono ?_
  rintro e w1 ⟨rfl, hb⟩
  have HB := Lib.hid hb; clear hb
  go_wp2_with fail
  go_ret
  exact ⟨ret_bool rfl, ((Below.refl _ _).alloc (Nat.le_refl _) _).trans (HB.out.mono (by simp))⟩

def smallB (l : Nat) (v : V) : Bool := decide (cnt 60 l v ≤ 60)
theorem small_any (d : Nat) (x : Value) (v : V) (w : World) (hv : VAt w d x v) :
    Calls Tryd.prog 11 #[x] w fun e w' => e = .returned (.bool (smallB 40 v)) ∧ Below w.heap.size w w' := by
  obtain ⟨k, n, m, of⟩ := v
  obtain ⟨d, a, cap, rfl, rfl, hk, hn, hm, hl2, he⟩ := hv.op
  clear he hk hn hm
  go_enter Tryd.func11, Tryd.ntmps11
  go_wp2_with fail
  refine (count_any 40 _ _ _ _ _ rfl (Nat.le_refl _) (hv.below ((Below.refl _ _).alloc (Nat.le_refl _) _))).mono ?_
  rintro e w1 ⟨rfl, hb⟩
  have HB := Lib.hid hb; clear hb
  go_wp2_with fail
  go_ret
  exact ⟨ret_bool rfl, ((Below.refl _ _).alloc (Nat.le_refl _) _).trans (HB.out.mono (by simp))⟩
theorem shallow_any (d : Nat) (x : Value) (v : V) (w : World) (hv : VAt w d x v) :
    Calls Tryd.prog 31 #[x] w fun e w' => e = .returned (.bool (smallB 39 v)) ∧ Below w.heap.size w w' := by
  obtain ⟨k, n, m, of⟩ := v
  obtain ⟨d, a, cap, rfl, rfl, hk, hn, hm, hl2, he⟩ := hv.op
  clear he hk hn hm
  go_enter Tryd.func31, Tryd.ntmps31
  go_wp2_with fail
  refine (count_any 39 _ _ _ _ _ rfl (by omega) (hv.below ((Below.refl _ _).alloc (Nat.le_refl _) _))).mono ?_
  rintro e w1 ⟨rfl, hb⟩
  have HB := Lib.hid hb; clear hb
  go_wp2_with fail
  go_ret
  exact ⟨ret_bool rfl, ((Below.refl _ _).alloc (Nat.le_refl _) _).trans (HB.out.mono (by simp))⟩
end Go.Proofs.YtnjgcjgfnjcgdaaDoor
