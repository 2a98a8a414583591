/-
  The walk of value.walk: it returns at a valid value and panics at every other.
-/
import Derived.Test.YtnjgcjgfnjcgdaaDoorOwn
namespace Go.Proofs.YtnjgcjgfnjcgdaaDoor
open Go.RowKit
def okB (k n m : Int) (len : Nat) : Bool := manyIs k && decide (manyLo k ≤ len) && decide ((len : Int) ≤ manyHi k) && numB k n m
def validP : Nat → V → Bool
  | 0, _ => false
  | l + 1, .mk k n m of => okB k n m of.length && of.all (validP l)
def deepPanic : List PanicEntry := [{ v := .iface 53 (.agg #[]), recovered := false }]
def walkEnd : Bool → Ending
  | true => .returned (.tuple #[])
  | false => .panicked deepPanic
theorem walkEnd_yes {b : Bool} (h : b = true) : walkEnd b = .returned (.tuple #[]) := by rw [h]; rfl
theorem walkEnd_no {b : Bool} (h : b = false) : walkEnd b = .panicked [{ v := .iface 53 (.agg #[]), recovered := false }] := by rw [h]; rfl
theorem all_drop (f : V → Bool) (l : List V) (i : Nat) (v : V) (hi : l[i]? = some v) : (l.drop i).all f = (f v && (l.drop (i + 1)).all f) := by
  have hlt : i < l.length := (List.getElem?_eq_some_iff.1 hi).1
  have : l[i] = v := (List.getElem?_eq_some_iff.1 hi).2
  rw [List.drop_eq_getElem_cons hlt, this, List.all_cons]

set_option maxHeartbeats 1600000 in
theorem walk_any (l : Nat) : ∀ (left : Int) (d : Nat) (x : Value) (v : V) (w : World), left = l → l ≤ 40 → VAt w d x v →
    Calls Tryd.prog 34 #[x, .int .i64 left] w fun e w' => e = walkEnd (validP l v) ∧ Below w.heap.size w w' := by
  induction l with
  | zero =>
    intro left d x v w hl hl4 hv
    obtain ⟨k, n, m, of⟩ := v
    obtain ⟨d, a, cap, rfl, rfl, hk, hn, hm, hl2, he⟩ := hv.op
    subst hl
    clear he
    go_enter Tryd.func34, Tryd.ntmps34
    go_wp2_with fail
    refine (many_any _ _).mono ?_
    rintro e w1 ⟨rfl, rfl⟩
    go_wp2_with fail
    exact ⟨rfl, (walkEnd_no rfl).symm, (Below.refl _ _).alloc (Nat.le_refl _) _⟩
  | succ l ih =>
    intro left d x v w hl hl4 hv
    obtain ⟨k, n, m, of⟩ := v
    obtain ⟨d, a, cap, rfl, rfl, hk, hn, hm, hl2, he⟩ := hv.op
    have hl0 : 1 ≤ left := by omega
    have hl9 : left ≤ 40 := by omega
    have hne : (left == 0) = false := beq_eq_false_iff_ne.2 (by omega)
    have HL := Lib.hid hl; clear hl
    clear hv
    have IH := Lib.hid ih; clear ih
    have HN := Lib.hid hn; clear hn
    have HM := Lib.hid hm; clear hm
    clear hk
    cases his : manyIs k
    · go_enter Tryd.func34, Tryd.ntmps34
      go_wp2_with fail
      refine (many_any _ _).mono ?_
      rintro e w1 ⟨rfl, rfl⟩
      go_wp2_with fail
      exact ⟨rfl, (walkEnd_no (by simp [validP, okB, his])).symm, (Below.refl _ _).alloc (Nat.le_refl _) _⟩
    by_cases hlo : (of.length : Int) < manyLo k
    · go_enter Tryd.func34, Tryd.ntmps34
      go_wp2_with fail
      refine (many_any _ _).mono ?_
      rintro e w1 ⟨rfl, rfl⟩
      go_wp2_with fail
      exact ⟨rfl, (walkEnd_no (by simp [validP, okB, show ¬ manyLo k ≤ of.length by omega])).symm, (Below.refl _ _).alloc (Nat.le_refl _) _⟩
    have hlo' : decide ((of.length : Int) < manyLo k) = false := decide_eq_false hlo
    by_cases hhi : manyHi k < (of.length : Int)
    · go_enter Tryd.func34, Tryd.ntmps34
      go_wp2_with fail
      refine (many_any _ _).mono ?_
      rintro e w1 ⟨rfl, rfl⟩
      go_wp2_with fail
      exact ⟨rfl, (walkEnd_no (by simp [validP, okB, show ¬ (of.length : Int) ≤ manyHi k by omega])).symm, (Below.refl _ _).alloc (Nat.le_refl _) _⟩
    have hhi' : decide (manyHi k < (of.length : Int)) = false := decide_eq_false hhi
    cases hnum : numB k n m
    · go_enter Tryd.func34, Tryd.ntmps34
      go_wp2_with fail
      refine (many_any _ _).mono ?_
      rintro e w1 ⟨rfl, rfl⟩
      go_wp2_with fail
      refine (number_any _ ⟨_, _, _, rfl⟩ _ _ _ _ HN.out HM.out).mono ?_
      rintro e w1 ⟨rfl, hb⟩
      have HB := Lib.hid hb; clear hb
      go_wp2_with fail
      exact ⟨rfl, (walkEnd_no (by simp [validP, okB, hnum])).symm, ((Below.refl _ _).alloc (Nat.le_refl _) _).trans (HB.out.mono (by simp))⟩
    have hok : okB k n m of.length = true := by simp [okB, his, hnum]; omega
    have HOK := Lib.hid hok; clear hok
    go_enter Tryd.func34, Tryd.ntmps34
    go_wp2_with fail
    refine (many_any _ _).mono ?_
    rintro e w1 ⟨rfl, rfl⟩
    go_wp2_with fail
    refine (number_any _ ⟨_, _, _, rfl⟩ _ _ _ _ HN.out HM.out).mono ?_
    rintro e w1 ⟨rfl, hb⟩
    have hs3 : w1.cell? ⟨w.heap.size, 3, none⟩ = some (.slice a of.length cap) := by
      rw [hb.cell (by simp)]; simp
    have hb0 : Below w.heap.size w w1 := ((Below.refl _ _).alloc (Nat.le_refl _) _).trans (hb.mono (by simp))
    have HB0 := Lib.hid hb0; clear hb0
    clear hb
    go_wp2_with fail
    go_loopw [46] (fun i wr => ∃ j : Nat, j ≤ of.length ∧ i = .int .i64 j ∧ (of.drop j).all (validP l) = of.all (validP l) ∧ Below w.heap.size w wr) (fun i _ => of.length - (intOf i).toNat)
    case atStart => exact ⟨0, Nat.zero_le _, rfl, by simp, HB0.out⟩
    case round =>
      obtain ⟨j, hj, rfl, hall, hb0⟩ := hrel
      have HA := Lib.hid hall; clear hall
      have HB := Lib.hid hb0; clear hb0
      clear HB0
      by_cases hlt : j < of.length
      · obtain ⟨v, hv⟩ := get_of_lt hlt
        obtain ⟨b, off, k', n', m', of', a', cap', rfl, rfl, h0, h1, h2, h3, hvv⟩ := (he.below HB.out).get hv
        have HV := Lib.hid hv; clear hv
        have HVV := Lib.hid hvv; clear hvv
        cases hval : validP l (.mk k' n' m' of')
        · have HVAL := Lib.hid hval; clear hval
          go_wp2_with fail
          refine (IH.out (left - 1) _ _ _ _ (by have := HL.out; omega) (by omega) (HVV.out.below ((Below.refl _ _).alloc (Nat.le_refl _) _))).mono ?_
          rintro e w2 ⟨he, hb1⟩
          rw [walkEnd_no HVAL.out] at he
          subst he
          exact ⟨rfl, (walkEnd_no (by rw [validP, ← HA.out, all_drop _ _ _ _ HV.out, HVAL.out]; simp)).symm, (HB.out.alloc HB.out.size _).trans (hb1.mono (by have := HB.out.size; simp; omega))⟩
        · have HVAL := Lib.hid hval; clear hval
          go_wp2_with fail
          refine (IH.out (left - 1) _ _ _ _ (by have := HL.out; omega) (by omega) (HVV.out.below ((Below.refl _ _).alloc (Nat.le_refl _) _))).mono ?_
          rintro e w2 ⟨he, hb1⟩
          rw [walkEnd_yes HVAL.out] at he
          subst he
          have HB1 := Lib.hid hb1; clear hb1
          go_wp2_with fail
          go_roundw
          case rel => exact ⟨j + 1, by omega, by go_num, by rw [← HA.out, all_drop _ _ _ _ HV.out, HVAL.out]; simp, (HB.out.alloc HB.out.size _).trans (HB1.out.mono (by have := HB.out.size; simp; omega))⟩
          case measure => simp [intOf]; omega
      · have : j = of.length := by omega
        subst this
        go_wp2_with fail
        go_end0
        exact ⟨(walkEnd_yes (by rw [validP, HOK.out, ← HA.out]; simp)).symm, HB.out⟩
end Go.Proofs.YtnjgcjgfnjcgdaaDoor
