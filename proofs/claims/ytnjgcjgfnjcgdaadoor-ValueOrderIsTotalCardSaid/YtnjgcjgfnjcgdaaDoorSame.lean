/-
  The walks of hallmootref08.same, Same, value.Same, slices.EqualFunc and hallmootref08.Plain.
-/
import Derived.Test.YtnjgcjgfnjcgdaaDoorLater
import Derived.Test.YtnjgcjgfnjcgdaaDoorWithin
namespace Go.Proofs.YtnjgcjgfnjcgdaaDoor
open Go.RowKit
def sameL (f : V → V → Bool) : List V → List V → Bool
  | [], [] => true
  | x :: xs, y :: ys => f x y && sameL f xs ys
  | _, _ => false
def sameB : Nat → V → V → Bool
  | 0, _, _ => false
  | l + 1, .mk k n m of, .mk k' n' m' of' => decide (k = k') && decide (n = n') && decide (m = m') && sameL (sameB l) of of'
theorem sameL_len {f : V → V → Bool} : ∀ {l r : List V}, l.length ≠ r.length → sameL f l r = false
  | [], [], h => absurd rfl h
  | [], _ :: _, _ => rfl
  | _ :: _, [], _ => rfl
  | x :: xs, y :: ys, h => by
    have := sameL_len (f := f) (l := xs) (r := ys) (by simpa using h)
    simp [sameL, this]
theorem sameL_drop (f : V → V → Bool) (l r : List V) (i : Nat) (v u : V) (hv : l[i]? = some v) (hu : r[i]? = some u) : sameL f (l.drop i) (r.drop i) = (f v u && sameL f (l.drop (i + 1)) (r.drop (i + 1))) := by
  have h1 : i < l.length := (List.getElem?_eq_some_iff.1 hv).1
  have h2 : i < r.length := (List.getElem?_eq_some_iff.1 hu).1
  have e1 : l[i] = v := (List.getElem?_eq_some_iff.1 hv).2
  have e2 : r[i] = u := (List.getElem?_eq_some_iff.1 hu).2
  rw [List.drop_eq_getElem_cons h1, List.drop_eq_getElem_cons h2, e1, e2, sameL]

theorem sameL_end {f : V → V → Bool} {l r : List V} (h : l.length = r.length) : sameL f (l.drop l.length) (r.drop l.length) = true := by
  have h1 : r.drop l.length = [] := by rw [h]; simp
  have h2 : l.drop l.length = [] := by simp
  rw [h1, h2]; rfl

set_option maxHeartbeats 1600000 in
theorem refSame_l (l : Nat) : ∀ (left : Int) (d d' : Nat) (x y : Value) (v u : V) (w : World), left = l → l ≤ 50 → VAt w d x v → VAt w d' y u →
    Calls Tryd.prog 37 #[x, y, .int .i64 left] w fun e w' => e = .returned (.bool (sameB l v u)) ∧ Below w.heap.size w w' := by
  induction l with
  | zero =>
    intro left d d' x y v u w hl hl4 hv hu
    obtain ⟨k, n, m, of⟩ := v
    obtain ⟨d, a, cap, rfl, rfl, hk, hn, hm, hl2, he⟩ := hv.op
    obtain ⟨k', n', m', of'⟩ := u
    obtain ⟨d', a', cap', rfl, rfl, hk', hn', hm', hl2', he'⟩ := hu.op
    subst hl
    clear he hv he' hu hk hn hm hk' hn' hm'
    go_enter Tryd.func37, Tryd.ntmps37
    go_wp2_with fail
    all_goals
      go_ret
      exact ⟨ret_bool rfl, ((Below.refl _ _).alloc (Nat.le_refl _) _).alloc (by simp) _⟩
  | succ l ih =>
    intro left d d' x y v u w hl hl4 hv hu
    obtain ⟨k, n, m, of⟩ := v
    obtain ⟨d, a, cap, rfl, rfl, hk, hn, hm, hl2, he⟩ := hv.op
    obtain ⟨k', n', m', of'⟩ := u
    obtain ⟨d', a', cap', rfl, rfl, hk', hn', hm', hl2', he'⟩ := hu.op
    have hl0 : 1 ≤ left := by omega
    have hl9 : left ≤ 50 := by omega
    have hne : (left == 0) = false := beq_eq_false_iff_ne.2 (by omega)
    have HL := Lib.hid hl; clear hl
    have IH := Lib.hid ih; clear ih
    clear hk hn hm hk' hn' hm' hv hu
    by_cases ek : k = k'
    case neg =>
      have hb : (k != k') = true := by simpa using ek
      go_enter Tryd.func37, Tryd.ntmps37
      go_wp2_with fail
      go_ret
      exact ⟨ret_bool (by simp [sameB, ek]), ((Below.refl _ _).alloc (Nat.le_refl _) _).alloc (by simp) _⟩
    subst ek
    by_cases en : n = n'
    case neg =>
      have hb : (n != n') = true := by simpa using en
      go_enter Tryd.func37, Tryd.ntmps37
      go_wp2_with fail
      go_ret
      exact ⟨ret_bool (by simp [sameB, en]), ((Below.refl _ _).alloc (Nat.le_refl _) _).alloc (by simp) _⟩
    subst en
    by_cases em : m = m'
    case neg =>
      have hb : (m != m') = true := by simpa using em
      go_enter Tryd.func37, Tryd.ntmps37
      go_wp2_with fail
      go_ret
      exact ⟨ret_bool (by simp [sameB, em]), ((Below.refl _ _).alloc (Nat.le_refl _) _).alloc (by simp) _⟩
    subst em
    by_cases el : of.length = of'.length
    case neg =>
      have hb : ((of.length : Int) != (of'.length : Int)) = true := by simpa using (show ¬ (of.length : Int) = (of'.length : Int) by omega)
      go_enter Tryd.func37, Tryd.ntmps37
      go_wp2_with fail
      go_ret
      exact ⟨ret_bool (by simp [sameB, sameL_len el]), ((Below.refl _ _).alloc (Nat.le_refl _) _).alloc (by simp) _⟩
    have hb : ((of.length : Int) != (of'.length : Int)) = false := by simpa using (show (of.length : Int) = (of'.length : Int) by omega)
    have EL := Lib.hid el; clear el
    go_enter Tryd.func37, Tryd.ntmps37
    go_wp2_with fail
    clear hb
    go_loopw [7] (fun i wr => ∃ j : Nat, j ≤ of.length ∧ i = .int .i64 j ∧ sameL (sameB l) (of.drop j) (of'.drop j) = sameL (sameB l) of of' ∧
      Below (w.heap.size + 2) ((w.alloc (.cells #[.int .i64 k, .int .i64 n, .int .i64 m, .slice a of.length cap] 24)).alloc (.cells #[.int .i64 k, .int .i64 n, .int .i64 m, .slice a' of'.length cap'] 24)) wr) (fun i _ => of.length - (intOf i).toNat)
    case atStart => exact ⟨0, Nat.zero_le _, rfl, by simp, Below.refl _ _⟩
    case round =>
      obtain ⟨j, hj, rfl, hall, hb⟩ := hrel
      have HA := Lib.hid hall; clear hall
      have hs3 : wr.cell? ⟨w.heap.size, 3, none⟩ = some (.slice a of.length cap) := by
        rw [hb.cell (by simp)]; rw [World.cell?_alloc_lt _ _ _ (by simp)]; simp
      have hs4 : wr.cell? ⟨w.heap.size + 1, 3, none⟩ = some (.slice a' of'.length cap') := by
        rw [hb.cell (by simp)]
        simp
      have hb0 : Below w.heap.size w wr := (((Below.refl _ _).alloc (Nat.le_refl _) _).alloc (by simp) _).trans (hb.mono (by omega))
      have HB := Lib.hid hb; clear hb
      have HBW := Lib.hid hb0; clear hb0
      by_cases hlt : j < of.length
      · have hlt2 : j < of'.length := by have := EL.out; omega
        obtain ⟨v, hv⟩ := get_of_lt hlt
        obtain ⟨u, hu⟩ := get_of_lt hlt2
        obtain ⟨b, off, k1, n1, m1, of1, a1, cap1, rfl, rfl, h0, h1, h2, h3, hvv⟩ := (he.below HBW.out).get hv
        obtain ⟨b', off', k2, n2, m2, of2, a2, cap2, rfl, rfl, g0, g1, g2, g3, huu⟩ := (he'.below HBW.out).get hu
        have HV := Lib.hid hv; clear hv
        have HVV := Lib.hid hvv; clear hvv
        have HU := Lib.hid hu; clear hu
        have HUU := Lib.hid huu; clear huu
        have hjI : (j : Int) < of.length := by omega
        have hjI2 : (j : Int) < of'.length := by omega
        have HJ2 := Lib.hid hjI2; clear hjI2
        cases hval : sameB l (.mk k1 n1 m1 of1) (.mk k2 n2 m2 of2)
        · have HVAL := Lib.hid hval; clear hval
          go_wp2_with fail
          have l3 := later_cell hs3
          have l4 := later_cell hs4
          have i0 := later_cell h0
          have i1 := later_cell h1
          have i2 := later_cell h2
          have i3 := later_cell h3
          have j0 := later_cell g0
          have j1 := later_cell g1
          have j2 := later_cell g2
          have j3 := later_cell g3
          have hjI2 := HJ2.out
          clear h0 h1 h2 h3 g0 g1 g2 g3 hs3 hs4
          refine wp_region_later (by kernel_rfl) (by kernel_rfl) ?_
          repeat (go_big_quiet_step (refine calls_later (IH.out (left - 1) _ _ _ _ _ _ _ (by have := HL.out; omega) (by omega) (HVV.out.later _) (HUU.out.later _))))
          refine wpQuiet_nil ?_
          rintro _ ⟨t, rfl⟩
          have HT := Lib.hid t.below
          clear l3 l4 i0 i1 i2 i3 j0 j1 j2 j3
          rw [HVAL.out]
          go_wp2_with fail
          go_ret
          exact ⟨ret_bool (by simp [sameB, ← HA.out, sameL_drop _ _ _ _ _ _ HV.out HU.out, HVAL.out]), HBW.out.trans (HT.out.mono HBW.out.size)⟩
        · have HVAL := Lib.hid hval; clear hval
          go_wp2_with fail
          have l3 := later_cell hs3
          have l4 := later_cell hs4
          have i0 := later_cell h0
          have i1 := later_cell h1
          have i2 := later_cell h2
          have i3 := later_cell h3
          have j0 := later_cell g0
          have j1 := later_cell g1
          have j2 := later_cell g2
          have j3 := later_cell g3
          have hjI2 := HJ2.out
          clear h0 h1 h2 h3 g0 g1 g2 g3 hs3 hs4
          refine wp_region_later (by kernel_rfl) (by kernel_rfl) ?_
          repeat (go_big_quiet_step (refine calls_later (IH.out (left - 1) _ _ _ _ _ _ _ (by have := HL.out; omega) (by omega) (HVV.out.later _) (HUU.out.later _))))
          refine wpQuiet_nil ?_
          rintro _ ⟨t, rfl⟩
          have HT := Lib.hid t.below
          clear l3 l4 i0 i1 i2 i3 j0 j1 j2 j3 hjI2
          rw [HVAL.out]
          go_wp2_with fail
          go_roundw
          case rel => exact ⟨j + 1, by omega, by go_num, by rw [← HA.out, sameL_drop _ _ _ _ _ _ HV.out HU.out, HVAL.out]; simp, HB.out.trans (HT.out.mono (by have := HB.out.size; simpa using this))⟩
          case measure => simp [intOf]; omega
      · have : j = of.length := by omega
        subst this
        go_wp2_with fail
        go_ret
        exact ⟨ret_bool (by have h := HA.out; rw [sameL_end EL.out] at h; simp [sameB, ← h]), HBW.out⟩

theorem refSame_any (d d' : Nat) (x y : Value) (v u : V) (w : World) (hv : VAt w d x v) (hu : VAt w d' y u) :
    Calls Tryd.prog 17 #[x, y] w fun e w' => e = .returned (.bool (sameB 50 v u)) ∧ Below w.heap.size w w' := by
  obtain ⟨k, n, m, of⟩ := v
  obtain ⟨d, a, cap, rfl, rfl, hk, hn, hm, hl2, he⟩ := hv.op
  obtain ⟨k', n', m', of'⟩ := u
  obtain ⟨d', a', cap', rfl, rfl, hk', hn', hm', hl2', he'⟩ := hu.op
  clear he hk hn hm he' hk' hn' hm'
  have hbb : Below w.heap.size w ((w.alloc (.cells #[.int .i64 k, .int .i64 n, .int .i64 m, .slice a of.length cap] 24)).alloc (.cells #[.int .i64 k', .int .i64 n', .int .i64 m', .slice a' of'.length cap'] 24)) :=
    ((Below.refl _ _).alloc (Nat.le_refl _) _).alloc (by simp) _
  have HBB := Lib.hid hbb; clear hbb
  go_enter Tryd.func17, Tryd.ntmps17
  go_wp2_with fail
  refine (refSame_l 50 _ _ _ _ _ _ _ _ rfl (Nat.le_refl _) (hv.below HBB.out) (hu.below HBB.out)).mono ?_
  rintro e w1 ⟨rfl, hb⟩
  have HB := Lib.hid hb; clear hb
  go_wp2_with fail
  go_ret
  exact ⟨ret_bool rfl, HBB.out.trans (HB.out.mono (by have := HBB.out.size; simpa using this))⟩

/-- What value.Same returns, for values at most d deep. -/
def SameSaid (d : Nat) : Prop := ∀ (d' : Nat) (x y : Value) (v u : V) (w : World), VAt w d x v → VAt w d' y u →
    Calls Tryd.prog 16 #[x, y] w fun e w' => e = .returned (.bool (sameB d v u)) ∧ Below w.heap.size w w'

set_option maxHeartbeats 1600000 in
theorem equalFunc_any (d : Nat) (ih : SameSaid d) (d' : Nat) (a a' : Option Addr) (cap cap' : Nat) (of of' : List V) (w : World) (hl2 : of.length ≤ 4611686018427387904) (_hl2' : of'.length ≤ 4611686018427387904) (he : ElAt w d a of) (he' : ElAt w d' a' of') :
    Calls Tryd.prog 36 #[.slice a of.length cap, .slice a' of'.length cap', .func (.func 16) #[] #[]] w fun e w' => e = .returned (.bool (sameL (sameB d) of of')) ∧ Below w.heap.size w w' := by
  by_cases el : of.length = of'.length
  case neg =>
    have hb : ((of.length : Int) != (of'.length : Int)) = true := by simpa using (show ¬ (of.length : Int) = (of'.length : Int) by omega)
    go_enter Tryd.func36, Tryd.ntmps36
    go_wp2_with fail
    go_ret
    exact ⟨ret_bool (by rw [sameL_len el]), Below.refl _ _⟩
  have hb : ((of.length : Int) != (of'.length : Int)) = false := by simpa using (show (of.length : Int) = (of'.length : Int) by omega)
  have EL := Lib.hid el; clear el
  go_enter Tryd.func36, Tryd.ntmps36
  go_wp2_with fail
  clear hb
  go_loopw [17] (fun i wr => ∃ j : Nat, j ≤ of.length ∧ i = .int .i64 j ∧ sameL (sameB d) (of.drop j) (of'.drop j) = sameL (sameB d) of of' ∧ Below w.heap.size w wr) (fun i _ => of.length - (intOf i).toNat)
  case atStart => exact ⟨0, Nat.zero_le _, rfl, by simp, Below.refl _ _⟩
  case round =>
    obtain ⟨j, hj, rfl, hall, hb⟩ := hrel
    have HA := Lib.hid hall; clear hall
    have HBW := Lib.hid hb; clear hb
    by_cases hlt : j < of.length
    · have hlt2 : j < of'.length := by have := EL.out; omega
      obtain ⟨v, hv⟩ := get_of_lt hlt
      obtain ⟨u, hu⟩ := get_of_lt hlt2
      obtain ⟨b, off, k1, n1, m1, of1, a1, cap1, rfl, rfl, h0, h1, h2, h3, hvv⟩ := (he.below HBW.out).get hv
      obtain ⟨b', off', k2, n2, m2, of2, a2, cap2, rfl, rfl, g0, g1, g2, g3, huu⟩ := (he'.below HBW.out).get hu
      have HV := Lib.hid hv; clear hv
      have HVV := Lib.hid hvv; clear hvv
      have HU := Lib.hid hu; clear hu
      have HUU := Lib.hid huu; clear huu
      have hjI : (j : Int) < of.length := by omega
      have hjI2 : (j : Int) < of'.length := by omega
      have lg0 : (wr.alloc (.cells #[.int .i64 k1, .int .i64 n1, .int .i64 m1, .slice a1 of1.length cap1] 24)).cell? ⟨b', off' + j * 4, none⟩ = some (.int .i64 k2) := by rw [World.cell?_alloc_lt _ _ _ (World.block_lt_of_cell? _ _ g0)]; exact g0
      have lg1 : (wr.alloc (.cells #[.int .i64 k1, .int .i64 n1, .int .i64 m1, .slice a1 of1.length cap1] 24)).cell? ⟨b', off' + j * 4 + 1, none⟩ = some (.int .i64 n2) := by rw [World.cell?_alloc_lt _ _ _ (World.block_lt_of_cell? _ _ g1)]; exact g1
      have lg2 : (wr.alloc (.cells #[.int .i64 k1, .int .i64 n1, .int .i64 m1, .slice a1 of1.length cap1] 24)).cell? ⟨b', off' + j * 4 + 2, none⟩ = some (.int .i64 m2) := by rw [World.cell?_alloc_lt _ _ _ (World.block_lt_of_cell? _ _ g2)]; exact g2
      have lg3 : (wr.alloc (.cells #[.int .i64 k1, .int .i64 n1, .int .i64 m1, .slice a1 of1.length cap1] 24)).cell? ⟨b', off' + j * 4 + 3, none⟩ = some (.slice a2 of2.length cap2) := by rw [World.cell?_alloc_lt _ _ _ (World.block_lt_of_cell? _ _ g3)]; exact g3
      have hbb : Below wr.heap.size wr ((wr.alloc (.cells #[.int .i64 k1, .int .i64 n1, .int .i64 m1, .slice a1 of1.length cap1] 24)).alloc (.cells #[.int .i64 k2, .int .i64 n2, .int .i64 m2, .slice a2 of2.length cap2] 24)) :=
        ((Below.refl _ _).alloc (Nat.le_refl _) _).alloc (by simp) _
      have HBB := Lib.hid hbb; clear hbb
      have IH := Lib.hid ih
      cases hval : sameB d (.mk k1 n1 m1 of1) (.mk k2 n2 m2 of2)
      · have HVAL := Lib.hid hval; clear hval
        go_wp2_with fail
        refine (IH.out _ _ _ _ _ _ (HVV.out.below HBB.out) (HUU.out.below HBB.out)).mono ?_
        rintro e w1 ⟨rfl, hb1⟩
        have HB1 := Lib.hid hb1; clear hb1
        rw [HVAL.out]
        go_wp2_with fail
        go_ret
        exact ⟨ret_bool (by rw [← HA.out, sameL_drop _ _ _ _ _ _ HV.out HU.out, HVAL.out]; simp), HBW.out.trans ((HBB.out.trans (HB1.out.mono HBB.out.size)).mono HBW.out.size)⟩
      · have HVAL := Lib.hid hval; clear hval
        go_wp2_with fail
        refine (IH.out _ _ _ _ _ _ (HVV.out.below HBB.out) (HUU.out.below HBB.out)).mono ?_
        rintro e w1 ⟨rfl, hb1⟩
        have HB1 := Lib.hid hb1; clear hb1
        rw [HVAL.out]
        go_wp2_with fail
        go_roundw
        case rel => exact ⟨j + 1, by omega, by go_num, by rw [← HA.out, sameL_drop _ _ _ _ _ _ HV.out HU.out, HVAL.out]; simp, HBW.out.trans ((HBB.out.trans (HB1.out.mono HBB.out.size)).mono HBW.out.size)⟩
        case measure => simp [intOf]; omega
    · have : j = of.length := by omega
      subst this
      go_wp2_with fail
      go_ret
      exact ⟨ret_bool (by rw [← HA.out, sameL_end EL.out]), HBW.out⟩

set_option maxHeartbeats 1600000 in
theorem same_any (d : Nat) : SameSaid d := by
  induction d with
  | zero => intro d' x y v u w hv; exact hv.elim
  | succ d ih =>
    intro d' x y v u w hv hu
    obtain ⟨k, n, m, of⟩ := v
    obtain ⟨d0, a, cap, hd, rfl, hk, hn, hm, hl2, he⟩ := hv.op
    obtain rfl : d = d0 := by omega
    obtain ⟨k', n', m', of'⟩ := u
    obtain ⟨d', a', cap', rfl, rfl, hk', hn', hm', hl2', he'⟩ := hu.op
    clear hk hn hm hk' hn' hm' hv hu hd
    have hbb : Below w.heap.size w ((w.alloc (.cells #[.int .i64 k, .int .i64 n, .int .i64 m, .slice a of.length cap] 24)).alloc (.cells #[.int .i64 k', .int .i64 n', .int .i64 m', .slice a' of'.length cap'] 24)) :=
      ((Below.refl _ _).alloc (Nat.le_refl _) _).alloc (by simp) _
    have HBB := Lib.hid hbb; clear hbb
    by_cases ek : k = k'
    case neg =>
      have hb : (k == k') = false := by simpa using ek
      go_enter Tryd.func16, Tryd.ntmps16
      go_wp2_with fail
      go_ret
      exact ⟨ret_bool (by simp [sameB, ek]), HBB.out⟩
    subst ek
    by_cases en : n = n'
    case neg =>
      have hb : (n == n') = false := by simpa using en
      go_enter Tryd.func16, Tryd.ntmps16
      go_wp2_with fail
      go_ret
      exact ⟨ret_bool (by simp [sameB, en]), HBB.out⟩
    subst en
    by_cases em : m = m'
    case neg =>
      have hb : (m == m') = false := by simpa using em
      go_enter Tryd.func16, Tryd.ntmps16
      go_wp2_with fail
      go_ret
      exact ⟨ret_bool (by simp [sameB, em]), HBB.out⟩
    subst em
    have IH := Lib.hid ih; clear ih
    go_enter Tryd.func16, Tryd.ntmps16
    go_wp2_with fail
    refine (equalFunc_any d IH.out d' a a' cap cap' of of' _ hl2 hl2' (he.below HBB.out) (he'.below HBB.out)).mono ?_
    rintro e w1 ⟨rfl, hb1⟩
    have HB1 := Lib.hid hb1; clear hb1
    go_wp2_with fail
    go_ret
    exact ⟨ret_bool (by simp [sameB]), HBB.out.trans (HB1.out.mono (by have := HBB.out.size; simpa using this))⟩

def plainB : Nat → V → Bool
  | 0, _ => false
  | l + 1, .mk k _ _ of => !decide (k = 9) && of.all (plainB l)

set_option maxHeartbeats 1600000 in
theorem plain_any (d : Nat) : ∀ (x : Value) (v : V) (w : World), VAt w d x v →
    Calls Tryd.prog 30 #[x] w fun e w' => e = .returned (.bool (plainB d v)) ∧ Below w.heap.size w w' := by
  induction d with
  | zero => intro x v w hv; exact hv.elim
  | succ d ih =>
    intro x v w hv
    obtain ⟨k, n, m, of⟩ := v
    obtain ⟨d0, a, cap, hd, rfl, hk, hn, hm, hl2, he⟩ := hv.op
    obtain rfl : d = d0 := by omega
    have IH := Lib.hid ih; clear ih
    clear hk hv hn hm hd
    cases h9 : (k == 9)
    case true =>
      go_enter Tryd.func30, Tryd.ntmps30
      go_wp2_with fail
      go_ret
      exact ⟨ret_bool (by have : k = 9 := by simpa using h9
                          simp [plainB, this]), (Below.refl _ _).alloc (Nat.le_refl _) _⟩
    have H9 := Lib.hid h9
    go_enter Tryd.func30, Tryd.ntmps30
    go_wp2_with fail
    clear h9
    go_loopw [3] (fun i wr => ∃ j : Nat, j ≤ of.length ∧ i = .int .i64 j ∧ (of.drop j).all (plainB d) = of.all (plainB d) ∧
      Below (w.heap.size + 1) (w.alloc (.cells #[.int .i64 k, .int .i64 n, .int .i64 m, .slice a of.length cap] 24)) wr) (fun i _ => of.length - (intOf i).toNat)
    case atStart => exact ⟨0, Nat.zero_le _, rfl, by simp, Below.refl _ _⟩
    case round =>
      obtain ⟨j, hj, rfl, hall, hb⟩ := hrel
      have HA := Lib.hid hall; clear hall
      have hs3 : wr.cell? ⟨w.heap.size, 3, none⟩ = some (.slice a of.length cap) := by
        rw [hb.cell (by simp)]; simp
      have hb0 : Below w.heap.size w wr := ((Below.refl _ _).alloc (Nat.le_refl _) _).trans (hb.mono (by omega))
      have HB := Lib.hid hb; clear hb
      have HBW := Lib.hid hb0; clear hb0
      by_cases hlt : j < of.length
      · obtain ⟨v, hv⟩ := get_of_lt hlt
        obtain ⟨b, off, k', n', m', of', a', cap', rfl, rfl, h0, h1, h2, h3, hvv⟩ := (he.below HBW.out).get hv
        have HV := Lib.hid hv; clear hv
        have HVV := Lib.hid hvv; clear hvv
        cases hval : plainB d (.mk k' n' m' of')
        · have HVAL := Lib.hid hval; clear hval
          go_wp2_with fail
          refine (IH.out _ _ _ HVV.out).mono ?_
          rintro e w2 ⟨rfl, hb1⟩
          have HB1 := Lib.hid hb1; clear hb1
          rw [HVAL.out]
          go_wp2_with fail
          go_ret
          exact ⟨ret_bool (by rw [plainB, ← HA.out, all_drop _ _ _ _ HV.out, HVAL.out]; simp), HBW.out.trans (HB1.out.mono HBW.out.size)⟩
        · have HVAL := Lib.hid hval; clear hval
          go_wp2_with fail
          refine (IH.out _ _ _ HVV.out).mono ?_
          rintro e w2 ⟨rfl, hb1⟩
          have HB1 := Lib.hid hb1; clear hb1
          rw [HVAL.out]
          go_wp2_with fail
          go_roundw
          case rel => exact ⟨j + 1, by omega, by go_num, by rw [← HA.out, all_drop _ _ _ _ HV.out, HVAL.out]; simp, HB.out.trans (HB1.out.mono (by have := HB.out.size; simpa using this))⟩
          case measure => simp [intOf]; omega
      · have : j = of.length := by omega
        subst this
        go_wp2_with fail
        go_ret
        exact ⟨ret_bool (by rw [plainB, ← HA.out]; have := beq_eq_false_iff_ne.1 H9.out; simp [this]), HBW.out⟩
end Go.Proofs.YtnjgcjgfnjcgdaaDoor
