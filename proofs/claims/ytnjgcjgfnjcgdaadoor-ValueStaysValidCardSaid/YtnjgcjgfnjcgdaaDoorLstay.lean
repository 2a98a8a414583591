/-
  The walk of the law ValueStaysValid: it returns true.
-/
import Derived.Test.YtnjgcjgfnjcgdaaDoorStay
namespace Go.Proofs.YtnjgcjgfnjcgdaaDoor
open Go.RowKit
theorem shallow_to {d : Nat} {x : Value} {v : V} {b : Bool} {w : World} (hv : VAt w d x v) (hb : smallB 39 v = b) : Calls Tryd.prog 31 #[x] w fun e w' => e = .returned (.bool b) ∧ Below w.heap.size w w' := by
  subst hb; exact shallow_any d x v w hv
theorem boxes3' (w : World) (A B C : Array Value) (t1 t2 t3 : TypeId) :
    (∀ (j : Nat) (v : Value), B[j]? = some v → (((w.alloc (.cells A t1)).alloc (.cells B t2)).alloc (.cells C t3)).cell? ⟨w.heap.size + 1, j, none⟩ = some v) ∧ (∀ (j : Nat) (v : Value), C[j]? = some v → (((w.alloc (.cells A t1)).alloc (.cells B t2)).alloc (.cells C t3)).cell? ⟨w.heap.size + 1 + 1, j, none⟩ = some v) ∧
    Below w.heap.size w (((w.alloc (.cells A t1)).alloc (.cells B t2)).alloc (.cells C t3)) := by
  have h := boxes3 w A B C t1 t2 t3
  exact ⟨fun j v e => (h.1.2 j).trans e, fun j v e => (h.2.1 j).trans e, alloc_below (alloc_below (alloc_below (Below.refl _ _)))⟩

theorem el_two {w : World} {d b : Nat} {c0 c1 c2 c3 c4 c5 c6 c7 : Value} {v u : V} (h0 : w.cell? ⟨b, 0, none⟩ = some c0) (h1 : w.cell? ⟨b, 1, none⟩ = some c1) (h2 : w.cell? ⟨b, 2, none⟩ = some c2) (h3 : w.cell? ⟨b, 3, none⟩ = some c3)
    (h4 : w.cell? ⟨b, 4, none⟩ = some c4) (h5 : w.cell? ⟨b, 5, none⟩ = some c5) (h6 : w.cell? ⟨b, 6, none⟩ = some c6) (h7 : w.cell? ⟨b, 7, none⟩ = some c7)
    (hv : VAt w d (.agg #[c0, c1, c2, c3]) v) (hu : VAt w d (.agg #[c4, c5, c6, c7]) u) : ElAt w d (some ⟨b, 0, none⟩) [v, u] := fun i x hi => by
  match i, hi with
  | 0, hi =>
    simp only [List.getElem?_cons_zero, Option.some.injEq] at hi
    subst hi
    exact ⟨b, 0, c0, c1, c2, c3, rfl, h0, h1, h2, h3, hv⟩
  | 1, hi =>
    simp only [List.getElem?_cons_succ, List.getElem?_cons_zero, Option.some.injEq] at hi
    subst hi
    exact ⟨b, 0, c4, c5, c6, c7, rfl, h4, h5, h6, h7, hu⟩
  | i + 2, hi => simp at hi
/-- What lies in memory when the pair and the option have been made. -/
theorem stay_at {w9 Y : World} {d d' : Nat} {k n m k' n' m' : Int} {a a' : Option Addr} {cap cap' : Nat} {of of' : List V}
    (hv : VAt w9 (d + d') (.agg #[.int .i64 k, .int .i64 n, .int .i64 m, .slice a of.length cap]) (.mk k n m of)) (hu : VAt w9 (d' + d) (.agg #[.int .i64 k', .int .i64 n', .int .i64 m', .slice a' of'.length cap']) (.mk k' n' m' of'))
    (hY : Y = ((((w9.alloc (.cells #[.int .i64 k, .int .i64 n, .int .i64 m, .slice a of.length cap, .int .i64 k', .int .i64 n', .int .i64 m', .slice a' of'.length cap'] 24)).alloc (.cells #[.int .i64 6, .int .i64 0, .int .i64 0, .slice (some ⟨w9.heap.size, 0, none⟩) 2 2] 24)).alloc (.cells #[.int .i64 k, .int .i64 n, .int .i64 m, .slice a of.length cap] 24)).alloc (.cells #[.int .i64 8, .int .i64 0, .int .i64 0, .slice (some ⟨w9.heap.size + 1 + 1, 0, none⟩) 1 1] 24))) :
    Below w9.heap.size w9 Y ∧ VAt Y (d + d') (.agg #[.int .i64 k, .int .i64 n, .int .i64 m, .slice a of.length cap]) (.mk k n m of) ∧ VAt Y (d + d') (.agg #[.int .i64 k', .int .i64 n', .int .i64 m', .slice a' of'.length cap']) (.mk k' n' m' of') ∧
    VAt Y (d + d' + 1) (.agg #[.int .i64 6, .int .i64 0, .int .i64 0, .slice (some ⟨w9.heap.size, 0, none⟩) 2 2]) (.mk 6 0 0 [.mk k n m of, .mk k' n' m' of']) ∧
    VAt Y (d + d' + 1) (.agg #[.int .i64 8, .int .i64 0, .int .i64 0, .slice (some ⟨w9.heap.size + 1 + 1, 0, none⟩) 1 1]) (.mk 8 0 0 [.mk k n m of]) ∧
    (∀ (j : Nat) (v : Value), (#[.int .i64 6, .int .i64 0, .int .i64 0, .slice (some ⟨w9.heap.size, 0, none⟩) 2 2] : Array Value)[j]? = some v → Y.cell? ⟨w9.heap.size + 1, j, none⟩ = some v) ∧
    (∀ (j : Nat) (v : Value), (#[.int .i64 8, .int .i64 0, .int .i64 0, .slice (some ⟨w9.heap.size + 1 + 1, 0, none⟩) 1 1] : Array Value)[j]? = some v → Y.cell? ⟨w9.heap.size + 1 + 1 + 1, j, none⟩ = some v) := by
  have B := boxes4 w9 #[.int .i64 k, .int .i64 n, .int .i64 m, .slice a of.length cap, .int .i64 k', .int .i64 n', .int .i64 m', .slice a' of'.length cap'] #[.int .i64 6, .int .i64 0, .int .i64 0, .slice (some ⟨w9.heap.size, 0, none⟩) 2 2] #[.int .i64 k, .int .i64 n, .int .i64 m, .slice a of.length cap] #[.int .i64 8, .int .i64 0, .int .i64 0, .slice (some ⟨w9.heap.size + 1 + 1, 0, none⟩) 1 1] 24 24 24 24
  have hb : Below w9.heap.size w9 Y := by rw [hY]; exact alloc_below (alloc_below (alloc_below (alloc_below (Below.refl _ _))))
  rw [← hY] at B
  rw [Nat.add_comm d' d] at hu
  have hv' := hv.below hb
  have hu' := hu.below hb
  have z0 : I64 0 := by unfold I64; omega
  exact ⟨hb, hv', hu', VAt.mk' (by unfold I64; omega) z0 z0 (by simp) (el_two (B.1.1 0) (B.1.1 1) (B.1.1 2) (B.1.1 3) (B.1.1 4) (B.1.1 5) (B.1.1 6) (B.1.1 7) hv' hu'),
    VAt.mk' (by unfold I64; omega) z0 z0 (by simp) (el_one (B.2.1.1 0) (B.2.1.1 1) (B.2.1.1 2) (B.2.1.1 3) hv'), fun j v h => (B.1.2 j).trans h, fun j v h => (B.2.1.2 j).trans h⟩

set_option maxRecDepth 20000 in
set_option maxHeartbeats 6400000 in
theorem lawStay_any (op i k n m k' n' m' : Int) (a a' : Option Addr) (cap cap' : Nat) (of of' : List V) (d d' : Nat) (w : World) (hg : Good w)
    (hv : VAt w d (.agg #[.int .i64 k, .int .i64 n, .int .i64 m, .slice a of.length cap]) (.mk k n m of)) (hu : VAt w d' (.agg #[.int .i64 k', .int .i64 n', .int .i64 m', .slice a' of'.length cap']) (.mk k' n' m' of')) :
    Calls Tryd.prog 9 #[.agg #[.int .i64 op, .int .i64 k, .int .i64 n, .int .i64 m, .slice a of.length cap, .int .i64 k', .int .i64 n', .int .i64 m', .slice a' of'.length cap', .int .i64 i]] w fun e w' => e = .returned (.bool true) ∧ Below w.heap.size w w' := by
  obtain ⟨b1, h1⟩ : ∃ b, smallB 39 (.mk k n m of) = b := ⟨_, rfl⟩
  obtain ⟨b2, h2⟩ : ∃ b, smallB 39 (.mk k' n' m' of') = b := ⟨_, rfl⟩
  obtain ⟨P, hP⟩ : ∃ P, withinB 40 (.mk k n m of) = P := ⟨_, rfl⟩
  obtain ⟨Q, hQ⟩ : ∃ Q, withinB 40 (.mk k' n' m' of') = Q := ⟨_, rfl⟩
  have agree : b1 = true → validP 40 (.mk k n m of) = withinB 40 (.mk k n m of) ∧ validP 40 (.mk 8 0 0 [.mk k n m of]) = P := fun g => by
    have := shallow_small (h1.trans g)
    exact ⟨by rw [← valid_up 39 _ this]; exact valid_39 this, by rw [some_valid this, hP]⟩
  have agree2 : b1 = true → b2 = true → validP 40 (.mk 6 0 0 [.mk k n m of, .mk k' n' m' of']) = (P && Q) := fun g g' => by
    rw [pair_valid (shallow_small (h1.trans g)) (shallow_small (h2.trans g')), hP, hQ]
  obtain ⟨rn, hrn⟩ : ∃ rn, roundZ i = rn := ⟨_, rfl⟩
  have hvn : validP 40 (.mk 1 rn 0 []) = true := by rw [← hrn]; exact valid_flat_int i
  have hI : I64 rn := by have := round_bd i; unfold I64; omega
  obtain ⟨kr, r, er, hk, hr, ho, hok⟩ := binOf_ok op k n k' n' (validP 40 (.mk k n m of)) (validP 40 (.mk k' n' m' of'))
  obtain ⟨ki, ri, bx, hki, hri, hoi, hoki⟩ := idx_ok k n m i of
  have HA := Lib.hid (And.intro agree agree2)
  have HI := Lib.hid (And.intro hrn (And.intro hvn hI))
  have HO := Lib.hid (And.intro hk (And.intro hr ho))
  have HX := Lib.hid (And.intro hki (And.intro hri (And.intro hoi hoki)))
  have HS := Lib.hid (And.intro h1 (And.intro h2 (And.intro hP hQ)))
  have B2 := boxes3' w #[.int .i64 op, .int .i64 k, .int .i64 n, .int .i64 m, .slice a of.length cap, .int .i64 k', .int .i64 n', .int .i64 m', .slice a' of'.length cap', .int .i64 i] #[.int .i64 k, .int .i64 n, .int .i64 m, .slice a of.length cap] #[.int .i64 k', .int .i64 n', .int .i64 m', .slice a' of'.length cap'] 49 24 24
  have F0 := Lib.hid (And.intro hv (And.intro hu hg))
  have HB2 := Lib.hid B2
  clear hv hu hg agree agree2 hrn hvn hI hk hr ho hki hri hoi hoki h1 h2 hP hQ B2
  have HOK := Lib.hid hok; clear hok
  go_enter Tryd.func9, Tryd.ntmps9
  go_wp2_with fail
  obtain ⟨W0, hW0⟩ : ∃ W0, W0 = (((w.alloc (.cells #[.int .i64 op, .int .i64 k, .int .i64 n, .int .i64 m, .slice a of.length cap, .int .i64 k', .int .i64 n', .int .i64 m', .slice a' of'.length cap', .int .i64 i] 49)).alloc (.cells #[.int .i64 k, .int .i64 n, .int .i64 m, .slice a of.length cap] 24)).alloc (.cells #[.int .i64 k', .int .i64 n', .int .i64 m', .slice a' of'.length cap'] 24)) := ⟨_, rfl⟩
  rw [← hW0]
  have B2 := HB2.out
  rw [← hW0] at B2
  have F := Lib.hid (And.intro B2.1 (And.intro B2.2.1 (And.intro B2.2.2 (And.intro (F0.out.1.below B2.2.2) (And.intro (F0.out.2.1.below B2.2.2) (F0.out.2.2.below B2.2.2))))))
  clear hW0 B2 HB2
  refine (sanity_any _ F.out.2.2.2.2.2).mono ?_
  rintro e w1 ⟨rfl, hb⟩
  have HB1 := Lib.hid hb; clear hb
  have t0 := (cell_on (F.out.1 0 _ rfl) HB1.out)
  have t1 := (cell_on (F.out.1 1 _ rfl) HB1.out)
  have t2 := (cell_on (F.out.1 2 _ rfl) HB1.out)
  have t3 := (cell_on (F.out.1 3 _ rfl) HB1.out)
  go_wp2_with fail
  refine (shallow_to (F.out.2.2.2.1.below HB1.out) HS.out.1).mono ?_
  rintro e w2 ⟨rfl, hb⟩
  have HB2 := Lib.hid (chain HB1.out hb)
  clear hb t0 t1 t2 t3
  cases b1
  case false =>
    go_wp2_with fail
    go_ret
    exact ⟨rfl, F.out.2.2.1.trans (HB2.out.mono F.out.2.2.1.size)⟩
  case true =>
    have t0 := (cell_on (F.out.2.1 0 _ rfl) HB2.out)
    have t1 := (cell_on (F.out.2.1 1 _ rfl) HB2.out)
    have t2 := (cell_on (F.out.2.1 2 _ rfl) HB2.out)
    have t3 := (cell_on (F.out.2.1 3 _ rfl) HB2.out)
    go_wp2_with fail
    refine (shallow_to (F.out.2.2.2.2.1.below HB2.out) HS.out.2.1).mono ?_
    rintro e w3 ⟨rfl, hb⟩
    have HB3 := Lib.hid (chain HB2.out hb)
    clear hb t0 t1 t2 t3
    cases b2
    case false =>
      go_wp2_with fail
      go_ret
      exact ⟨rfl, F.out.2.2.1.trans (HB3.out.mono F.out.2.2.1.size)⟩
    case true =>
      have AG := Lib.hid (HA.out.1 (by simp))
      have AG2 := Lib.hid (HA.out.2 (by simp) (by simp))
      have t0 := (cell_on (F.out.1 0 _ rfl) HB3.out)
      have t1 := (cell_on (F.out.1 1 _ rfl) HB3.out)
      have t2 := (cell_on (F.out.1 2 _ rfl) HB3.out)
      have t3 := (cell_on (F.out.1 3 _ rfl) HB3.out)
      have s0 := (cell_on (F.out.2.1 0 _ rfl) HB3.out)
      have s1 := (cell_on (F.out.2.1 1 _ rfl) HB3.out)
      have s2 := (cell_on (F.out.2.1 2 _ rfl) HB3.out)
      have s3 := (cell_on (F.out.2.1 3 _ rfl) HB3.out)
      go_wp2_with fail
      refine (bin_any _ _ _ _ _ _ _ _ _ _ _ _ _ _ (F.out.2.2.2.1.below HB3.out) (F.out.2.2.2.2.1.below HB3.out) (F.out.2.2.2.2.2.below HB3.out).1).mono ?_
      rintro e w4 ⟨he, hb⟩
      rw [HO.out.2.2] at he
      subst he
      have HB4 := Lib.hid (chain HB3.out hb)
      clear hb t0 t1 t2 t3 s0 s1 s2 s3
      rcases HOK.out with ⟨e1, e2⟩ | e1
      · go_wp2_with fail
        refine (right_to (flat_at _ HO.out.1 HO.out.2.1) e2).mono ?_
        rintro e w5 ⟨rfl, hb⟩
        have HB5 := Lib.hid (chain_alloc HB4.out hb)
        clear hb
        have t0 := (cell_on (F.out.1 0 _ rfl) HB5.out)
        have t1 := (cell_on (F.out.1 1 _ rfl) HB5.out)
        have t2 := (cell_on (F.out.1 2 _ rfl) HB5.out)
        have t3 := (cell_on (F.out.1 3 _ rfl) HB5.out)
        go_wp2_with fail
        refine (index_any _ _ _ _ _ _ _ _ (F.out.2.2.2.1.below HB5.out)).mono ?_
        rintro e w6 ⟨he, hb⟩
        rw [AG.out.1, HX.out.2.2.1] at he
        subst he
        have HB6 := Lib.hid (chain HB5.out hb)
        clear hb t0 t1 t2 t3
        cases bx
        case false =>
          go_wp2_with fail
          refine (int_to HI.out.1).mono ?_
          rintro e w8 ⟨rfl, hb⟩
          have HB8 := Lib.hid (chain_alloc HB6.out hb)
          clear hb
          go_wp2_with fail
          refine (right_to (flat_at _ (by unfold I64; omega) HI.out.2.2) HI.out.2.1).mono ?_
          rintro e w9 ⟨rfl, hb⟩
          have HB9 := Lib.hid (chain HB8.out hb)
          clear hb
          have t0 := cell_on (F.out.1 0 _ rfl) HB9.out
          have ta0 := fun o o2 => alloc_on (alloc_on t0 o) o2
          have tb0 := fun o o2 o3 o4 => alloc_on (alloc_on (ta0 o o2) o3) o4
          have t1 := cell_on (F.out.1 1 _ rfl) HB9.out
          have ta1 := fun o o2 => alloc_on (alloc_on t1 o) o2
          have tb1 := fun o o2 o3 o4 => alloc_on (alloc_on (ta1 o o2) o3) o4
          have t2 := cell_on (F.out.1 2 _ rfl) HB9.out
          have ta2 := fun o o2 => alloc_on (alloc_on t2 o) o2
          have tb2 := fun o o2 o3 o4 => alloc_on (alloc_on (ta2 o o2) o3) o4
          have t3 := cell_on (F.out.1 3 _ rfl) HB9.out
          have ta3 := fun o o2 => alloc_on (alloc_on t3 o) o2
          have tb3 := fun o o2 o3 o4 => alloc_on (alloc_on (ta3 o o2) o3) o4
          have s0 := cell_on (F.out.2.1 0 _ rfl) HB9.out
          have sa0 := fun o o2 => alloc_on (alloc_on s0 o) o2
          have sb0 := fun o o2 o3 o4 => alloc_on (alloc_on (sa0 o o2) o3) o4
          have s1 := cell_on (F.out.2.1 1 _ rfl) HB9.out
          have sa1 := fun o o2 => alloc_on (alloc_on s1 o) o2
          have sb1 := fun o o2 o3 o4 => alloc_on (alloc_on (sa1 o o2) o3) o4
          have s2 := cell_on (F.out.2.1 2 _ rfl) HB9.out
          have sa2 := fun o o2 => alloc_on (alloc_on s2 o) o2
          have sb2 := fun o o2 o3 o4 => alloc_on (alloc_on (sa2 o o2) o3) o4
          have s3 := cell_on (F.out.2.1 3 _ rfl) HB9.out
          have sa3 := fun o o2 => alloc_on (alloc_on s3 o) o2
          have sb3 := fun o o2 o3 o4 => alloc_on (alloc_on (sa3 o o2) o3) o4
          have SV := Lib.hid (VAt.more (F.out.2.2.2.1.below HB9.out) d')
          have SU := Lib.hid (VAt.more (F.out.2.2.2.2.1.below HB9.out) d)
          go_wp2_with fail
          obtain ⟨Y, hY⟩ : ∃ Y, Y = ((((w9.alloc (.cells #[.int .i64 k, .int .i64 n, .int .i64 m, .slice a of.length cap, .int .i64 k', .int .i64 n', .int .i64 m', .slice a' of'.length cap'] 24)).alloc (.cells #[.int .i64 6, .int .i64 0, .int .i64 0, .slice (some ⟨w9.heap.size, 0, none⟩) 2 2] 24)).alloc (.cells #[.int .i64 k, .int .i64 n, .int .i64 m, .slice a of.length cap] 24)).alloc (.cells #[.int .i64 8, .int .i64 0, .int .i64 0, .slice (some ⟨w9.heap.size + 1 + 1, 0, none⟩) 1 1] 24)) := ⟨_, rfl⟩
          rw [← hY]
          have G := stay_at (w9 := w9) SV.out SU.out hY
          have GY := Lib.hid G
          have HBY := Lib.hid (chain HB9.out G.1)
          clear hY G t0 t1 t2 t3 s0 s1 s2 s3 ta0 ta1 ta2 ta3 sa0 sa1 sa2 sa3 tb0 tb1 tb2 tb3 sb0 sb1 sb2 sb3 SV SU
          refine (refRight_to GY.out.2.1 HS.out.2.2.1).mono ?_
          rintro e wa ⟨rfl, hb⟩
          have HBa := Lib.hid hb
          clear hb
          cases P
          case false =>
            have o0 := cell_on (GY.out.2.2.2.2.2.1 0 _ rfl) HBa.out
            have o1 := cell_on (GY.out.2.2.2.2.2.1 1 _ rfl) HBa.out
            have o2 := cell_on (GY.out.2.2.2.2.2.1 2 _ rfl) HBa.out
            have o3 := cell_on (GY.out.2.2.2.2.2.1 3 _ rfl) HBa.out
            go_wp2_with fail
            refine (right_to (b := false) (GY.out.2.2.2.1.below HBa.out) AG2.out).mono ?_
            rintro e wc ⟨rfl, hb⟩
            have HBc := Lib.hid (chain HBa.out hb)
            clear hb o0 o1 o2 o3
            have o0 := cell_on (GY.out.2.2.2.2.2.2 0 _ rfl) HBc.out
            have o1 := cell_on (GY.out.2.2.2.2.2.2 1 _ rfl) HBc.out
            have o2 := cell_on (GY.out.2.2.2.2.2.2 2 _ rfl) HBc.out
            have o3 := cell_on (GY.out.2.2.2.2.2.2 3 _ rfl) HBc.out
            go_wp2_with fail
            refine (right_to (b := false) (GY.out.2.2.2.2.1.below HBc.out) AG.out.2).mono ?_
            rintro e wd ⟨rfl, hb⟩
            have HBd := Lib.hid (chain HBc.out hb)
            clear hb o0 o1 o2 o3
            have t0 := cell_on (F.out.1 0 _ rfl) (chain HBY.out HBd.out)
            have t1 := cell_on (F.out.1 1 _ rfl) (chain HBY.out HBd.out)
            have t2 := cell_on (F.out.1 2 _ rfl) (chain HBY.out HBd.out)
            have t3 := cell_on (F.out.1 3 _ rfl) (chain HBY.out HBd.out)
            have s0 := cell_on (F.out.2.1 0 _ rfl) (chain HBY.out HBd.out)
            have s1 := cell_on (F.out.2.1 1 _ rfl) (chain HBY.out HBd.out)
            have s2 := cell_on (F.out.2.1 2 _ rfl) (chain HBY.out HBd.out)
            have s3 := cell_on (F.out.2.1 3 _ rfl) (chain HBY.out HBd.out)
            have ON := Lib.hid (GY.out.2.2.2.1.below HBd.out)
            have TW := Lib.hid (GY.out.2.2.2.2.1.below HBd.out)
            have VV := Lib.hid (GY.out.2.1.below HBd.out)
            have AL := Lib.hid (F.out.2.2.1.trans ((chain HBY.out HBd.out).mono F.out.2.2.1.size))
            have lo0 := later_cell (cell_on (GY.out.2.2.2.2.2.1 0 _ rfl) HBd.out)
            have lo1 := later_cell (cell_on (GY.out.2.2.2.2.2.1 1 _ rfl) HBd.out)
            have lo2 := later_cell (cell_on (GY.out.2.2.2.2.2.1 2 _ rfl) HBd.out)
            have lo3 := later_cell (cell_on (GY.out.2.2.2.2.2.1 3 _ rfl) HBd.out)
            have lw0 := later_cell (cell_on (GY.out.2.2.2.2.2.2 0 _ rfl) HBd.out)
            have lw1 := later_cell (cell_on (GY.out.2.2.2.2.2.2 1 _ rfl) HBd.out)
            have lw2 := later_cell (cell_on (GY.out.2.2.2.2.2.2 2 _ rfl) HBd.out)
            have lw3 := later_cell (cell_on (GY.out.2.2.2.2.2.2 3 _ rfl) HBd.out)
            have lt0 := later_cell t0
            have lt1 := later_cell t1
            have lt2 := later_cell t2
            have lt3 := later_cell t3
            have A2 := Lib.hid (show validP 40 (.mk 6 0 0 [.mk k n m of, .mk k' n' m' of']) = false from AG2.out)
            have A1 := Lib.hid (show validP 40 (.mk 8 0 0 [.mk k n m of]) = false from AG.out.2)
            clear HB1 HB2 HB3 HB4 HB6 HB8 HB9 HBY F F0 HOK HO HX HI HA
            cases hz1 : ((of.length : Int) == 0)
            · go_wp2_with fail
              clear t0 t1 t2 t3 s0 s1 s2 s3
              refine wp_region_later (by kernel_rfl) (by kernel_rfl) ?_
              repeat (go_big_quiet_step (first
                | with_reducible refine calls_later (right_to (b := false) (ON.out.later _) A2.out)
                | with_reducible refine calls_later (right_to (b := false) (TW.out.later _) A1.out)
                | with_reducible refine calls_later (refRight_to (VV.out.later _) HS.out.2.2.1)))
              refine wpQuiet_nil ?_
              rintro _ ⟨t, rfl⟩
              have HT := Lib.hid t.below
              clear lo0 lo1 lo2 lo3 lw0 lw1 lw2 lw3 lt0 lt1 lt2 lt3
              go_wp2_with fail
              go_ret
              exact ⟨rfl, AL.out.trans (HT.out.mono AL.out.size)⟩
            · cases hz2 : ((of'.length : Int) == 0)
              · go_wp2_with fail
                clear t0 t1 t2 t3 s0 s1 s2 s3
                refine wp_region_later (by kernel_rfl) (by kernel_rfl) ?_
                repeat (go_big_quiet_step (first
                  | with_reducible refine calls_later (right_to (b := false) (ON.out.later _) A2.out)
                  | with_reducible refine calls_later (right_to (b := false) (TW.out.later _) A1.out)
                  | with_reducible refine calls_later (refRight_to (VV.out.later _) HS.out.2.2.1)))
                refine wpQuiet_nil ?_
                rintro _ ⟨t, rfl⟩
                have HT := Lib.hid t.below
                clear lo0 lo1 lo2 lo3 lw0 lw1 lw2 lw3 lt0 lt1 lt2 lt3
                go_wp2_with fail
                go_ret
                exact ⟨rfl, AL.out.trans (HT.out.mono AL.out.size)⟩
              · go_wp2_with fail
                clear t0 t1 t2 t3 s0 s1 s2 s3
                refine wp_region_later (by kernel_rfl) (by kernel_rfl) ?_
                repeat (go_big_quiet_step (first
                  | with_reducible refine calls_later (right_to (b := false) (ON.out.later _) A2.out)
                  | with_reducible refine calls_later (right_to (b := false) (TW.out.later _) A1.out)
                  | with_reducible refine calls_later (refRight_to (VV.out.later _) HS.out.2.2.1)))
                refine wpQuiet_nil ?_
                rintro _ ⟨t, rfl⟩
                have HT := Lib.hid t.below
                clear lo0 lo1 lo2 lo3 lw0 lw1 lw2 lw3 lt0 lt1 lt2 lt3
                go_wp2_with fail
                go_ret
                exact ⟨rfl, AL.out.trans (HT.out.mono AL.out.size)⟩
          case true =>
            have s0 := cell_on (F.out.2.1 0 _ rfl) (chain HBY.out HBa.out)
            have s1 := cell_on (F.out.2.1 1 _ rfl) (chain HBY.out HBa.out)
            have s2 := cell_on (F.out.2.1 2 _ rfl) (chain HBY.out HBa.out)
            have s3 := cell_on (F.out.2.1 3 _ rfl) (chain HBY.out HBa.out)
            go_wp2_with fail
            refine (refRight_to (GY.out.2.2.1.below HBa.out) HS.out.2.2.2).mono ?_
            rintro e wb ⟨rfl, hb⟩
            have HBb := Lib.hid (chain HBa.out hb)
            clear hb s0 s1 s2 s3
            cases Q
            case false =>
              have o0 := cell_on (GY.out.2.2.2.2.2.1 0 _ rfl) HBb.out
              have o1 := cell_on (GY.out.2.2.2.2.2.1 1 _ rfl) HBb.out
              have o2 := cell_on (GY.out.2.2.2.2.2.1 2 _ rfl) HBb.out
              have o3 := cell_on (GY.out.2.2.2.2.2.1 3 _ rfl) HBb.out
              go_wp2_with fail
              refine (right_to (b := false) (GY.out.2.2.2.1.below HBb.out) AG2.out).mono ?_
              rintro e wc ⟨rfl, hb⟩
              have HBc := Lib.hid (chain HBb.out hb)
              clear hb o0 o1 o2 o3
              have o0 := cell_on (GY.out.2.2.2.2.2.2 0 _ rfl) HBc.out
              have o1 := cell_on (GY.out.2.2.2.2.2.2 1 _ rfl) HBc.out
              have o2 := cell_on (GY.out.2.2.2.2.2.2 2 _ rfl) HBc.out
              have o3 := cell_on (GY.out.2.2.2.2.2.2 3 _ rfl) HBc.out
              go_wp2_with fail
              refine (right_to (b := true) (GY.out.2.2.2.2.1.below HBc.out) AG.out.2).mono ?_
              rintro e wd ⟨rfl, hb⟩
              have HBd := Lib.hid (chain HBc.out hb)
              clear hb o0 o1 o2 o3
              have t0 := cell_on (F.out.1 0 _ rfl) (chain HBY.out HBd.out)
              have t1 := cell_on (F.out.1 1 _ rfl) (chain HBY.out HBd.out)
              have t2 := cell_on (F.out.1 2 _ rfl) (chain HBY.out HBd.out)
              have t3 := cell_on (F.out.1 3 _ rfl) (chain HBY.out HBd.out)
              go_wp2_with fail
              refine (refRight_to (GY.out.2.1.below HBd.out) HS.out.2.2.1).mono ?_
              rintro e we ⟨rfl, hb⟩
              have HBe := Lib.hid (chain HBd.out hb)
              clear hb t0 t1 t2 t3
              have t0 := cell_on (F.out.1 0 _ rfl) (chain HBY.out HBe.out)
              have t1 := cell_on (F.out.1 1 _ rfl) (chain HBY.out HBe.out)
              have t2 := cell_on (F.out.1 2 _ rfl) (chain HBY.out HBe.out)
              have t3 := cell_on (F.out.1 3 _ rfl) (chain HBY.out HBe.out)
              have s0 := cell_on (F.out.2.1 0 _ rfl) (chain HBY.out HBe.out)
              have s1 := cell_on (F.out.2.1 1 _ rfl) (chain HBY.out HBe.out)
              have s2 := cell_on (F.out.2.1 2 _ rfl) (chain HBY.out HBe.out)
              have s3 := cell_on (F.out.2.1 3 _ rfl) (chain HBY.out HBe.out)
              have ON := Lib.hid (GY.out.2.2.2.1.below HBe.out)
              have TW := Lib.hid (GY.out.2.2.2.2.1.below HBe.out)
              have VV := Lib.hid (GY.out.2.1.below HBe.out)
              have AL := Lib.hid (F.out.2.2.1.trans ((chain HBY.out HBe.out).mono F.out.2.2.1.size))
              have lo0 := later_cell (cell_on (GY.out.2.2.2.2.2.1 0 _ rfl) HBe.out)
              have lo1 := later_cell (cell_on (GY.out.2.2.2.2.2.1 1 _ rfl) HBe.out)
              have lo2 := later_cell (cell_on (GY.out.2.2.2.2.2.1 2 _ rfl) HBe.out)
              have lo3 := later_cell (cell_on (GY.out.2.2.2.2.2.1 3 _ rfl) HBe.out)
              have lw0 := later_cell (cell_on (GY.out.2.2.2.2.2.2 0 _ rfl) HBe.out)
              have lw1 := later_cell (cell_on (GY.out.2.2.2.2.2.2 1 _ rfl) HBe.out)
              have lw2 := later_cell (cell_on (GY.out.2.2.2.2.2.2 2 _ rfl) HBe.out)
              have lw3 := later_cell (cell_on (GY.out.2.2.2.2.2.2 3 _ rfl) HBe.out)
              have lt0 := later_cell t0
              have lt1 := later_cell t1
              have lt2 := later_cell t2
              have lt3 := later_cell t3
              have A2 := Lib.hid (show validP 40 (.mk 6 0 0 [.mk k n m of, .mk k' n' m' of']) = false from AG2.out)
              have A1 := Lib.hid (show validP 40 (.mk 8 0 0 [.mk k n m of]) = true from AG.out.2)
              clear HB1 HB2 HB3 HB4 HB6 HB8 HB9 HBY F F0 HOK HO HX HI HA
              cases hz1 : ((of.length : Int) == 0)
              · go_wp2_with fail
                clear t0 t1 t2 t3 s0 s1 s2 s3
                refine wp_region_later (by kernel_rfl) (by kernel_rfl) ?_
                repeat (go_big_quiet_step (first
                  | with_reducible refine calls_later (right_to (b := false) (ON.out.later _) A2.out)
                  | with_reducible refine calls_later (right_to (b := true) (TW.out.later _) A1.out)
                  | with_reducible refine calls_later (refRight_to (VV.out.later _) HS.out.2.2.1)))
                refine wpQuiet_nil ?_
                rintro _ ⟨t, rfl⟩
                have HT := Lib.hid t.below
                clear lo0 lo1 lo2 lo3 lw0 lw1 lw2 lw3 lt0 lt1 lt2 lt3
                go_wp2_with fail
                go_ret
                exact ⟨rfl, AL.out.trans (HT.out.mono AL.out.size)⟩
              · cases hz2 : ((of'.length : Int) == 0)
                · go_wp2_with fail
                  clear t0 t1 t2 t3 s0 s1 s2 s3
                  refine wp_region_later (by kernel_rfl) (by kernel_rfl) ?_
                  repeat (go_big_quiet_step (first
                    | with_reducible refine calls_later (right_to (b := false) (ON.out.later _) A2.out)
                    | with_reducible refine calls_later (right_to (b := true) (TW.out.later _) A1.out)
                    | with_reducible refine calls_later (refRight_to (VV.out.later _) HS.out.2.2.1)))
                  refine wpQuiet_nil ?_
                  rintro _ ⟨t, rfl⟩
                  have HT := Lib.hid t.below
                  clear lo0 lo1 lo2 lo3 lw0 lw1 lw2 lw3 lt0 lt1 lt2 lt3
                  go_wp2_with fail
                  go_ret
                  exact ⟨rfl, AL.out.trans (HT.out.mono AL.out.size)⟩
                · go_wp2_with fail
                  clear t0 t1 t2 t3 s0 s1 s2 s3
                  refine wp_region_later (by kernel_rfl) (by kernel_rfl) ?_
                  repeat (go_big_quiet_step (first
                    | with_reducible refine calls_later (right_to (b := false) (ON.out.later _) A2.out)
                    | with_reducible refine calls_later (right_to (b := true) (TW.out.later _) A1.out)
                    | with_reducible refine calls_later (refRight_to (VV.out.later _) HS.out.2.2.1)))
                  refine wpQuiet_nil ?_
                  rintro _ ⟨t, rfl⟩
                  have HT := Lib.hid t.below
                  clear lo0 lo1 lo2 lo3 lw0 lw1 lw2 lw3 lt0 lt1 lt2 lt3
                  go_wp2_with fail
                  go_ret
                  exact ⟨rfl, AL.out.trans (HT.out.mono AL.out.size)⟩
            case true =>
              have o0 := cell_on (GY.out.2.2.2.2.2.1 0 _ rfl) HBb.out
              have o1 := cell_on (GY.out.2.2.2.2.2.1 1 _ rfl) HBb.out
              have o2 := cell_on (GY.out.2.2.2.2.2.1 2 _ rfl) HBb.out
              have o3 := cell_on (GY.out.2.2.2.2.2.1 3 _ rfl) HBb.out
              go_wp2_with fail
              refine (right_to (b := true) (GY.out.2.2.2.1.below HBb.out) AG2.out).mono ?_
              rintro e wc ⟨rfl, hb⟩
              have HBc := Lib.hid (chain HBb.out hb)
              clear hb o0 o1 o2 o3
              have o0 := cell_on (GY.out.2.2.2.2.2.2 0 _ rfl) HBc.out
              have o1 := cell_on (GY.out.2.2.2.2.2.2 1 _ rfl) HBc.out
              have o2 := cell_on (GY.out.2.2.2.2.2.2 2 _ rfl) HBc.out
              have o3 := cell_on (GY.out.2.2.2.2.2.2 3 _ rfl) HBc.out
              go_wp2_with fail
              refine (right_to (b := true) (GY.out.2.2.2.2.1.below HBc.out) AG.out.2).mono ?_
              rintro e wd ⟨rfl, hb⟩
              have HBd := Lib.hid (chain HBc.out hb)
              clear hb o0 o1 o2 o3
              have t0 := cell_on (F.out.1 0 _ rfl) (chain HBY.out HBd.out)
              have t1 := cell_on (F.out.1 1 _ rfl) (chain HBY.out HBd.out)
              have t2 := cell_on (F.out.1 2 _ rfl) (chain HBY.out HBd.out)
              have t3 := cell_on (F.out.1 3 _ rfl) (chain HBY.out HBd.out)
              go_wp2_with fail
              refine (refRight_to (GY.out.2.1.below HBd.out) HS.out.2.2.1).mono ?_
              rintro e we ⟨rfl, hb⟩
              have HBe := Lib.hid (chain HBd.out hb)
              clear hb t0 t1 t2 t3
              have t0 := cell_on (F.out.1 0 _ rfl) (chain HBY.out HBe.out)
              have t1 := cell_on (F.out.1 1 _ rfl) (chain HBY.out HBe.out)
              have t2 := cell_on (F.out.1 2 _ rfl) (chain HBY.out HBe.out)
              have t3 := cell_on (F.out.1 3 _ rfl) (chain HBY.out HBe.out)
              have s0 := cell_on (F.out.2.1 0 _ rfl) (chain HBY.out HBe.out)
              have s1 := cell_on (F.out.2.1 1 _ rfl) (chain HBY.out HBe.out)
              have s2 := cell_on (F.out.2.1 2 _ rfl) (chain HBY.out HBe.out)
              have s3 := cell_on (F.out.2.1 3 _ rfl) (chain HBY.out HBe.out)
              have ON := Lib.hid (GY.out.2.2.2.1.below HBe.out)
              have TW := Lib.hid (GY.out.2.2.2.2.1.below HBe.out)
              have VV := Lib.hid (GY.out.2.1.below HBe.out)
              have AL := Lib.hid (F.out.2.2.1.trans ((chain HBY.out HBe.out).mono F.out.2.2.1.size))
              have lo0 := later_cell (cell_on (GY.out.2.2.2.2.2.1 0 _ rfl) HBe.out)
              have lo1 := later_cell (cell_on (GY.out.2.2.2.2.2.1 1 _ rfl) HBe.out)
              have lo2 := later_cell (cell_on (GY.out.2.2.2.2.2.1 2 _ rfl) HBe.out)
              have lo3 := later_cell (cell_on (GY.out.2.2.2.2.2.1 3 _ rfl) HBe.out)
              have lw0 := later_cell (cell_on (GY.out.2.2.2.2.2.2 0 _ rfl) HBe.out)
              have lw1 := later_cell (cell_on (GY.out.2.2.2.2.2.2 1 _ rfl) HBe.out)
              have lw2 := later_cell (cell_on (GY.out.2.2.2.2.2.2 2 _ rfl) HBe.out)
              have lw3 := later_cell (cell_on (GY.out.2.2.2.2.2.2 3 _ rfl) HBe.out)
              have lt0 := later_cell t0
              have lt1 := later_cell t1
              have lt2 := later_cell t2
              have lt3 := later_cell t3
              have A2 := Lib.hid (show validP 40 (.mk 6 0 0 [.mk k n m of, .mk k' n' m' of']) = true from AG2.out)
              have A1 := Lib.hid (show validP 40 (.mk 8 0 0 [.mk k n m of]) = true from AG.out.2)
              clear HB1 HB2 HB3 HB4 HB6 HB8 HB9 HBY F F0 HOK HO HX HI HA
              cases hz1 : ((of.length : Int) == 0)
              · go_wp2_with fail
                clear t0 t1 t2 t3 s0 s1 s2 s3
                refine wp_region_later (by kernel_rfl) (by kernel_rfl) ?_
                repeat (go_big_quiet_step (first
                  | with_reducible refine calls_later (right_to (b := true) (ON.out.later _) A2.out)
                  | with_reducible refine calls_later (right_to (b := true) (TW.out.later _) A1.out)
                  | with_reducible refine calls_later (refRight_to (VV.out.later _) HS.out.2.2.1)))
                refine wpQuiet_nil ?_
                rintro _ ⟨t, rfl⟩
                have HT := Lib.hid t.below
                clear lo0 lo1 lo2 lo3 lw0 lw1 lw2 lw3 lt0 lt1 lt2 lt3
                go_wp2_with fail
                go_ret
                exact ⟨rfl, AL.out.trans (HT.out.mono AL.out.size)⟩
              · cases hz2 : ((of'.length : Int) == 0)
                · go_wp2_with fail
                  clear t0 t1 t2 t3 s0 s1 s2 s3
                  refine wp_region_later (by kernel_rfl) (by kernel_rfl) ?_
                  repeat (go_big_quiet_step (first
                    | with_reducible refine calls_later (right_to (b := true) (ON.out.later _) A2.out)
                    | with_reducible refine calls_later (right_to (b := true) (TW.out.later _) A1.out)
                    | with_reducible refine calls_later (refRight_to (VV.out.later _) HS.out.2.2.1)))
                  refine wpQuiet_nil ?_
                  rintro _ ⟨t, rfl⟩
                  have HT := Lib.hid t.below
                  clear lo0 lo1 lo2 lo3 lw0 lw1 lw2 lw3 lt0 lt1 lt2 lt3
                  go_wp2_with fail
                  go_ret
                  exact ⟨rfl, AL.out.trans (HT.out.mono AL.out.size)⟩
                · go_wp2_with fail
                  clear t0 t1 t2 t3 s0 s1 s2 s3
                  refine wp_region_later (by kernel_rfl) (by kernel_rfl) ?_
                  repeat (go_big_quiet_step (first
                    | with_reducible refine calls_later (right_to (b := true) (ON.out.later _) A2.out)
                    | with_reducible refine calls_later (right_to (b := true) (TW.out.later _) A1.out)
                    | with_reducible refine calls_later (refRight_to (VV.out.later _) HS.out.2.2.1)))
                  refine wpQuiet_nil ?_
                  rintro _ ⟨t, rfl⟩
                  have HT := Lib.hid t.below
                  clear lo0 lo1 lo2 lo3 lw0 lw1 lw2 lw3 lt0 lt1 lt2 lt3
                  go_wp2_with fail
                  go_ret
                  exact ⟨rfl, AL.out.trans (HT.out.mono AL.out.size)⟩
        case true =>
          go_wp2_with fail
          refine (right_to (flat_at _ HX.out.1 HX.out.2.1) (HX.out.2.2.2 (by simp))).mono ?_
          rintro e w7 ⟨rfl, hb⟩
          have HB7 := Lib.hid (chain_alloc HB6.out hb)
          clear hb
          go_wp2_with fail
          refine (int_to HI.out.1).mono ?_
          rintro e w8 ⟨rfl, hb⟩
          have HB8 := Lib.hid (chain HB7.out hb)
          clear hb
          go_wp2_with fail
          refine (right_to (flat_at _ (by unfold I64; omega) HI.out.2.2) HI.out.2.1).mono ?_
          rintro e w9 ⟨rfl, hb⟩
          have HB9 := Lib.hid (chain HB8.out hb)
          clear hb
          have t0 := cell_on (F.out.1 0 _ rfl) HB9.out
          have ta0 := fun o o2 => alloc_on (alloc_on t0 o) o2
          have tb0 := fun o o2 o3 o4 => alloc_on (alloc_on (ta0 o o2) o3) o4
          have t1 := cell_on (F.out.1 1 _ rfl) HB9.out
          have ta1 := fun o o2 => alloc_on (alloc_on t1 o) o2
          have tb1 := fun o o2 o3 o4 => alloc_on (alloc_on (ta1 o o2) o3) o4
          have t2 := cell_on (F.out.1 2 _ rfl) HB9.out
          have ta2 := fun o o2 => alloc_on (alloc_on t2 o) o2
          have tb2 := fun o o2 o3 o4 => alloc_on (alloc_on (ta2 o o2) o3) o4
          have t3 := cell_on (F.out.1 3 _ rfl) HB9.out
          have ta3 := fun o o2 => alloc_on (alloc_on t3 o) o2
          have tb3 := fun o o2 o3 o4 => alloc_on (alloc_on (ta3 o o2) o3) o4
          have s0 := cell_on (F.out.2.1 0 _ rfl) HB9.out
          have sa0 := fun o o2 => alloc_on (alloc_on s0 o) o2
          have sb0 := fun o o2 o3 o4 => alloc_on (alloc_on (sa0 o o2) o3) o4
          have s1 := cell_on (F.out.2.1 1 _ rfl) HB9.out
          have sa1 := fun o o2 => alloc_on (alloc_on s1 o) o2
          have sb1 := fun o o2 o3 o4 => alloc_on (alloc_on (sa1 o o2) o3) o4
          have s2 := cell_on (F.out.2.1 2 _ rfl) HB9.out
          have sa2 := fun o o2 => alloc_on (alloc_on s2 o) o2
          have sb2 := fun o o2 o3 o4 => alloc_on (alloc_on (sa2 o o2) o3) o4
          have s3 := cell_on (F.out.2.1 3 _ rfl) HB9.out
          have sa3 := fun o o2 => alloc_on (alloc_on s3 o) o2
          have sb3 := fun o o2 o3 o4 => alloc_on (alloc_on (sa3 o o2) o3) o4
          have SV := Lib.hid (VAt.more (F.out.2.2.2.1.below HB9.out) d')
          have SU := Lib.hid (VAt.more (F.out.2.2.2.2.1.below HB9.out) d)
          go_wp2_with fail
          obtain ⟨Y, hY⟩ : ∃ Y, Y = ((((w9.alloc (.cells #[.int .i64 k, .int .i64 n, .int .i64 m, .slice a of.length cap, .int .i64 k', .int .i64 n', .int .i64 m', .slice a' of'.length cap'] 24)).alloc (.cells #[.int .i64 6, .int .i64 0, .int .i64 0, .slice (some ⟨w9.heap.size, 0, none⟩) 2 2] 24)).alloc (.cells #[.int .i64 k, .int .i64 n, .int .i64 m, .slice a of.length cap] 24)).alloc (.cells #[.int .i64 8, .int .i64 0, .int .i64 0, .slice (some ⟨w9.heap.size + 1 + 1, 0, none⟩) 1 1] 24)) := ⟨_, rfl⟩
          rw [← hY]
          have G := stay_at (w9 := w9) SV.out SU.out hY
          have GY := Lib.hid G
          have HBY := Lib.hid (chain HB9.out G.1)
          clear hY G t0 t1 t2 t3 s0 s1 s2 s3 ta0 ta1 ta2 ta3 sa0 sa1 sa2 sa3 tb0 tb1 tb2 tb3 sb0 sb1 sb2 sb3 SV SU
          refine (refRight_to GY.out.2.1 HS.out.2.2.1).mono ?_
          rintro e wa ⟨rfl, hb⟩
          have HBa := Lib.hid hb
          clear hb
          cases P
          case false =>
            have o0 := cell_on (GY.out.2.2.2.2.2.1 0 _ rfl) HBa.out
            have o1 := cell_on (GY.out.2.2.2.2.2.1 1 _ rfl) HBa.out
            have o2 := cell_on (GY.out.2.2.2.2.2.1 2 _ rfl) HBa.out
            have o3 := cell_on (GY.out.2.2.2.2.2.1 3 _ rfl) HBa.out
            go_wp2_with fail
            refine (right_to (b := false) (GY.out.2.2.2.1.below HBa.out) AG2.out).mono ?_
            rintro e wc ⟨rfl, hb⟩
            have HBc := Lib.hid (chain HBa.out hb)
            clear hb o0 o1 o2 o3
            have o0 := cell_on (GY.out.2.2.2.2.2.2 0 _ rfl) HBc.out
            have o1 := cell_on (GY.out.2.2.2.2.2.2 1 _ rfl) HBc.out
            have o2 := cell_on (GY.out.2.2.2.2.2.2 2 _ rfl) HBc.out
            have o3 := cell_on (GY.out.2.2.2.2.2.2 3 _ rfl) HBc.out
            go_wp2_with fail
            refine (right_to (b := false) (GY.out.2.2.2.2.1.below HBc.out) AG.out.2).mono ?_
            rintro e wd ⟨rfl, hb⟩
            have HBd := Lib.hid (chain HBc.out hb)
            clear hb o0 o1 o2 o3
            have t0 := cell_on (F.out.1 0 _ rfl) (chain HBY.out HBd.out)
            have t1 := cell_on (F.out.1 1 _ rfl) (chain HBY.out HBd.out)
            have t2 := cell_on (F.out.1 2 _ rfl) (chain HBY.out HBd.out)
            have t3 := cell_on (F.out.1 3 _ rfl) (chain HBY.out HBd.out)
            have s0 := cell_on (F.out.2.1 0 _ rfl) (chain HBY.out HBd.out)
            have s1 := cell_on (F.out.2.1 1 _ rfl) (chain HBY.out HBd.out)
            have s2 := cell_on (F.out.2.1 2 _ rfl) (chain HBY.out HBd.out)
            have s3 := cell_on (F.out.2.1 3 _ rfl) (chain HBY.out HBd.out)
            have ON := Lib.hid (GY.out.2.2.2.1.below HBd.out)
            have TW := Lib.hid (GY.out.2.2.2.2.1.below HBd.out)
            have VV := Lib.hid (GY.out.2.1.below HBd.out)
            have AL := Lib.hid (F.out.2.2.1.trans ((chain HBY.out HBd.out).mono F.out.2.2.1.size))
            have lo0 := later_cell (cell_on (GY.out.2.2.2.2.2.1 0 _ rfl) HBd.out)
            have lo1 := later_cell (cell_on (GY.out.2.2.2.2.2.1 1 _ rfl) HBd.out)
            have lo2 := later_cell (cell_on (GY.out.2.2.2.2.2.1 2 _ rfl) HBd.out)
            have lo3 := later_cell (cell_on (GY.out.2.2.2.2.2.1 3 _ rfl) HBd.out)
            have lw0 := later_cell (cell_on (GY.out.2.2.2.2.2.2 0 _ rfl) HBd.out)
            have lw1 := later_cell (cell_on (GY.out.2.2.2.2.2.2 1 _ rfl) HBd.out)
            have lw2 := later_cell (cell_on (GY.out.2.2.2.2.2.2 2 _ rfl) HBd.out)
            have lw3 := later_cell (cell_on (GY.out.2.2.2.2.2.2 3 _ rfl) HBd.out)
            have lt0 := later_cell t0
            have lt1 := later_cell t1
            have lt2 := later_cell t2
            have lt3 := later_cell t3
            have A2 := Lib.hid (show validP 40 (.mk 6 0 0 [.mk k n m of, .mk k' n' m' of']) = false from AG2.out)
            have A1 := Lib.hid (show validP 40 (.mk 8 0 0 [.mk k n m of]) = false from AG.out.2)
            clear HB1 HB2 HB3 HB4 HB6 HB8 HB9 HBY F F0 HOK HO HX HI HA
            cases hz1 : ((of.length : Int) == 0)
            · go_wp2_with fail
              clear t0 t1 t2 t3 s0 s1 s2 s3
              refine wp_region_later (by kernel_rfl) (by kernel_rfl) ?_
              repeat (go_big_quiet_step (first
                | with_reducible refine calls_later (right_to (b := false) (ON.out.later _) A2.out)
                | with_reducible refine calls_later (right_to (b := false) (TW.out.later _) A1.out)
                | with_reducible refine calls_later (refRight_to (VV.out.later _) HS.out.2.2.1)))
              refine wpQuiet_nil ?_
              rintro _ ⟨t, rfl⟩
              have HT := Lib.hid t.below
              clear lo0 lo1 lo2 lo3 lw0 lw1 lw2 lw3 lt0 lt1 lt2 lt3
              go_wp2_with fail
              go_ret
              exact ⟨rfl, AL.out.trans (HT.out.mono AL.out.size)⟩
            · cases hz2 : ((of'.length : Int) == 0)
              · go_wp2_with fail
                clear t0 t1 t2 t3 s0 s1 s2 s3
                refine wp_region_later (by kernel_rfl) (by kernel_rfl) ?_
                repeat (go_big_quiet_step (first
                  | with_reducible refine calls_later (right_to (b := false) (ON.out.later _) A2.out)
                  | with_reducible refine calls_later (right_to (b := false) (TW.out.later _) A1.out)
                  | with_reducible refine calls_later (refRight_to (VV.out.later _) HS.out.2.2.1)))
                refine wpQuiet_nil ?_
                rintro _ ⟨t, rfl⟩
                have HT := Lib.hid t.below
                clear lo0 lo1 lo2 lo3 lw0 lw1 lw2 lw3 lt0 lt1 lt2 lt3
                go_wp2_with fail
                go_ret
                exact ⟨rfl, AL.out.trans (HT.out.mono AL.out.size)⟩
              · go_wp2_with fail
                clear t0 t1 t2 t3 s0 s1 s2 s3
                refine wp_region_later (by kernel_rfl) (by kernel_rfl) ?_
                repeat (go_big_quiet_step (first
                  | with_reducible refine calls_later (right_to (b := false) (ON.out.later _) A2.out)
                  | with_reducible refine calls_later (right_to (b := false) (TW.out.later _) A1.out)
                  | with_reducible refine calls_later (refRight_to (VV.out.later _) HS.out.2.2.1)))
                refine wpQuiet_nil ?_
                rintro _ ⟨t, rfl⟩
                have HT := Lib.hid t.below
                clear lo0 lo1 lo2 lo3 lw0 lw1 lw2 lw3 lt0 lt1 lt2 lt3
                go_wp2_with fail
                go_ret
                exact ⟨rfl, AL.out.trans (HT.out.mono AL.out.size)⟩
          case true =>
            have s0 := cell_on (F.out.2.1 0 _ rfl) (chain HBY.out HBa.out)
            have s1 := cell_on (F.out.2.1 1 _ rfl) (chain HBY.out HBa.out)
            have s2 := cell_on (F.out.2.1 2 _ rfl) (chain HBY.out HBa.out)
            have s3 := cell_on (F.out.2.1 3 _ rfl) (chain HBY.out HBa.out)
            go_wp2_with fail
            refine (refRight_to (GY.out.2.2.1.below HBa.out) HS.out.2.2.2).mono ?_
            rintro e wb ⟨rfl, hb⟩
            have HBb := Lib.hid (chain HBa.out hb)
            clear hb s0 s1 s2 s3
            cases Q
            case false =>
              have o0 := cell_on (GY.out.2.2.2.2.2.1 0 _ rfl) HBb.out
              have o1 := cell_on (GY.out.2.2.2.2.2.1 1 _ rfl) HBb.out
              have o2 := cell_on (GY.out.2.2.2.2.2.1 2 _ rfl) HBb.out
              have o3 := cell_on (GY.out.2.2.2.2.2.1 3 _ rfl) HBb.out
              go_wp2_with fail
              refine (right_to (b := false) (GY.out.2.2.2.1.below HBb.out) AG2.out).mono ?_
              rintro e wc ⟨rfl, hb⟩
              have HBc := Lib.hid (chain HBb.out hb)
              clear hb o0 o1 o2 o3
              have o0 := cell_on (GY.out.2.2.2.2.2.2 0 _ rfl) HBc.out
              have o1 := cell_on (GY.out.2.2.2.2.2.2 1 _ rfl) HBc.out
              have o2 := cell_on (GY.out.2.2.2.2.2.2 2 _ rfl) HBc.out
              have o3 := cell_on (GY.out.2.2.2.2.2.2 3 _ rfl) HBc.out
              go_wp2_with fail
              refine (right_to (b := true) (GY.out.2.2.2.2.1.below HBc.out) AG.out.2).mono ?_
              rintro e wd ⟨rfl, hb⟩
              have HBd := Lib.hid (chain HBc.out hb)
              clear hb o0 o1 o2 o3
              have t0 := cell_on (F.out.1 0 _ rfl) (chain HBY.out HBd.out)
              have t1 := cell_on (F.out.1 1 _ rfl) (chain HBY.out HBd.out)
              have t2 := cell_on (F.out.1 2 _ rfl) (chain HBY.out HBd.out)
              have t3 := cell_on (F.out.1 3 _ rfl) (chain HBY.out HBd.out)
              go_wp2_with fail
              refine (refRight_to (GY.out.2.1.below HBd.out) HS.out.2.2.1).mono ?_
              rintro e we ⟨rfl, hb⟩
              have HBe := Lib.hid (chain HBd.out hb)
              clear hb t0 t1 t2 t3
              have t0 := cell_on (F.out.1 0 _ rfl) (chain HBY.out HBe.out)
              have t1 := cell_on (F.out.1 1 _ rfl) (chain HBY.out HBe.out)
              have t2 := cell_on (F.out.1 2 _ rfl) (chain HBY.out HBe.out)
              have t3 := cell_on (F.out.1 3 _ rfl) (chain HBY.out HBe.out)
              have s0 := cell_on (F.out.2.1 0 _ rfl) (chain HBY.out HBe.out)
              have s1 := cell_on (F.out.2.1 1 _ rfl) (chain HBY.out HBe.out)
              have s2 := cell_on (F.out.2.1 2 _ rfl) (chain HBY.out HBe.out)
              have s3 := cell_on (F.out.2.1 3 _ rfl) (chain HBY.out HBe.out)
              have ON := Lib.hid (GY.out.2.2.2.1.below HBe.out)
              have TW := Lib.hid (GY.out.2.2.2.2.1.below HBe.out)
              have VV := Lib.hid (GY.out.2.1.below HBe.out)
              have AL := Lib.hid (F.out.2.2.1.trans ((chain HBY.out HBe.out).mono F.out.2.2.1.size))
              have lo0 := later_cell (cell_on (GY.out.2.2.2.2.2.1 0 _ rfl) HBe.out)
              have lo1 := later_cell (cell_on (GY.out.2.2.2.2.2.1 1 _ rfl) HBe.out)
              have lo2 := later_cell (cell_on (GY.out.2.2.2.2.2.1 2 _ rfl) HBe.out)
              have lo3 := later_cell (cell_on (GY.out.2.2.2.2.2.1 3 _ rfl) HBe.out)
              have lw0 := later_cell (cell_on (GY.out.2.2.2.2.2.2 0 _ rfl) HBe.out)
              have lw1 := later_cell (cell_on (GY.out.2.2.2.2.2.2 1 _ rfl) HBe.out)
              have lw2 := later_cell (cell_on (GY.out.2.2.2.2.2.2 2 _ rfl) HBe.out)
              have lw3 := later_cell (cell_on (GY.out.2.2.2.2.2.2 3 _ rfl) HBe.out)
              have lt0 := later_cell t0
              have lt1 := later_cell t1
              have lt2 := later_cell t2
              have lt3 := later_cell t3
              have A2 := Lib.hid (show validP 40 (.mk 6 0 0 [.mk k n m of, .mk k' n' m' of']) = false from AG2.out)
              have A1 := Lib.hid (show validP 40 (.mk 8 0 0 [.mk k n m of]) = true from AG.out.2)
              clear HB1 HB2 HB3 HB4 HB6 HB8 HB9 HBY F F0 HOK HO HX HI HA
              cases hz1 : ((of.length : Int) == 0)
              · go_wp2_with fail
                clear t0 t1 t2 t3 s0 s1 s2 s3
                refine wp_region_later (by kernel_rfl) (by kernel_rfl) ?_
                repeat (go_big_quiet_step (first
                  | with_reducible refine calls_later (right_to (b := false) (ON.out.later _) A2.out)
                  | with_reducible refine calls_later (right_to (b := true) (TW.out.later _) A1.out)
                  | with_reducible refine calls_later (refRight_to (VV.out.later _) HS.out.2.2.1)))
                refine wpQuiet_nil ?_
                rintro _ ⟨t, rfl⟩
                have HT := Lib.hid t.below
                clear lo0 lo1 lo2 lo3 lw0 lw1 lw2 lw3 lt0 lt1 lt2 lt3
                go_wp2_with fail
                go_ret
                exact ⟨rfl, AL.out.trans (HT.out.mono AL.out.size)⟩
              · cases hz2 : ((of'.length : Int) == 0)
                · go_wp2_with fail
                  clear t0 t1 t2 t3 s0 s1 s2 s3
                  refine wp_region_later (by kernel_rfl) (by kernel_rfl) ?_
                  repeat (go_big_quiet_step (first
                    | with_reducible refine calls_later (right_to (b := false) (ON.out.later _) A2.out)
                    | with_reducible refine calls_later (right_to (b := true) (TW.out.later _) A1.out)
                    | with_reducible refine calls_later (refRight_to (VV.out.later _) HS.out.2.2.1)))
                  refine wpQuiet_nil ?_
                  rintro _ ⟨t, rfl⟩
                  have HT := Lib.hid t.below
                  clear lo0 lo1 lo2 lo3 lw0 lw1 lw2 lw3 lt0 lt1 lt2 lt3
                  go_wp2_with fail
                  go_ret
                  exact ⟨rfl, AL.out.trans (HT.out.mono AL.out.size)⟩
                · go_wp2_with fail
                  clear t0 t1 t2 t3 s0 s1 s2 s3
                  refine wp_region_later (by kernel_rfl) (by kernel_rfl) ?_
                  repeat (go_big_quiet_step (first
                    | with_reducible refine calls_later (right_to (b := false) (ON.out.later _) A2.out)
                    | with_reducible refine calls_later (right_to (b := true) (TW.out.later _) A1.out)
                    | with_reducible refine calls_later (refRight_to (VV.out.later _) HS.out.2.2.1)))
                  refine wpQuiet_nil ?_
                  rintro _ ⟨t, rfl⟩
                  have HT := Lib.hid t.below
                  clear lo0 lo1 lo2 lo3 lw0 lw1 lw2 lw3 lt0 lt1 lt2 lt3
                  go_wp2_with fail
                  go_ret
                  exact ⟨rfl, AL.out.trans (HT.out.mono AL.out.size)⟩
            case true =>
              have o0 := cell_on (GY.out.2.2.2.2.2.1 0 _ rfl) HBb.out
              have o1 := cell_on (GY.out.2.2.2.2.2.1 1 _ rfl) HBb.out
              have o2 := cell_on (GY.out.2.2.2.2.2.1 2 _ rfl) HBb.out
              have o3 := cell_on (GY.out.2.2.2.2.2.1 3 _ rfl) HBb.out
              go_wp2_with fail
              refine (right_to (b := true) (GY.out.2.2.2.1.below HBb.out) AG2.out).mono ?_
              rintro e wc ⟨rfl, hb⟩
              have HBc := Lib.hid (chain HBb.out hb)
              clear hb o0 o1 o2 o3
              have o0 := cell_on (GY.out.2.2.2.2.2.2 0 _ rfl) HBc.out
              have o1 := cell_on (GY.out.2.2.2.2.2.2 1 _ rfl) HBc.out
              have o2 := cell_on (GY.out.2.2.2.2.2.2 2 _ rfl) HBc.out
              have o3 := cell_on (GY.out.2.2.2.2.2.2 3 _ rfl) HBc.out
              go_wp2_with fail
              refine (right_to (b := true) (GY.out.2.2.2.2.1.below HBc.out) AG.out.2).mono ?_
              rintro e wd ⟨rfl, hb⟩
              have HBd := Lib.hid (chain HBc.out hb)
              clear hb o0 o1 o2 o3
              have t0 := cell_on (F.out.1 0 _ rfl) (chain HBY.out HBd.out)
              have t1 := cell_on (F.out.1 1 _ rfl) (chain HBY.out HBd.out)
              have t2 := cell_on (F.out.1 2 _ rfl) (chain HBY.out HBd.out)
              have t3 := cell_on (F.out.1 3 _ rfl) (chain HBY.out HBd.out)
              go_wp2_with fail
              refine (refRight_to (GY.out.2.1.below HBd.out) HS.out.2.2.1).mono ?_
              rintro e we ⟨rfl, hb⟩
              have HBe := Lib.hid (chain HBd.out hb)
              clear hb t0 t1 t2 t3
              have t0 := cell_on (F.out.1 0 _ rfl) (chain HBY.out HBe.out)
              have t1 := cell_on (F.out.1 1 _ rfl) (chain HBY.out HBe.out)
              have t2 := cell_on (F.out.1 2 _ rfl) (chain HBY.out HBe.out)
              have t3 := cell_on (F.out.1 3 _ rfl) (chain HBY.out HBe.out)
              have s0 := cell_on (F.out.2.1 0 _ rfl) (chain HBY.out HBe.out)
              have s1 := cell_on (F.out.2.1 1 _ rfl) (chain HBY.out HBe.out)
              have s2 := cell_on (F.out.2.1 2 _ rfl) (chain HBY.out HBe.out)
              have s3 := cell_on (F.out.2.1 3 _ rfl) (chain HBY.out HBe.out)
              have ON := Lib.hid (GY.out.2.2.2.1.below HBe.out)
              have TW := Lib.hid (GY.out.2.2.2.2.1.below HBe.out)
              have VV := Lib.hid (GY.out.2.1.below HBe.out)
              have AL := Lib.hid (F.out.2.2.1.trans ((chain HBY.out HBe.out).mono F.out.2.2.1.size))
              have lo0 := later_cell (cell_on (GY.out.2.2.2.2.2.1 0 _ rfl) HBe.out)
              have lo1 := later_cell (cell_on (GY.out.2.2.2.2.2.1 1 _ rfl) HBe.out)
              have lo2 := later_cell (cell_on (GY.out.2.2.2.2.2.1 2 _ rfl) HBe.out)
              have lo3 := later_cell (cell_on (GY.out.2.2.2.2.2.1 3 _ rfl) HBe.out)
              have lw0 := later_cell (cell_on (GY.out.2.2.2.2.2.2 0 _ rfl) HBe.out)
              have lw1 := later_cell (cell_on (GY.out.2.2.2.2.2.2 1 _ rfl) HBe.out)
              have lw2 := later_cell (cell_on (GY.out.2.2.2.2.2.2 2 _ rfl) HBe.out)
              have lw3 := later_cell (cell_on (GY.out.2.2.2.2.2.2 3 _ rfl) HBe.out)
              have lt0 := later_cell t0
              have lt1 := later_cell t1
              have lt2 := later_cell t2
              have lt3 := later_cell t3
              have A2 := Lib.hid (show validP 40 (.mk 6 0 0 [.mk k n m of, .mk k' n' m' of']) = true from AG2.out)
              have A1 := Lib.hid (show validP 40 (.mk 8 0 0 [.mk k n m of]) = true from AG.out.2)
              clear HB1 HB2 HB3 HB4 HB6 HB8 HB9 HBY F F0 HOK HO HX HI HA
              cases hz1 : ((of.length : Int) == 0)
              · go_wp2_with fail
                clear t0 t1 t2 t3 s0 s1 s2 s3
                refine wp_region_later (by kernel_rfl) (by kernel_rfl) ?_
                repeat (go_big_quiet_step (first
                  | with_reducible refine calls_later (right_to (b := true) (ON.out.later _) A2.out)
                  | with_reducible refine calls_later (right_to (b := true) (TW.out.later _) A1.out)
                  | with_reducible refine calls_later (refRight_to (VV.out.later _) HS.out.2.2.1)))
                refine wpQuiet_nil ?_
                rintro _ ⟨t, rfl⟩
                have HT := Lib.hid t.below
                clear lo0 lo1 lo2 lo3 lw0 lw1 lw2 lw3 lt0 lt1 lt2 lt3
                go_wp2_with fail
                go_ret
                exact ⟨rfl, AL.out.trans (HT.out.mono AL.out.size)⟩
              · cases hz2 : ((of'.length : Int) == 0)
                · go_wp2_with fail
                  clear t0 t1 t2 t3 s0 s1 s2 s3
                  refine wp_region_later (by kernel_rfl) (by kernel_rfl) ?_
                  repeat (go_big_quiet_step (first
                    | with_reducible refine calls_later (right_to (b := true) (ON.out.later _) A2.out)
                    | with_reducible refine calls_later (right_to (b := true) (TW.out.later _) A1.out)
                    | with_reducible refine calls_later (refRight_to (VV.out.later _) HS.out.2.2.1)))
                  refine wpQuiet_nil ?_
                  rintro _ ⟨t, rfl⟩
                  have HT := Lib.hid t.below
                  clear lo0 lo1 lo2 lo3 lw0 lw1 lw2 lw3 lt0 lt1 lt2 lt3
                  go_wp2_with fail
                  go_ret
                  exact ⟨rfl, AL.out.trans (HT.out.mono AL.out.size)⟩
                · go_wp2_with fail
                  clear t0 t1 t2 t3 s0 s1 s2 s3
                  refine wp_region_later (by kernel_rfl) (by kernel_rfl) ?_
                  repeat (go_big_quiet_step (first
                    | with_reducible refine calls_later (right_to (b := true) (ON.out.later _) A2.out)
                    | with_reducible refine calls_later (right_to (b := true) (TW.out.later _) A1.out)
                    | with_reducible refine calls_later (refRight_to (VV.out.later _) HS.out.2.2.1)))
                  refine wpQuiet_nil ?_
                  rintro _ ⟨t, rfl⟩
                  have HT := Lib.hid t.below
                  clear lo0 lo1 lo2 lo3 lw0 lw1 lw2 lw3 lt0 lt1 lt2 lt3
                  go_wp2_with fail
                  go_ret
                  exact ⟨rfl, AL.out.trans (HT.out.mono AL.out.size)⟩
      · have t0 := alloc_on (cell_on (F.out.1 0 _ rfl) HB4.out)
        have t1 := alloc_on (cell_on (F.out.1 1 _ rfl) HB4.out)
        have t2 := alloc_on (cell_on (F.out.1 2 _ rfl) HB4.out)
        have t3 := alloc_on (cell_on (F.out.1 3 _ rfl) HB4.out)
        go_wp2_with fail
        refine (index_any _ _ _ _ _ _ _ _ (F.out.2.2.2.1.below (alloc_below HB4.out))).mono ?_
        rintro e w6 ⟨he, hb⟩
        rw [AG.out.1, HX.out.2.2.1] at he
        subst he
        have HB6 := Lib.hid (chain (alloc_below HB4.out) hb)
        clear hb t0 t1 t2 t3
        cases bx
        case false =>
          go_wp2_with fail
          refine (int_to HI.out.1).mono ?_
          rintro e w8 ⟨rfl, hb⟩
          have HB8 := Lib.hid (chain_alloc HB6.out hb)
          clear hb
          go_wp2_with fail
          refine (right_to (flat_at _ (by unfold I64; omega) HI.out.2.2) HI.out.2.1).mono ?_
          rintro e w9 ⟨rfl, hb⟩
          have HB9 := Lib.hid (chain HB8.out hb)
          clear hb
          have t0 := cell_on (F.out.1 0 _ rfl) HB9.out
          have ta0 := fun o o2 => alloc_on (alloc_on t0 o) o2
          have tb0 := fun o o2 o3 o4 => alloc_on (alloc_on (ta0 o o2) o3) o4
          have t1 := cell_on (F.out.1 1 _ rfl) HB9.out
          have ta1 := fun o o2 => alloc_on (alloc_on t1 o) o2
          have tb1 := fun o o2 o3 o4 => alloc_on (alloc_on (ta1 o o2) o3) o4
          have t2 := cell_on (F.out.1 2 _ rfl) HB9.out
          have ta2 := fun o o2 => alloc_on (alloc_on t2 o) o2
          have tb2 := fun o o2 o3 o4 => alloc_on (alloc_on (ta2 o o2) o3) o4
          have t3 := cell_on (F.out.1 3 _ rfl) HB9.out
          have ta3 := fun o o2 => alloc_on (alloc_on t3 o) o2
          have tb3 := fun o o2 o3 o4 => alloc_on (alloc_on (ta3 o o2) o3) o4
          have s0 := cell_on (F.out.2.1 0 _ rfl) HB9.out
          have sa0 := fun o o2 => alloc_on (alloc_on s0 o) o2
          have sb0 := fun o o2 o3 o4 => alloc_on (alloc_on (sa0 o o2) o3) o4
          have s1 := cell_on (F.out.2.1 1 _ rfl) HB9.out
          have sa1 := fun o o2 => alloc_on (alloc_on s1 o) o2
          have sb1 := fun o o2 o3 o4 => alloc_on (alloc_on (sa1 o o2) o3) o4
          have s2 := cell_on (F.out.2.1 2 _ rfl) HB9.out
          have sa2 := fun o o2 => alloc_on (alloc_on s2 o) o2
          have sb2 := fun o o2 o3 o4 => alloc_on (alloc_on (sa2 o o2) o3) o4
          have s3 := cell_on (F.out.2.1 3 _ rfl) HB9.out
          have sa3 := fun o o2 => alloc_on (alloc_on s3 o) o2
          have sb3 := fun o o2 o3 o4 => alloc_on (alloc_on (sa3 o o2) o3) o4
          have SV := Lib.hid (VAt.more (F.out.2.2.2.1.below HB9.out) d')
          have SU := Lib.hid (VAt.more (F.out.2.2.2.2.1.below HB9.out) d)
          go_wp2_with fail
          obtain ⟨Y, hY⟩ : ∃ Y, Y = ((((w9.alloc (.cells #[.int .i64 k, .int .i64 n, .int .i64 m, .slice a of.length cap, .int .i64 k', .int .i64 n', .int .i64 m', .slice a' of'.length cap'] 24)).alloc (.cells #[.int .i64 6, .int .i64 0, .int .i64 0, .slice (some ⟨w9.heap.size, 0, none⟩) 2 2] 24)).alloc (.cells #[.int .i64 k, .int .i64 n, .int .i64 m, .slice a of.length cap] 24)).alloc (.cells #[.int .i64 8, .int .i64 0, .int .i64 0, .slice (some ⟨w9.heap.size + 1 + 1, 0, none⟩) 1 1] 24)) := ⟨_, rfl⟩
          rw [← hY]
          have G := stay_at (w9 := w9) SV.out SU.out hY
          have GY := Lib.hid G
          have HBY := Lib.hid (chain HB9.out G.1)
          clear hY G t0 t1 t2 t3 s0 s1 s2 s3 ta0 ta1 ta2 ta3 sa0 sa1 sa2 sa3 tb0 tb1 tb2 tb3 sb0 sb1 sb2 sb3 SV SU
          refine (refRight_to GY.out.2.1 HS.out.2.2.1).mono ?_
          rintro e wa ⟨rfl, hb⟩
          have HBa := Lib.hid hb
          clear hb
          cases P
          case false =>
            have o0 := cell_on (GY.out.2.2.2.2.2.1 0 _ rfl) HBa.out
            have o1 := cell_on (GY.out.2.2.2.2.2.1 1 _ rfl) HBa.out
            have o2 := cell_on (GY.out.2.2.2.2.2.1 2 _ rfl) HBa.out
            have o3 := cell_on (GY.out.2.2.2.2.2.1 3 _ rfl) HBa.out
            go_wp2_with fail
            refine (right_to (b := false) (GY.out.2.2.2.1.below HBa.out) AG2.out).mono ?_
            rintro e wc ⟨rfl, hb⟩
            have HBc := Lib.hid (chain HBa.out hb)
            clear hb o0 o1 o2 o3
            have o0 := cell_on (GY.out.2.2.2.2.2.2 0 _ rfl) HBc.out
            have o1 := cell_on (GY.out.2.2.2.2.2.2 1 _ rfl) HBc.out
            have o2 := cell_on (GY.out.2.2.2.2.2.2 2 _ rfl) HBc.out
            have o3 := cell_on (GY.out.2.2.2.2.2.2 3 _ rfl) HBc.out
            go_wp2_with fail
            refine (right_to (b := false) (GY.out.2.2.2.2.1.below HBc.out) AG.out.2).mono ?_
            rintro e wd ⟨rfl, hb⟩
            have HBd := Lib.hid (chain HBc.out hb)
            clear hb o0 o1 o2 o3
            have t0 := cell_on (F.out.1 0 _ rfl) (chain HBY.out HBd.out)
            have t1 := cell_on (F.out.1 1 _ rfl) (chain HBY.out HBd.out)
            have t2 := cell_on (F.out.1 2 _ rfl) (chain HBY.out HBd.out)
            have t3 := cell_on (F.out.1 3 _ rfl) (chain HBY.out HBd.out)
            have s0 := cell_on (F.out.2.1 0 _ rfl) (chain HBY.out HBd.out)
            have s1 := cell_on (F.out.2.1 1 _ rfl) (chain HBY.out HBd.out)
            have s2 := cell_on (F.out.2.1 2 _ rfl) (chain HBY.out HBd.out)
            have s3 := cell_on (F.out.2.1 3 _ rfl) (chain HBY.out HBd.out)
            have ON := Lib.hid (GY.out.2.2.2.1.below HBd.out)
            have TW := Lib.hid (GY.out.2.2.2.2.1.below HBd.out)
            have VV := Lib.hid (GY.out.2.1.below HBd.out)
            have AL := Lib.hid (F.out.2.2.1.trans ((chain HBY.out HBd.out).mono F.out.2.2.1.size))
            have lo0 := later_cell (cell_on (GY.out.2.2.2.2.2.1 0 _ rfl) HBd.out)
            have lo1 := later_cell (cell_on (GY.out.2.2.2.2.2.1 1 _ rfl) HBd.out)
            have lo2 := later_cell (cell_on (GY.out.2.2.2.2.2.1 2 _ rfl) HBd.out)
            have lo3 := later_cell (cell_on (GY.out.2.2.2.2.2.1 3 _ rfl) HBd.out)
            have lw0 := later_cell (cell_on (GY.out.2.2.2.2.2.2 0 _ rfl) HBd.out)
            have lw1 := later_cell (cell_on (GY.out.2.2.2.2.2.2 1 _ rfl) HBd.out)
            have lw2 := later_cell (cell_on (GY.out.2.2.2.2.2.2 2 _ rfl) HBd.out)
            have lw3 := later_cell (cell_on (GY.out.2.2.2.2.2.2 3 _ rfl) HBd.out)
            have lt0 := later_cell t0
            have lt1 := later_cell t1
            have lt2 := later_cell t2
            have lt3 := later_cell t3
            have A2 := Lib.hid (show validP 40 (.mk 6 0 0 [.mk k n m of, .mk k' n' m' of']) = false from AG2.out)
            have A1 := Lib.hid (show validP 40 (.mk 8 0 0 [.mk k n m of]) = false from AG.out.2)
            clear HB1 HB2 HB3 HB4 HB6 HB8 HB9 HBY F F0 HOK HO HX HI HA
            cases hz1 : ((of.length : Int) == 0)
            · go_wp2_with fail
              clear t0 t1 t2 t3 s0 s1 s2 s3
              refine wp_region_later (by kernel_rfl) (by kernel_rfl) ?_
              repeat (go_big_quiet_step (first
                | with_reducible refine calls_later (right_to (b := false) (ON.out.later _) A2.out)
                | with_reducible refine calls_later (right_to (b := false) (TW.out.later _) A1.out)
                | with_reducible refine calls_later (refRight_to (VV.out.later _) HS.out.2.2.1)))
              refine wpQuiet_nil ?_
              rintro _ ⟨t, rfl⟩
              have HT := Lib.hid t.below
              clear lo0 lo1 lo2 lo3 lw0 lw1 lw2 lw3 lt0 lt1 lt2 lt3
              go_wp2_with fail
              go_ret
              exact ⟨rfl, AL.out.trans (HT.out.mono AL.out.size)⟩
            · cases hz2 : ((of'.length : Int) == 0)
              · go_wp2_with fail
                clear t0 t1 t2 t3 s0 s1 s2 s3
                refine wp_region_later (by kernel_rfl) (by kernel_rfl) ?_
                repeat (go_big_quiet_step (first
                  | with_reducible refine calls_later (right_to (b := false) (ON.out.later _) A2.out)
                  | with_reducible refine calls_later (right_to (b := false) (TW.out.later _) A1.out)
                  | with_reducible refine calls_later (refRight_to (VV.out.later _) HS.out.2.2.1)))
                refine wpQuiet_nil ?_
                rintro _ ⟨t, rfl⟩
                have HT := Lib.hid t.below
                clear lo0 lo1 lo2 lo3 lw0 lw1 lw2 lw3 lt0 lt1 lt2 lt3
                go_wp2_with fail
                go_ret
                exact ⟨rfl, AL.out.trans (HT.out.mono AL.out.size)⟩
              · go_wp2_with fail
                clear t0 t1 t2 t3 s0 s1 s2 s3
                refine wp_region_later (by kernel_rfl) (by kernel_rfl) ?_
                repeat (go_big_quiet_step (first
                  | with_reducible refine calls_later (right_to (b := false) (ON.out.later _) A2.out)
                  | with_reducible refine calls_later (right_to (b := false) (TW.out.later _) A1.out)
                  | with_reducible refine calls_later (refRight_to (VV.out.later _) HS.out.2.2.1)))
                refine wpQuiet_nil ?_
                rintro _ ⟨t, rfl⟩
                have HT := Lib.hid t.below
                clear lo0 lo1 lo2 lo3 lw0 lw1 lw2 lw3 lt0 lt1 lt2 lt3
                go_wp2_with fail
                go_ret
                exact ⟨rfl, AL.out.trans (HT.out.mono AL.out.size)⟩
          case true =>
            have s0 := cell_on (F.out.2.1 0 _ rfl) (chain HBY.out HBa.out)
            have s1 := cell_on (F.out.2.1 1 _ rfl) (chain HBY.out HBa.out)
            have s2 := cell_on (F.out.2.1 2 _ rfl) (chain HBY.out HBa.out)
            have s3 := cell_on (F.out.2.1 3 _ rfl) (chain HBY.out HBa.out)
            go_wp2_with fail
            refine (refRight_to (GY.out.2.2.1.below HBa.out) HS.out.2.2.2).mono ?_
            rintro e wb ⟨rfl, hb⟩
            have HBb := Lib.hid (chain HBa.out hb)
            clear hb s0 s1 s2 s3
            cases Q
            case false =>
              have o0 := cell_on (GY.out.2.2.2.2.2.1 0 _ rfl) HBb.out
              have o1 := cell_on (GY.out.2.2.2.2.2.1 1 _ rfl) HBb.out
              have o2 := cell_on (GY.out.2.2.2.2.2.1 2 _ rfl) HBb.out
              have o3 := cell_on (GY.out.2.2.2.2.2.1 3 _ rfl) HBb.out
              go_wp2_with fail
              refine (right_to (b := false) (GY.out.2.2.2.1.below HBb.out) AG2.out).mono ?_
              rintro e wc ⟨rfl, hb⟩
              have HBc := Lib.hid (chain HBb.out hb)
              clear hb o0 o1 o2 o3
              have o0 := cell_on (GY.out.2.2.2.2.2.2 0 _ rfl) HBc.out
              have o1 := cell_on (GY.out.2.2.2.2.2.2 1 _ rfl) HBc.out
              have o2 := cell_on (GY.out.2.2.2.2.2.2 2 _ rfl) HBc.out
              have o3 := cell_on (GY.out.2.2.2.2.2.2 3 _ rfl) HBc.out
              go_wp2_with fail
              refine (right_to (b := true) (GY.out.2.2.2.2.1.below HBc.out) AG.out.2).mono ?_
              rintro e wd ⟨rfl, hb⟩
              have HBd := Lib.hid (chain HBc.out hb)
              clear hb o0 o1 o2 o3
              have t0 := cell_on (F.out.1 0 _ rfl) (chain HBY.out HBd.out)
              have t1 := cell_on (F.out.1 1 _ rfl) (chain HBY.out HBd.out)
              have t2 := cell_on (F.out.1 2 _ rfl) (chain HBY.out HBd.out)
              have t3 := cell_on (F.out.1 3 _ rfl) (chain HBY.out HBd.out)
              go_wp2_with fail
              refine (refRight_to (GY.out.2.1.below HBd.out) HS.out.2.2.1).mono ?_
              rintro e we ⟨rfl, hb⟩
              have HBe := Lib.hid (chain HBd.out hb)
              clear hb t0 t1 t2 t3
              have t0 := cell_on (F.out.1 0 _ rfl) (chain HBY.out HBe.out)
              have t1 := cell_on (F.out.1 1 _ rfl) (chain HBY.out HBe.out)
              have t2 := cell_on (F.out.1 2 _ rfl) (chain HBY.out HBe.out)
              have t3 := cell_on (F.out.1 3 _ rfl) (chain HBY.out HBe.out)
              have s0 := cell_on (F.out.2.1 0 _ rfl) (chain HBY.out HBe.out)
              have s1 := cell_on (F.out.2.1 1 _ rfl) (chain HBY.out HBe.out)
              have s2 := cell_on (F.out.2.1 2 _ rfl) (chain HBY.out HBe.out)
              have s3 := cell_on (F.out.2.1 3 _ rfl) (chain HBY.out HBe.out)
              have ON := Lib.hid (GY.out.2.2.2.1.below HBe.out)
              have TW := Lib.hid (GY.out.2.2.2.2.1.below HBe.out)
              have VV := Lib.hid (GY.out.2.1.below HBe.out)
              have AL := Lib.hid (F.out.2.2.1.trans ((chain HBY.out HBe.out).mono F.out.2.2.1.size))
              have lo0 := later_cell (cell_on (GY.out.2.2.2.2.2.1 0 _ rfl) HBe.out)
              have lo1 := later_cell (cell_on (GY.out.2.2.2.2.2.1 1 _ rfl) HBe.out)
              have lo2 := later_cell (cell_on (GY.out.2.2.2.2.2.1 2 _ rfl) HBe.out)
              have lo3 := later_cell (cell_on (GY.out.2.2.2.2.2.1 3 _ rfl) HBe.out)
              have lw0 := later_cell (cell_on (GY.out.2.2.2.2.2.2 0 _ rfl) HBe.out)
              have lw1 := later_cell (cell_on (GY.out.2.2.2.2.2.2 1 _ rfl) HBe.out)
              have lw2 := later_cell (cell_on (GY.out.2.2.2.2.2.2 2 _ rfl) HBe.out)
              have lw3 := later_cell (cell_on (GY.out.2.2.2.2.2.2 3 _ rfl) HBe.out)
              have lt0 := later_cell t0
              have lt1 := later_cell t1
              have lt2 := later_cell t2
              have lt3 := later_cell t3
              have A2 := Lib.hid (show validP 40 (.mk 6 0 0 [.mk k n m of, .mk k' n' m' of']) = false from AG2.out)
              have A1 := Lib.hid (show validP 40 (.mk 8 0 0 [.mk k n m of]) = true from AG.out.2)
              clear HB1 HB2 HB3 HB4 HB6 HB8 HB9 HBY F F0 HOK HO HX HI HA
              cases hz1 : ((of.length : Int) == 0)
              · go_wp2_with fail
                clear t0 t1 t2 t3 s0 s1 s2 s3
                refine wp_region_later (by kernel_rfl) (by kernel_rfl) ?_
                repeat (go_big_quiet_step (first
                  | with_reducible refine calls_later (right_to (b := false) (ON.out.later _) A2.out)
                  | with_reducible refine calls_later (right_to (b := true) (TW.out.later _) A1.out)
                  | with_reducible refine calls_later (refRight_to (VV.out.later _) HS.out.2.2.1)))
                refine wpQuiet_nil ?_
                rintro _ ⟨t, rfl⟩
                have HT := Lib.hid t.below
                clear lo0 lo1 lo2 lo3 lw0 lw1 lw2 lw3 lt0 lt1 lt2 lt3
                go_wp2_with fail
                go_ret
                exact ⟨rfl, AL.out.trans (HT.out.mono AL.out.size)⟩
              · cases hz2 : ((of'.length : Int) == 0)
                · go_wp2_with fail
                  clear t0 t1 t2 t3 s0 s1 s2 s3
                  refine wp_region_later (by kernel_rfl) (by kernel_rfl) ?_
                  repeat (go_big_quiet_step (first
                    | with_reducible refine calls_later (right_to (b := false) (ON.out.later _) A2.out)
                    | with_reducible refine calls_later (right_to (b := true) (TW.out.later _) A1.out)
                    | with_reducible refine calls_later (refRight_to (VV.out.later _) HS.out.2.2.1)))
                  refine wpQuiet_nil ?_
                  rintro _ ⟨t, rfl⟩
                  have HT := Lib.hid t.below
                  clear lo0 lo1 lo2 lo3 lw0 lw1 lw2 lw3 lt0 lt1 lt2 lt3
                  go_wp2_with fail
                  go_ret
                  exact ⟨rfl, AL.out.trans (HT.out.mono AL.out.size)⟩
                · go_wp2_with fail
                  clear t0 t1 t2 t3 s0 s1 s2 s3
                  refine wp_region_later (by kernel_rfl) (by kernel_rfl) ?_
                  repeat (go_big_quiet_step (first
                    | with_reducible refine calls_later (right_to (b := false) (ON.out.later _) A2.out)
                    | with_reducible refine calls_later (right_to (b := true) (TW.out.later _) A1.out)
                    | with_reducible refine calls_later (refRight_to (VV.out.later _) HS.out.2.2.1)))
                  refine wpQuiet_nil ?_
                  rintro _ ⟨t, rfl⟩
                  have HT := Lib.hid t.below
                  clear lo0 lo1 lo2 lo3 lw0 lw1 lw2 lw3 lt0 lt1 lt2 lt3
                  go_wp2_with fail
                  go_ret
                  exact ⟨rfl, AL.out.trans (HT.out.mono AL.out.size)⟩
            case true =>
              have o0 := cell_on (GY.out.2.2.2.2.2.1 0 _ rfl) HBb.out
              have o1 := cell_on (GY.out.2.2.2.2.2.1 1 _ rfl) HBb.out
              have o2 := cell_on (GY.out.2.2.2.2.2.1 2 _ rfl) HBb.out
              have o3 := cell_on (GY.out.2.2.2.2.2.1 3 _ rfl) HBb.out
              go_wp2_with fail
              refine (right_to (b := true) (GY.out.2.2.2.1.below HBb.out) AG2.out).mono ?_
              rintro e wc ⟨rfl, hb⟩
              have HBc := Lib.hid (chain HBb.out hb)
              clear hb o0 o1 o2 o3
              have o0 := cell_on (GY.out.2.2.2.2.2.2 0 _ rfl) HBc.out
              have o1 := cell_on (GY.out.2.2.2.2.2.2 1 _ rfl) HBc.out
              have o2 := cell_on (GY.out.2.2.2.2.2.2 2 _ rfl) HBc.out
              have o3 := cell_on (GY.out.2.2.2.2.2.2 3 _ rfl) HBc.out
              go_wp2_with fail
              refine (right_to (b := true) (GY.out.2.2.2.2.1.below HBc.out) AG.out.2).mono ?_
              rintro e wd ⟨rfl, hb⟩
              have HBd := Lib.hid (chain HBc.out hb)
              clear hb o0 o1 o2 o3
              have t0 := cell_on (F.out.1 0 _ rfl) (chain HBY.out HBd.out)
              have t1 := cell_on (F.out.1 1 _ rfl) (chain HBY.out HBd.out)
              have t2 := cell_on (F.out.1 2 _ rfl) (chain HBY.out HBd.out)
              have t3 := cell_on (F.out.1 3 _ rfl) (chain HBY.out HBd.out)
              go_wp2_with fail
              refine (refRight_to (GY.out.2.1.below HBd.out) HS.out.2.2.1).mono ?_
              rintro e we ⟨rfl, hb⟩
              have HBe := Lib.hid (chain HBd.out hb)
              clear hb t0 t1 t2 t3
              have t0 := cell_on (F.out.1 0 _ rfl) (chain HBY.out HBe.out)
              have t1 := cell_on (F.out.1 1 _ rfl) (chain HBY.out HBe.out)
              have t2 := cell_on (F.out.1 2 _ rfl) (chain HBY.out HBe.out)
              have t3 := cell_on (F.out.1 3 _ rfl) (chain HBY.out HBe.out)
              have s0 := cell_on (F.out.2.1 0 _ rfl) (chain HBY.out HBe.out)
              have s1 := cell_on (F.out.2.1 1 _ rfl) (chain HBY.out HBe.out)
              have s2 := cell_on (F.out.2.1 2 _ rfl) (chain HBY.out HBe.out)
              have s3 := cell_on (F.out.2.1 3 _ rfl) (chain HBY.out HBe.out)
              have ON := Lib.hid (GY.out.2.2.2.1.below HBe.out)
              have TW := Lib.hid (GY.out.2.2.2.2.1.below HBe.out)
              have VV := Lib.hid (GY.out.2.1.below HBe.out)
              have AL := Lib.hid (F.out.2.2.1.trans ((chain HBY.out HBe.out).mono F.out.2.2.1.size))
              have lo0 := later_cell (cell_on (GY.out.2.2.2.2.2.1 0 _ rfl) HBe.out)
              have lo1 := later_cell (cell_on (GY.out.2.2.2.2.2.1 1 _ rfl) HBe.out)
              have lo2 := later_cell (cell_on (GY.out.2.2.2.2.2.1 2 _ rfl) HBe.out)
              have lo3 := later_cell (cell_on (GY.out.2.2.2.2.2.1 3 _ rfl) HBe.out)
              have lw0 := later_cell (cell_on (GY.out.2.2.2.2.2.2 0 _ rfl) HBe.out)
              have lw1 := later_cell (cell_on (GY.out.2.2.2.2.2.2 1 _ rfl) HBe.out)
              have lw2 := later_cell (cell_on (GY.out.2.2.2.2.2.2 2 _ rfl) HBe.out)
              have lw3 := later_cell (cell_on (GY.out.2.2.2.2.2.2 3 _ rfl) HBe.out)
              have lt0 := later_cell t0
              have lt1 := later_cell t1
              have lt2 := later_cell t2
              have lt3 := later_cell t3
              have A2 := Lib.hid (show validP 40 (.mk 6 0 0 [.mk k n m of, .mk k' n' m' of']) = true from AG2.out)
              have A1 := Lib.hid (show validP 40 (.mk 8 0 0 [.mk k n m of]) = true from AG.out.2)
              clear HB1 HB2 HB3 HB4 HB6 HB8 HB9 HBY F F0 HOK HO HX HI HA
              cases hz1 : ((of.length : Int) == 0)
              · go_wp2_with fail
                clear t0 t1 t2 t3 s0 s1 s2 s3
                refine wp_region_later (by kernel_rfl) (by kernel_rfl) ?_
                repeat (go_big_quiet_step (first
                  | with_reducible refine calls_later (right_to (b := true) (ON.out.later _) A2.out)
                  | with_reducible refine calls_later (right_to (b := true) (TW.out.later _) A1.out)
                  | with_reducible refine calls_later (refRight_to (VV.out.later _) HS.out.2.2.1)))
                refine wpQuiet_nil ?_
                rintro _ ⟨t, rfl⟩
                have HT := Lib.hid t.below
                clear lo0 lo1 lo2 lo3 lw0 lw1 lw2 lw3 lt0 lt1 lt2 lt3
                go_wp2_with fail
                go_ret
                exact ⟨rfl, AL.out.trans (HT.out.mono AL.out.size)⟩
              · cases hz2 : ((of'.length : Int) == 0)
                · go_wp2_with fail
                  clear t0 t1 t2 t3 s0 s1 s2 s3
                  refine wp_region_later (by kernel_rfl) (by kernel_rfl) ?_
                  repeat (go_big_quiet_step (first
                    | with_reducible refine calls_later (right_to (b := true) (ON.out.later _) A2.out)
                    | with_reducible refine calls_later (right_to (b := true) (TW.out.later _) A1.out)
                    | with_reducible refine calls_later (refRight_to (VV.out.later _) HS.out.2.2.1)))
                  refine wpQuiet_nil ?_
                  rintro _ ⟨t, rfl⟩
                  have HT := Lib.hid t.below
                  clear lo0 lo1 lo2 lo3 lw0 lw1 lw2 lw3 lt0 lt1 lt2 lt3
                  go_wp2_with fail
                  go_ret
                  exact ⟨rfl, AL.out.trans (HT.out.mono AL.out.size)⟩
                · go_wp2_with fail
                  clear t0 t1 t2 t3 s0 s1 s2 s3
                  refine wp_region_later (by kernel_rfl) (by kernel_rfl) ?_
                  repeat (go_big_quiet_step (first
                    | with_reducible refine calls_later (right_to (b := true) (ON.out.later _) A2.out)
                    | with_reducible refine calls_later (right_to (b := true) (TW.out.later _) A1.out)
                    | with_reducible refine calls_later (refRight_to (VV.out.later _) HS.out.2.2.1)))
                  refine wpQuiet_nil ?_
                  rintro _ ⟨t, rfl⟩
                  have HT := Lib.hid t.below
                  clear lo0 lo1 lo2 lo3 lw0 lw1 lw2 lw3 lt0 lt1 lt2 lt3
                  go_wp2_with fail
                  go_ret
                  exact ⟨rfl, AL.out.trans (HT.out.mono AL.out.size)⟩
        case true =>
          go_wp2_with fail
          refine (right_to (flat_at _ HX.out.1 HX.out.2.1) (HX.out.2.2.2 (by simp))).mono ?_
          rintro e w7 ⟨rfl, hb⟩
          have HB7 := Lib.hid (chain_alloc HB6.out hb)
          clear hb
          go_wp2_with fail
          refine (int_to HI.out.1).mono ?_
          rintro e w8 ⟨rfl, hb⟩
          have HB8 := Lib.hid (chain HB7.out hb)
          clear hb
          go_wp2_with fail
          refine (right_to (flat_at _ (by unfold I64; omega) HI.out.2.2) HI.out.2.1).mono ?_
          rintro e w9 ⟨rfl, hb⟩
          have HB9 := Lib.hid (chain HB8.out hb)
          clear hb
          have t0 := cell_on (F.out.1 0 _ rfl) HB9.out
          have ta0 := fun o o2 => alloc_on (alloc_on t0 o) o2
          have tb0 := fun o o2 o3 o4 => alloc_on (alloc_on (ta0 o o2) o3) o4
          have t1 := cell_on (F.out.1 1 _ rfl) HB9.out
          have ta1 := fun o o2 => alloc_on (alloc_on t1 o) o2
          have tb1 := fun o o2 o3 o4 => alloc_on (alloc_on (ta1 o o2) o3) o4
          have t2 := cell_on (F.out.1 2 _ rfl) HB9.out
          have ta2 := fun o o2 => alloc_on (alloc_on t2 o) o2
          have tb2 := fun o o2 o3 o4 => alloc_on (alloc_on (ta2 o o2) o3) o4
          have t3 := cell_on (F.out.1 3 _ rfl) HB9.out
          have ta3 := fun o o2 => alloc_on (alloc_on t3 o) o2
          have tb3 := fun o o2 o3 o4 => alloc_on (alloc_on (ta3 o o2) o3) o4
          have s0 := cell_on (F.out.2.1 0 _ rfl) HB9.out
          have sa0 := fun o o2 => alloc_on (alloc_on s0 o) o2
          have sb0 := fun o o2 o3 o4 => alloc_on (alloc_on (sa0 o o2) o3) o4
          have s1 := cell_on (F.out.2.1 1 _ rfl) HB9.out
          have sa1 := fun o o2 => alloc_on (alloc_on s1 o) o2
          have sb1 := fun o o2 o3 o4 => alloc_on (alloc_on (sa1 o o2) o3) o4
          have s2 := cell_on (F.out.2.1 2 _ rfl) HB9.out
          have sa2 := fun o o2 => alloc_on (alloc_on s2 o) o2
          have sb2 := fun o o2 o3 o4 => alloc_on (alloc_on (sa2 o o2) o3) o4
          have s3 := cell_on (F.out.2.1 3 _ rfl) HB9.out
          have sa3 := fun o o2 => alloc_on (alloc_on s3 o) o2
          have sb3 := fun o o2 o3 o4 => alloc_on (alloc_on (sa3 o o2) o3) o4
          have SV := Lib.hid (VAt.more (F.out.2.2.2.1.below HB9.out) d')
          have SU := Lib.hid (VAt.more (F.out.2.2.2.2.1.below HB9.out) d)
          go_wp2_with fail
          obtain ⟨Y, hY⟩ : ∃ Y, Y = ((((w9.alloc (.cells #[.int .i64 k, .int .i64 n, .int .i64 m, .slice a of.length cap, .int .i64 k', .int .i64 n', .int .i64 m', .slice a' of'.length cap'] 24)).alloc (.cells #[.int .i64 6, .int .i64 0, .int .i64 0, .slice (some ⟨w9.heap.size, 0, none⟩) 2 2] 24)).alloc (.cells #[.int .i64 k, .int .i64 n, .int .i64 m, .slice a of.length cap] 24)).alloc (.cells #[.int .i64 8, .int .i64 0, .int .i64 0, .slice (some ⟨w9.heap.size + 1 + 1, 0, none⟩) 1 1] 24)) := ⟨_, rfl⟩
          rw [← hY]
          have G := stay_at (w9 := w9) SV.out SU.out hY
          have GY := Lib.hid G
          have HBY := Lib.hid (chain HB9.out G.1)
          clear hY G t0 t1 t2 t3 s0 s1 s2 s3 ta0 ta1 ta2 ta3 sa0 sa1 sa2 sa3 tb0 tb1 tb2 tb3 sb0 sb1 sb2 sb3 SV SU
          refine (refRight_to GY.out.2.1 HS.out.2.2.1).mono ?_
          rintro e wa ⟨rfl, hb⟩
          have HBa := Lib.hid hb
          clear hb
          cases P
          case false =>
            have o0 := cell_on (GY.out.2.2.2.2.2.1 0 _ rfl) HBa.out
            have o1 := cell_on (GY.out.2.2.2.2.2.1 1 _ rfl) HBa.out
            have o2 := cell_on (GY.out.2.2.2.2.2.1 2 _ rfl) HBa.out
            have o3 := cell_on (GY.out.2.2.2.2.2.1 3 _ rfl) HBa.out
            go_wp2_with fail
            refine (right_to (b := false) (GY.out.2.2.2.1.below HBa.out) AG2.out).mono ?_
            rintro e wc ⟨rfl, hb⟩
            have HBc := Lib.hid (chain HBa.out hb)
            clear hb o0 o1 o2 o3
            have o0 := cell_on (GY.out.2.2.2.2.2.2 0 _ rfl) HBc.out
            have o1 := cell_on (GY.out.2.2.2.2.2.2 1 _ rfl) HBc.out
            have o2 := cell_on (GY.out.2.2.2.2.2.2 2 _ rfl) HBc.out
            have o3 := cell_on (GY.out.2.2.2.2.2.2 3 _ rfl) HBc.out
            go_wp2_with fail
            refine (right_to (b := false) (GY.out.2.2.2.2.1.below HBc.out) AG.out.2).mono ?_
            rintro e wd ⟨rfl, hb⟩
            have HBd := Lib.hid (chain HBc.out hb)
            clear hb o0 o1 o2 o3
            have t0 := cell_on (F.out.1 0 _ rfl) (chain HBY.out HBd.out)
            have t1 := cell_on (F.out.1 1 _ rfl) (chain HBY.out HBd.out)
            have t2 := cell_on (F.out.1 2 _ rfl) (chain HBY.out HBd.out)
            have t3 := cell_on (F.out.1 3 _ rfl) (chain HBY.out HBd.out)
            have s0 := cell_on (F.out.2.1 0 _ rfl) (chain HBY.out HBd.out)
            have s1 := cell_on (F.out.2.1 1 _ rfl) (chain HBY.out HBd.out)
            have s2 := cell_on (F.out.2.1 2 _ rfl) (chain HBY.out HBd.out)
            have s3 := cell_on (F.out.2.1 3 _ rfl) (chain HBY.out HBd.out)
            have ON := Lib.hid (GY.out.2.2.2.1.below HBd.out)
            have TW := Lib.hid (GY.out.2.2.2.2.1.below HBd.out)
            have VV := Lib.hid (GY.out.2.1.below HBd.out)
            have AL := Lib.hid (F.out.2.2.1.trans ((chain HBY.out HBd.out).mono F.out.2.2.1.size))
            have lo0 := later_cell (cell_on (GY.out.2.2.2.2.2.1 0 _ rfl) HBd.out)
            have lo1 := later_cell (cell_on (GY.out.2.2.2.2.2.1 1 _ rfl) HBd.out)
            have lo2 := later_cell (cell_on (GY.out.2.2.2.2.2.1 2 _ rfl) HBd.out)
            have lo3 := later_cell (cell_on (GY.out.2.2.2.2.2.1 3 _ rfl) HBd.out)
            have lw0 := later_cell (cell_on (GY.out.2.2.2.2.2.2 0 _ rfl) HBd.out)
            have lw1 := later_cell (cell_on (GY.out.2.2.2.2.2.2 1 _ rfl) HBd.out)
            have lw2 := later_cell (cell_on (GY.out.2.2.2.2.2.2 2 _ rfl) HBd.out)
            have lw3 := later_cell (cell_on (GY.out.2.2.2.2.2.2 3 _ rfl) HBd.out)
            have lt0 := later_cell t0
            have lt1 := later_cell t1
            have lt2 := later_cell t2
            have lt3 := later_cell t3
            have A2 := Lib.hid (show validP 40 (.mk 6 0 0 [.mk k n m of, .mk k' n' m' of']) = false from AG2.out)
            have A1 := Lib.hid (show validP 40 (.mk 8 0 0 [.mk k n m of]) = false from AG.out.2)
            clear HB1 HB2 HB3 HB4 HB6 HB8 HB9 HBY F F0 HOK HO HX HI HA
            cases hz1 : ((of.length : Int) == 0)
            · go_wp2_with fail
              clear t0 t1 t2 t3 s0 s1 s2 s3
              refine wp_region_later (by kernel_rfl) (by kernel_rfl) ?_
              repeat (go_big_quiet_step (first
                | with_reducible refine calls_later (right_to (b := false) (ON.out.later _) A2.out)
                | with_reducible refine calls_later (right_to (b := false) (TW.out.later _) A1.out)
                | with_reducible refine calls_later (refRight_to (VV.out.later _) HS.out.2.2.1)))
              refine wpQuiet_nil ?_
              rintro _ ⟨t, rfl⟩
              have HT := Lib.hid t.below
              clear lo0 lo1 lo2 lo3 lw0 lw1 lw2 lw3 lt0 lt1 lt2 lt3
              go_wp2_with fail
              go_ret
              exact ⟨rfl, AL.out.trans (HT.out.mono AL.out.size)⟩
            · cases hz2 : ((of'.length : Int) == 0)
              · go_wp2_with fail
                clear t0 t1 t2 t3 s0 s1 s2 s3
                refine wp_region_later (by kernel_rfl) (by kernel_rfl) ?_
                repeat (go_big_quiet_step (first
                  | with_reducible refine calls_later (right_to (b := false) (ON.out.later _) A2.out)
                  | with_reducible refine calls_later (right_to (b := false) (TW.out.later _) A1.out)
                  | with_reducible refine calls_later (refRight_to (VV.out.later _) HS.out.2.2.1)))
                refine wpQuiet_nil ?_
                rintro _ ⟨t, rfl⟩
                have HT := Lib.hid t.below
                clear lo0 lo1 lo2 lo3 lw0 lw1 lw2 lw3 lt0 lt1 lt2 lt3
                go_wp2_with fail
                go_ret
                exact ⟨rfl, AL.out.trans (HT.out.mono AL.out.size)⟩
              · go_wp2_with fail
                clear t0 t1 t2 t3 s0 s1 s2 s3
                refine wp_region_later (by kernel_rfl) (by kernel_rfl) ?_
                repeat (go_big_quiet_step (first
                  | with_reducible refine calls_later (right_to (b := false) (ON.out.later _) A2.out)
                  | with_reducible refine calls_later (right_to (b := false) (TW.out.later _) A1.out)
                  | with_reducible refine calls_later (refRight_to (VV.out.later _) HS.out.2.2.1)))
                refine wpQuiet_nil ?_
                rintro _ ⟨t, rfl⟩
                have HT := Lib.hid t.below
                clear lo0 lo1 lo2 lo3 lw0 lw1 lw2 lw3 lt0 lt1 lt2 lt3
                go_wp2_with fail
                go_ret
                exact ⟨rfl, AL.out.trans (HT.out.mono AL.out.size)⟩
          case true =>
            have s0 := cell_on (F.out.2.1 0 _ rfl) (chain HBY.out HBa.out)
            have s1 := cell_on (F.out.2.1 1 _ rfl) (chain HBY.out HBa.out)
            have s2 := cell_on (F.out.2.1 2 _ rfl) (chain HBY.out HBa.out)
            have s3 := cell_on (F.out.2.1 3 _ rfl) (chain HBY.out HBa.out)
            go_wp2_with fail
            refine (refRight_to (GY.out.2.2.1.below HBa.out) HS.out.2.2.2).mono ?_
            rintro e wb ⟨rfl, hb⟩
            have HBb := Lib.hid (chain HBa.out hb)
            clear hb s0 s1 s2 s3
            cases Q
            case false =>
              have o0 := cell_on (GY.out.2.2.2.2.2.1 0 _ rfl) HBb.out
              have o1 := cell_on (GY.out.2.2.2.2.2.1 1 _ rfl) HBb.out
              have o2 := cell_on (GY.out.2.2.2.2.2.1 2 _ rfl) HBb.out
              have o3 := cell_on (GY.out.2.2.2.2.2.1 3 _ rfl) HBb.out
              go_wp2_with fail
              refine (right_to (b := false) (GY.out.2.2.2.1.below HBb.out) AG2.out).mono ?_
              rintro e wc ⟨rfl, hb⟩
              have HBc := Lib.hid (chain HBb.out hb)
              clear hb o0 o1 o2 o3
              have o0 := cell_on (GY.out.2.2.2.2.2.2 0 _ rfl) HBc.out
              have o1 := cell_on (GY.out.2.2.2.2.2.2 1 _ rfl) HBc.out
              have o2 := cell_on (GY.out.2.2.2.2.2.2 2 _ rfl) HBc.out
              have o3 := cell_on (GY.out.2.2.2.2.2.2 3 _ rfl) HBc.out
              go_wp2_with fail
              refine (right_to (b := true) (GY.out.2.2.2.2.1.below HBc.out) AG.out.2).mono ?_
              rintro e wd ⟨rfl, hb⟩
              have HBd := Lib.hid (chain HBc.out hb)
              clear hb o0 o1 o2 o3
              have t0 := cell_on (F.out.1 0 _ rfl) (chain HBY.out HBd.out)
              have t1 := cell_on (F.out.1 1 _ rfl) (chain HBY.out HBd.out)
              have t2 := cell_on (F.out.1 2 _ rfl) (chain HBY.out HBd.out)
              have t3 := cell_on (F.out.1 3 _ rfl) (chain HBY.out HBd.out)
              go_wp2_with fail
              refine (refRight_to (GY.out.2.1.below HBd.out) HS.out.2.2.1).mono ?_
              rintro e we ⟨rfl, hb⟩
              have HBe := Lib.hid (chain HBd.out hb)
              clear hb t0 t1 t2 t3
              have t0 := cell_on (F.out.1 0 _ rfl) (chain HBY.out HBe.out)
              have t1 := cell_on (F.out.1 1 _ rfl) (chain HBY.out HBe.out)
              have t2 := cell_on (F.out.1 2 _ rfl) (chain HBY.out HBe.out)
              have t3 := cell_on (F.out.1 3 _ rfl) (chain HBY.out HBe.out)
              have s0 := cell_on (F.out.2.1 0 _ rfl) (chain HBY.out HBe.out)
              have s1 := cell_on (F.out.2.1 1 _ rfl) (chain HBY.out HBe.out)
              have s2 := cell_on (F.out.2.1 2 _ rfl) (chain HBY.out HBe.out)
              have s3 := cell_on (F.out.2.1 3 _ rfl) (chain HBY.out HBe.out)
              have ON := Lib.hid (GY.out.2.2.2.1.below HBe.out)
              have TW := Lib.hid (GY.out.2.2.2.2.1.below HBe.out)
              have VV := Lib.hid (GY.out.2.1.below HBe.out)
              have AL := Lib.hid (F.out.2.2.1.trans ((chain HBY.out HBe.out).mono F.out.2.2.1.size))
              have lo0 := later_cell (cell_on (GY.out.2.2.2.2.2.1 0 _ rfl) HBe.out)
              have lo1 := later_cell (cell_on (GY.out.2.2.2.2.2.1 1 _ rfl) HBe.out)
              have lo2 := later_cell (cell_on (GY.out.2.2.2.2.2.1 2 _ rfl) HBe.out)
              have lo3 := later_cell (cell_on (GY.out.2.2.2.2.2.1 3 _ rfl) HBe.out)
              have lw0 := later_cell (cell_on (GY.out.2.2.2.2.2.2 0 _ rfl) HBe.out)
              have lw1 := later_cell (cell_on (GY.out.2.2.2.2.2.2 1 _ rfl) HBe.out)
              have lw2 := later_cell (cell_on (GY.out.2.2.2.2.2.2 2 _ rfl) HBe.out)
              have lw3 := later_cell (cell_on (GY.out.2.2.2.2.2.2 3 _ rfl) HBe.out)
              have lt0 := later_cell t0
              have lt1 := later_cell t1
              have lt2 := later_cell t2
              have lt3 := later_cell t3
              have A2 := Lib.hid (show validP 40 (.mk 6 0 0 [.mk k n m of, .mk k' n' m' of']) = false from AG2.out)
              have A1 := Lib.hid (show validP 40 (.mk 8 0 0 [.mk k n m of]) = true from AG.out.2)
              clear HB1 HB2 HB3 HB4 HB6 HB8 HB9 HBY F F0 HOK HO HX HI HA
              cases hz1 : ((of.length : Int) == 0)
              · go_wp2_with fail
                clear t0 t1 t2 t3 s0 s1 s2 s3
                refine wp_region_later (by kernel_rfl) (by kernel_rfl) ?_
                repeat (go_big_quiet_step (first
                  | with_reducible refine calls_later (right_to (b := false) (ON.out.later _) A2.out)
                  | with_reducible refine calls_later (right_to (b := true) (TW.out.later _) A1.out)
                  | with_reducible refine calls_later (refRight_to (VV.out.later _) HS.out.2.2.1)))
                refine wpQuiet_nil ?_
                rintro _ ⟨t, rfl⟩
                have HT := Lib.hid t.below
                clear lo0 lo1 lo2 lo3 lw0 lw1 lw2 lw3 lt0 lt1 lt2 lt3
                go_wp2_with fail
                go_ret
                exact ⟨rfl, AL.out.trans (HT.out.mono AL.out.size)⟩
              · cases hz2 : ((of'.length : Int) == 0)
                · go_wp2_with fail
                  clear t0 t1 t2 t3 s0 s1 s2 s3
                  refine wp_region_later (by kernel_rfl) (by kernel_rfl) ?_
                  repeat (go_big_quiet_step (first
                    | with_reducible refine calls_later (right_to (b := false) (ON.out.later _) A2.out)
                    | with_reducible refine calls_later (right_to (b := true) (TW.out.later _) A1.out)
                    | with_reducible refine calls_later (refRight_to (VV.out.later _) HS.out.2.2.1)))
                  refine wpQuiet_nil ?_
                  rintro _ ⟨t, rfl⟩
                  have HT := Lib.hid t.below
                  clear lo0 lo1 lo2 lo3 lw0 lw1 lw2 lw3 lt0 lt1 lt2 lt3
                  go_wp2_with fail
                  go_ret
                  exact ⟨rfl, AL.out.trans (HT.out.mono AL.out.size)⟩
                · go_wp2_with fail
                  clear t0 t1 t2 t3 s0 s1 s2 s3
                  refine wp_region_later (by kernel_rfl) (by kernel_rfl) ?_
                  repeat (go_big_quiet_step (first
                    | with_reducible refine calls_later (right_to (b := false) (ON.out.later _) A2.out)
                    | with_reducible refine calls_later (right_to (b := true) (TW.out.later _) A1.out)
                    | with_reducible refine calls_later (refRight_to (VV.out.later _) HS.out.2.2.1)))
                  refine wpQuiet_nil ?_
                  rintro _ ⟨t, rfl⟩
                  have HT := Lib.hid t.below
                  clear lo0 lo1 lo2 lo3 lw0 lw1 lw2 lw3 lt0 lt1 lt2 lt3
                  go_wp2_with fail
                  go_ret
                  exact ⟨rfl, AL.out.trans (HT.out.mono AL.out.size)⟩
            case true =>
              have o0 := cell_on (GY.out.2.2.2.2.2.1 0 _ rfl) HBb.out
              have o1 := cell_on (GY.out.2.2.2.2.2.1 1 _ rfl) HBb.out
              have o2 := cell_on (GY.out.2.2.2.2.2.1 2 _ rfl) HBb.out
              have o3 := cell_on (GY.out.2.2.2.2.2.1 3 _ rfl) HBb.out
              go_wp2_with fail
              refine (right_to (b := true) (GY.out.2.2.2.1.below HBb.out) AG2.out).mono ?_
              rintro e wc ⟨rfl, hb⟩
              have HBc := Lib.hid (chain HBb.out hb)
              clear hb o0 o1 o2 o3
              have o0 := cell_on (GY.out.2.2.2.2.2.2 0 _ rfl) HBc.out
              have o1 := cell_on (GY.out.2.2.2.2.2.2 1 _ rfl) HBc.out
              have o2 := cell_on (GY.out.2.2.2.2.2.2 2 _ rfl) HBc.out
              have o3 := cell_on (GY.out.2.2.2.2.2.2 3 _ rfl) HBc.out
              go_wp2_with fail
              refine (right_to (b := true) (GY.out.2.2.2.2.1.below HBc.out) AG.out.2).mono ?_
              rintro e wd ⟨rfl, hb⟩
              have HBd := Lib.hid (chain HBc.out hb)
              clear hb o0 o1 o2 o3
              have t0 := cell_on (F.out.1 0 _ rfl) (chain HBY.out HBd.out)
              have t1 := cell_on (F.out.1 1 _ rfl) (chain HBY.out HBd.out)
              have t2 := cell_on (F.out.1 2 _ rfl) (chain HBY.out HBd.out)
              have t3 := cell_on (F.out.1 3 _ rfl) (chain HBY.out HBd.out)
              go_wp2_with fail
              refine (refRight_to (GY.out.2.1.below HBd.out) HS.out.2.2.1).mono ?_
              rintro e we ⟨rfl, hb⟩
              have HBe := Lib.hid (chain HBd.out hb)
              clear hb t0 t1 t2 t3
              have t0 := cell_on (F.out.1 0 _ rfl) (chain HBY.out HBe.out)
              have t1 := cell_on (F.out.1 1 _ rfl) (chain HBY.out HBe.out)
              have t2 := cell_on (F.out.1 2 _ rfl) (chain HBY.out HBe.out)
              have t3 := cell_on (F.out.1 3 _ rfl) (chain HBY.out HBe.out)
              have s0 := cell_on (F.out.2.1 0 _ rfl) (chain HBY.out HBe.out)
              have s1 := cell_on (F.out.2.1 1 _ rfl) (chain HBY.out HBe.out)
              have s2 := cell_on (F.out.2.1 2 _ rfl) (chain HBY.out HBe.out)
              have s3 := cell_on (F.out.2.1 3 _ rfl) (chain HBY.out HBe.out)
              have ON := Lib.hid (GY.out.2.2.2.1.below HBe.out)
              have TW := Lib.hid (GY.out.2.2.2.2.1.below HBe.out)
              have VV := Lib.hid (GY.out.2.1.below HBe.out)
              have AL := Lib.hid (F.out.2.2.1.trans ((chain HBY.out HBe.out).mono F.out.2.2.1.size))
              have lo0 := later_cell (cell_on (GY.out.2.2.2.2.2.1 0 _ rfl) HBe.out)
              have lo1 := later_cell (cell_on (GY.out.2.2.2.2.2.1 1 _ rfl) HBe.out)
              have lo2 := later_cell (cell_on (GY.out.2.2.2.2.2.1 2 _ rfl) HBe.out)
              have lo3 := later_cell (cell_on (GY.out.2.2.2.2.2.1 3 _ rfl) HBe.out)
              have lw0 := later_cell (cell_on (GY.out.2.2.2.2.2.2 0 _ rfl) HBe.out)
              have lw1 := later_cell (cell_on (GY.out.2.2.2.2.2.2 1 _ rfl) HBe.out)
              have lw2 := later_cell (cell_on (GY.out.2.2.2.2.2.2 2 _ rfl) HBe.out)
              have lw3 := later_cell (cell_on (GY.out.2.2.2.2.2.2 3 _ rfl) HBe.out)
              have lt0 := later_cell t0
              have lt1 := later_cell t1
              have lt2 := later_cell t2
              have lt3 := later_cell t3
              have A2 := Lib.hid (show validP 40 (.mk 6 0 0 [.mk k n m of, .mk k' n' m' of']) = true from AG2.out)
              have A1 := Lib.hid (show validP 40 (.mk 8 0 0 [.mk k n m of]) = true from AG.out.2)
              clear HB1 HB2 HB3 HB4 HB6 HB8 HB9 HBY F F0 HOK HO HX HI HA
              cases hz1 : ((of.length : Int) == 0)
              · go_wp2_with fail
                clear t0 t1 t2 t3 s0 s1 s2 s3
                refine wp_region_later (by kernel_rfl) (by kernel_rfl) ?_
                repeat (go_big_quiet_step (first
                  | with_reducible refine calls_later (right_to (b := true) (ON.out.later _) A2.out)
                  | with_reducible refine calls_later (right_to (b := true) (TW.out.later _) A1.out)
                  | with_reducible refine calls_later (refRight_to (VV.out.later _) HS.out.2.2.1)))
                refine wpQuiet_nil ?_
                rintro _ ⟨t, rfl⟩
                have HT := Lib.hid t.below
                clear lo0 lo1 lo2 lo3 lw0 lw1 lw2 lw3 lt0 lt1 lt2 lt3
                go_wp2_with fail
                go_ret
                exact ⟨rfl, AL.out.trans (HT.out.mono AL.out.size)⟩
              · cases hz2 : ((of'.length : Int) == 0)
                · go_wp2_with fail
                  clear t0 t1 t2 t3 s0 s1 s2 s3
                  refine wp_region_later (by kernel_rfl) (by kernel_rfl) ?_
                  repeat (go_big_quiet_step (first
                    | with_reducible refine calls_later (right_to (b := true) (ON.out.later _) A2.out)
                    | with_reducible refine calls_later (right_to (b := true) (TW.out.later _) A1.out)
                    | with_reducible refine calls_later (refRight_to (VV.out.later _) HS.out.2.2.1)))
                  refine wpQuiet_nil ?_
                  rintro _ ⟨t, rfl⟩
                  have HT := Lib.hid t.below
                  clear lo0 lo1 lo2 lo3 lw0 lw1 lw2 lw3 lt0 lt1 lt2 lt3
                  go_wp2_with fail
                  go_ret
                  exact ⟨rfl, AL.out.trans (HT.out.mono AL.out.size)⟩
                · go_wp2_with fail
                  clear t0 t1 t2 t3 s0 s1 s2 s3
                  refine wp_region_later (by kernel_rfl) (by kernel_rfl) ?_
                  repeat (go_big_quiet_step (first
                    | with_reducible refine calls_later (right_to (b := true) (ON.out.later _) A2.out)
                    | with_reducible refine calls_later (right_to (b := true) (TW.out.later _) A1.out)
                    | with_reducible refine calls_later (refRight_to (VV.out.later _) HS.out.2.2.1)))
                  refine wpQuiet_nil ?_
                  rintro _ ⟨t, rfl⟩
                  have HT := Lib.hid t.below
                  clear lo0 lo1 lo2 lo3 lw0 lw1 lw2 lw3 lt0 lt1 lt2 lt3
                  go_wp2_with fail
                  go_ret
                  exact ⟨rfl, AL.out.trans (HT.out.mono AL.out.size)⟩
end Go.Proofs.YtnjgcjgfnjcgdaaDoor
