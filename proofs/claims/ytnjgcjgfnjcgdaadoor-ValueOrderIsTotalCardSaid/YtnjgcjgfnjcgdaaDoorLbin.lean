/-
  The walk of the law ValueBinMatchesSpec: it returns true.
-/
import Derived.Test.YtnjgcjgfnjcgdaaDoorSane
import Derived.Test.YtnjgcjgfnjcgdaaDoorSmall
import Derived.Test.YtnjgcjgfnjcgdaaDoorLbase
namespace Go.Proofs.YtnjgcjgfnjcgdaaDoor
open Go.RowKit
theorem binSpec_bd {op k n k' n' kr r : Int} {v u : Bool} (h : binSpec op k n k' n' v u = some (kr, r)) : I64 kr ∧ I64 r := by
  have b2 : ∀ b : Bool, 0 ≤ b2i b ∧ b2i b ≤ 1 := fun b => by cases b <;> simp [b2i]
  have hr := round_bd
  unfold I64
  unfold binSpec at h
  repeat' split at h
  all_goals first
    | (cases h; done)
    | (simp only [Option.some.injEq, Prod.mk.injEq] at h
       obtain ⟨rfl, rfl⟩ := h
       first
        | (have := hr (n + n'); omega)
        | (have := hr (n - n'); omega)
        | (have := hr (n * n'); omega)
        | (have := b2 (decide (n < n')); omega)
        | (have := b2 (n == n'); omega)
        | (have := b2 (n == 1 && n' == 1); omega)
        | (have := b2 (n == 1 || n' == 1); omega))
theorem binOf_is (op k n k' n' : Int) (v u : Bool) : ∃ kr r er : Int, I64 kr ∧ I64 r ∧ binOf (binSpec op k n k' n' v u) = .returned (.tuple #[.agg #[.int .i64 kr, .int .i64 r, .int .i64 0, .slice none 0 0], .int .i64 er]) := by
  cases h : binSpec op k n k' n' v u with
  | none => exact ⟨0, 0, 1, by unfold I64; omega, by unfold I64; omega, rfl⟩
  | some p => obtain ⟨kr, r⟩ := p; exact ⟨kr, r, 0, (binSpec_bd h).1, (binSpec_bd h).2, rfl⟩
theorem sameB_flat (k n : Int) : sameB 50 (.mk k n 0 []) (.mk k n 0 []) = true := by simp [sameB, sameL]
theorem refSame_is {d d' : Nat} {x y : Value} {v u : V} {b : Bool} (w : World) (hv : VAt w d x v) (hu : VAt w d' y u) (hb : sameB 50 v u = b) :
    Calls Tryd.prog 17 #[x, y] w fun e w' => e = .returned (.bool b) ∧ Below w.heap.size w w' := by
  subst hb; exact refSame_any d d' x y v u w hv hu
theorem small_is {d : Nat} {x : Value} {v : V} {b : Bool} (w : World) (hv : VAt w d x v) (hb : smallB 40 v = b) :
    Calls Tryd.prog 11 #[x] w fun e w' => e = .returned (.bool b) ∧ Below w.heap.size w w' := by
  subst hb; exact small_any d x v w hv

theorem boxes2 (w : World) (A B : Array Value) (t1 t2 : TypeId) :
    (∀ (j : Nat) (v : Value), A[j]? = some v → ((w.alloc (.cells A t1)).alloc (.cells B t2)).cell? ⟨w.heap.size, j, none⟩ = some v) ∧ (∀ (j : Nat) (v : Value), B[j]? = some v → ((w.alloc (.cells A t1)).alloc (.cells B t2)).cell? ⟨w.heap.size + 1, j, none⟩ = some v) ∧
    Below w.heap.size w ((w.alloc (.cells A t1)).alloc (.cells B t2)) := by
  refine ⟨fun j v h => ?_, fun j v h => ?_, alloc_below (alloc_below (Below.refl _ _))⟩
  · rw [World.cell?_alloc_lt _ _ _ (by simp), World.cell?_alloc_new, h]
  · have := World.cell?_alloc_new (w.alloc (.cells A t1)) B t2 j
    simp only [World.size_alloc] at this
    rw [this, h]

set_option maxRecDepth 20000 in
set_option maxHeartbeats 3200000 in
theorem lawBin2_any (op : Int) (d d' : Nat) (x y : Value) (v u : V) (w : World) (hg : Good w) (hv : VAt w d x v) (hu : VAt w d' y u) :
    Calls Tryd.prog 4 #[.int .i64 op, x, y] w fun e w' => e = .returned (.bool true) ∧ Below w.heap.size w w' := by
  obtain ⟨b1, h1⟩ : ∃ b, smallB 40 v = b := ⟨_, rfl⟩
  obtain ⟨b2, h2⟩ : ∃ b, smallB 40 u = b := ⟨_, rfl⟩
  have agree : b1 = true → b2 = true → validP 40 v = withinB 40 v ∧ validP 40 u = withinB 40 u := fun g1 g2 => ⟨valid_within _ _ 40 (small_cnt (h1.trans g1)), valid_within _ _ 40 (small_cnt (h2.trans g2))⟩
  obtain ⟨k, n, m, of⟩ := v
  obtain ⟨k', n', m', of'⟩ := u
  obtain ⟨kr, r, er, hk, hr, ho⟩ := binOf_is op k n k' n' (withinB 40 (.mk k n m of)) (withinB 40 (.mk k' n' m' of'))
  have HO := Lib.hid (And.intro agree (And.intro hk (And.intro hr ho)))
  have HS := Lib.hid (And.intro h1 h2)
  obtain ⟨d, a, cap, rfl, rfl, _, _, _, _, _⟩ := hv.op
  obtain ⟨d', a', cap', rfl, rfl, _, _, _, _, _⟩ := hu.op
  have B2 := boxes2 w #[.int .i64 k, .int .i64 n, .int .i64 m, .slice a of.length cap] #[.int .i64 k', .int .i64 n', .int .i64 m', .slice a' of'.length cap'] 24 24
  have F0 := Lib.hid (And.intro hv (And.intro hu hg))
  have HB2 := Lib.hid B2
  clear hv hu hg agree ho hk hr h1 h2 B2
  go_enter Tryd.func4, Tryd.ntmps4
  go_wp2_with fail
  obtain ⟨W0, hW0⟩ : ∃ W0, W0 = ((w.alloc (.cells #[.int .i64 k, .int .i64 n, .int .i64 m, .slice a of.length cap] 24)).alloc (.cells #[.int .i64 k', .int .i64 n', .int .i64 m', .slice a' of'.length cap'] 24)) := ⟨_, rfl⟩
  rw [← hW0]
  have B2 := HB2.out
  rw [← hW0] at B2
  have F := Lib.hid (And.intro B2.1 (And.intro B2.2.1 (And.intro B2.2.2 (And.intro (F0.out.1.below B2.2.2) (And.intro (F0.out.2.1.below B2.2.2) (F0.out.2.2.below B2.2.2))))))
  clear hW0 B2 HB2 F0
  refine (sanity_any _ F.out.2.2.2.2.2).mono ?_
  rintro e w1 ⟨rfl, hb⟩
  have t0 := cell_on (F.out.1 0 _ rfl) hb
  have t1 := cell_on (F.out.1 1 _ rfl) hb
  have t2 := cell_on (F.out.1 2 _ rfl) hb
  have t3 := cell_on (F.out.1 3 _ rfl) hb
  have HB1 := Lib.hid hb; clear hb
  go_wp2_with fail
  refine (small_is _ (F.out.2.2.2.1.below HB1.out) HS.out.1).mono ?_
  rintro e w2 ⟨rfl, hb⟩
  have HB2 := Lib.hid (chain HB1.out hb)
  clear hb t0 t1 t2 t3
  cases b1
  case false =>
    go_wp2_with fail
    go_ret
    exact ⟨rfl, F.out.2.2.1.trans (HB2.out.mono F.out.2.2.1.size)⟩
  case true =>
    have s0 := cell_on (F.out.2.1 0 _ rfl) HB2.out
    have s1 := cell_on (F.out.2.1 1 _ rfl) HB2.out
    have s2 := cell_on (F.out.2.1 2 _ rfl) HB2.out
    have s3 := cell_on (F.out.2.1 3 _ rfl) HB2.out
    go_wp2_with fail
    refine (small_is _ (F.out.2.2.2.2.1.below HB2.out) HS.out.2).mono ?_
    rintro e w3 ⟨rfl, hb⟩
    have HB3 := Lib.hid (chain HB2.out hb)
    clear hb s0 s1 s2 s3
    cases b2
    case false =>
      go_wp2_with fail
      go_ret
      exact ⟨rfl, F.out.2.2.1.trans (HB3.out.mono F.out.2.2.1.size)⟩
    case true =>
      have t0 := cell_on (F.out.1 0 _ rfl) HB3.out
      have t1 := cell_on (F.out.1 1 _ rfl) HB3.out
      have t2 := cell_on (F.out.1 2 _ rfl) HB3.out
      have t3 := cell_on (F.out.1 3 _ rfl) HB3.out
      have s0 := cell_on (F.out.2.1 0 _ rfl) HB3.out
      have s1 := cell_on (F.out.2.1 1 _ rfl) HB3.out
      have s2 := cell_on (F.out.2.1 2 _ rfl) HB3.out
      have s3 := cell_on (F.out.2.1 3 _ rfl) HB3.out
      go_wp2_with fail
      refine (bin_any _ _ _ _ _ _ _ _ _ _ _ _ _ _ (F.out.2.2.2.1.below HB3.out) (F.out.2.2.2.2.1.below HB3.out) (F.out.2.2.2.2.2.below HB3.out).1).mono ?_
      rintro e w4 ⟨he, hb⟩
      rw [(HO.out.1 (by simp) (by simp)).1, (HO.out.1 (by simp) (by simp)).2, HO.out.2.2.2] at he
      subst he
      have HB4 := Lib.hid (chain HB3.out hb)
      clear hb t0 t1 t2 t3 s0 s1 s2 s3
      have t0 := alloc_on (cell_on (F.out.1 0 _ rfl) HB4.out)
      have t1 := alloc_on (cell_on (F.out.1 1 _ rfl) HB4.out)
      have t2 := alloc_on (cell_on (F.out.1 2 _ rfl) HB4.out)
      have t3 := alloc_on (cell_on (F.out.1 3 _ rfl) HB4.out)
      have s0 := alloc_on (cell_on (F.out.2.1 0 _ rfl) HB4.out)
      have s1 := alloc_on (cell_on (F.out.2.1 1 _ rfl) HB4.out)
      have s2 := alloc_on (cell_on (F.out.2.1 2 _ rfl) HB4.out)
      have s3 := alloc_on (cell_on (F.out.2.1 3 _ rfl) HB4.out)
      go_wp2_with fail
      refine (refBin_any _ _ _ _ _ _ _ _ _ _ _ _ _ _ (F.out.2.2.2.1.below (alloc_below HB4.out)) (F.out.2.2.2.2.1.below (alloc_below HB4.out))).mono ?_
      rintro e w5 ⟨he, hb⟩
      rw [HO.out.2.2.2] at he
      subst he
      have c := (box_later hb (by simp)).1
      have r0 := alloc_on (c 0 _ rfl)
      have r1 := alloc_on (c 1 _ rfl)
      have r2 := alloc_on (c 2 _ rfl)
      have r3 := alloc_on (c 3 _ rfl)
      have HB5 := Lib.hid (chain_alloc HB4.out hb)
      clear hb t0 t1 t2 t3 s0 s1 s2 s3 c
      go_wp2_with fail
      refine (refSame_is _ (flat_at _ HO.out.2.1 HO.out.2.2.1) (flat_at _ HO.out.2.1 HO.out.2.2.1) (sameB_flat kr r)).mono ?_
      rintro e w6 ⟨rfl, hb⟩
      have HB6 := Lib.hid (chain_alloc HB5.out hb)
      clear hb
      go_wp2_with fail
      go_ret
      exact ⟨rfl, F.out.2.2.1.trans (HB6.out.mono F.out.2.2.1.size)⟩
end Go.Proofs.YtnjgcjgfnjcgdaaDoor
