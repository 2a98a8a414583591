/-
  The walk of the statements' sanity check: it returns true.
-/
import Derived.Test.YtnjgcjgfnjcgdaaDoorShow2
import Derived.Test.YtnjgcjgfnjcgdaaDoorSame
import Derived.Test.YtnjgcjgfnjcgdaaDoorIndex
import Derived.Deep.RegionHeld3
import Derived.Deep.DeepCutAuto
namespace Go.Proofs.YtnjgcjgfnjcgdaaDoor
open Go.RowKit
/-- Four cells of a value's box of the call's own, made behind W0. -/
def Box (W0 w : World) (b : Nat) : Prop := W0.heap.size ≤ b ∧ b < w.heap.size ∧ (∀ j v, (#[.int .i64 0, .int .i64 0, .int .i64 0, .slice none 0 0] : Array Value)[j]? = some v → w.cell? ⟨b, j, none⟩ = some v) ∧ ∀ j, w.frozen? ⟨b, j, none⟩ = false
theorem Box.below {W0 w w' : World} {b : Nat} (h : Box W0 w b) (hb : Below w.heap.size w w') : Box W0 w' b :=
  ⟨h.1, Nat.lt_of_lt_of_le h.2.1 hb.size, fun j v hv => (hb.cell h.2.1).trans (h.2.2.1 j v hv), fun j => (hb.frozen h.2.1).trans (h.2.2.2 j)⟩
theorem Box.new {W0 w : World} {t : TypeId} (h : W0.heap.size ≤ w.heap.size) : Box W0 (w.alloc (.cells #[.int .i64 0, .int .i64 0, .int .i64 0, .slice none 0 0] t)) w.heap.size :=
  ⟨h, by simp, fun j v hv => by rw [World.cell?_alloc_new, hv], fun j => World.frozen?_alloc_new _ _ _ _⟩
theorem Box.say {W0 w : World} {b : Nat} (h : Box W0 w b) : w.cell? ⟨b, 0, none⟩ = some (.int .i64 0) ∧ w.cell? ⟨b, 1, none⟩ = some (.int .i64 0) ∧ w.cell? ⟨b, 2, none⟩ = some (.int .i64 0) ∧ w.cell? ⟨b, 3, none⟩ = some (.slice none 0 0) ∧
    w.frozen? ⟨b, 0, none⟩ = false ∧ w.frozen? ⟨b, 1, none⟩ = false ∧ w.frozen? ⟨b, 2, none⟩ = false ∧ w.frozen? ⟨b, 3, none⟩ = false :=
  ⟨h.2.2.1 0 _ rfl, h.2.2.1 1 _ rfl, h.2.2.1 2 _ rfl, h.2.2.1 3 _ rfl, h.2.2.2 0, h.2.2.2 1, h.2.2.2 2, h.2.2.2 3⟩
theorem Box.ge {W0 w : World} {b : Nat} (h : Box W0 w b) : W0.heap.size ≤ b := h.1
theorem held_at {W0 w : World} {b : Nat} {v0 v1 v2 v3 : Value} (hb : Below W0.heap.size W0 w) (z0 : W0.cell? ⟨b, 0, none⟩ = some v0) (z1 : W0.cell? ⟨b, 1, none⟩ = some v1) (z2 : W0.cell? ⟨b, 2, none⟩ = some v2) (z3 : W0.cell? ⟨b, 3, none⟩ = some v3) :
    Below W0.heap.size W0 w ∧ w.cell? ⟨b, 0, none⟩ = some v0 ∧ w.cell? ⟨b, 1, none⟩ = some v1 ∧ w.cell? ⟨b, 2, none⟩ = some v2 ∧ w.cell? ⟨b, 3, none⟩ = some v3 :=
  ⟨hb, (hb.cell (World.block_lt_of_cell? _ _ z0)).trans z0, (hb.cell (World.block_lt_of_cell? _ _ z1)).trans z1, (hb.cell (World.block_lt_of_cell? _ _ z2)).trans z2, (hb.cell (World.block_lt_of_cell? _ _ z3)).trans z3⟩
theorem alloc_held {W0 w : World} {o : Obj} (h : Below W0.heap.size W0 w) : Below W0.heap.size W0 (w.alloc o) := h.alloc h.size o
theorem held_call {W0 w w' : World} {p : Prop} (h : Below W0.heap.size W0 w ∧ p) (hb : Below w.heap.size w w') : Below W0.heap.size W0 w' := h.1.trans (hb.mono h.1.size)
theorem held_alloc {W0 w : World} {p : Prop} {o : Obj} (h : Below W0.heap.size W0 w ∧ p) : Below W0.heap.size W0 (w.alloc o) := h.1.alloc h.1.size o
theorem box_own {W0 w w' : World} {t : TypeId} (h2 : W0.heap.size ≤ w.heap.size) (hb : Below (w.alloc (.cells #[.int .i64 0, .int .i64 0, .int .i64 0, .slice none 0 0] t)).heap.size (w.alloc (.cells #[.int .i64 0, .int .i64 0, .int .i64 0, .slice none 0 0] t)) w') : Box W0 w' w.heap.size := (Box.new h2).below hb
theorem box_drew {W0 w' : World} {t : TypeId} (hb : Below (W0.alloc (.cells #[.int .i64 0, .int .i64 0, .int .i64 0, .slice none 0 0] t)).drew.heap.size (W0.alloc (.cells #[.int .i64 0, .int .i64 0, .int .i64 0, .slice none 0 0] t)).drew w') : Box W0 w' W0.heap.size := (Box.new (t := t) (Nat.le_refl _)).below (((Below.refl _ _).drew).trans hb)
theorem held_store {W0 w : World} {p : Prop} {b : Nat} {v0 v1 v2 v3 : Value} (h : Below W0.heap.size W0 w ∧ p) (hx : W0.heap.size ≤ b) : Below W0.heap.size W0 ((((w.setCell ⟨b, 0, none⟩ v0).setCell ⟨b, 1, none⟩ v1).setCell ⟨b, 2, none⟩ v2).setCell ⟨b, 3, none⟩ v3) :=
  (((h.1.setCell hx _).setCell hx _).setCell hx _).setCell hx _
def someV : V := .mk 8 0 0 [.mk 8 0 0 [.mk 1 3 0 []]]
theorem int_is {n c : Int} (w : World) (h : roundZ n = c) : Calls Tryd.prog 22 #[.int .i64 n] w fun e w' => e = .returned (.agg #[.int .i64 1, .int .i64 c, .int .i64 0, .slice none 0 0]) ∧ Below w.heap.size w w' := by
  subst h; exact int_any n w
theorem cell_on {w w' : World} {p : Addr} {v : Value} (h : w.cell? p = some v) (hb : Below w.heap.size w w') : w'.cell? p = some v := (hb.cell (World.block_lt_of_cell? _ _ h)).trans h
theorem alloc_on {w : World} {p : Addr} {v : Value} (h : w.cell? p = some v) (o : Obj) : (w.alloc o).cell? p = some v := by rw [World.cell?_alloc_lt _ _ _ (World.block_lt_of_cell? _ _ h), h]
theorem alloc_below {w w' : World} {o : Obj} (h : Below w.heap.size w w') : Below w.heap.size w (w'.alloc o) := h.alloc h.size o
theorem below_of_alloc' {w w' : World} {o : Obj} (h : Below (w.alloc o).heap.size (w.alloc o) w') : Below w.heap.size w w' := (alloc_below (Below.refl _ _)).trans (h.mono (by simp))
theorem chain_alloc {W w w' : World} {o : Obj} (h : Below W.heap.size W w) (hb : Below (w.alloc o).heap.size (w.alloc o) w') : Below W.heap.size W w' := h.trans ((below_of_alloc' hb).mono h.size)
theorem chain {W w w' : World} (h : Below W.heap.size W w) (hb : Below w.heap.size w w') : Below W.heap.size W w' := h.trans (hb.mono h.size)
theorem show_some : sh 3 someV = ⟨#[83, 111, 109, 101, 32, 40, 83, 111, 109, 101, 32, 51, 41]⟩ := by
  kernel_rfl
theorem show_is (x : Value) (w : World) (hv : VAt w 3 x someV) (hg : Good w) :
    Calls Tryd.prog 18 #[x] w fun e w' => e = .returned (.string ⟨#[83, 111, 109, 101, 32, 40, 83, 111, 109, 101, 32, 51, 41]⟩) ∧ Below w.heap.size w w' := by
  have h := show_any 3 x someV w (by omega) hv hg
  rw [show_some] at h
  exact h
theorem right_is (d : Nat) (x : Value) (v : V) (b : Bool) (w : World) (hv : VAt w d x v) (hb : validP 40 v = b) :
    Calls Tryd.prog 14 #[x] w fun e w' => e = .returned (.bool b) ∧ Below w.heap.size w w' := by
  subst hb; exact right_any d x v w hv
theorem same_is (d d' : Nat) (x y : Value) (v u : V) (b : Bool) (w : World) (hv : VAt w d x v) (hu : VAt w d' y u) (hb : sameB d v u = b) :
    Calls Tryd.prog 16 #[x, y] w fun e w' => e = .returned (.bool b) ∧ Below w.heap.size w w' := by
  subst hb; exact same_any d d' x y v u w hv hu
theorem bool_is (w : World) :
    Calls Tryd.prog 29 #[.bool true] w fun e w' => e = .returned (.agg #[.int .i64 2, .int .i64 1, .int .i64 0, .slice none 0 0]) ∧ Below w.heap.size w w' := bool_any true w
theorem bin_out_is {o : Option (Int × Int)} {kr r : Int} (h : o = some (kr, r)) : binOf o = .returned (.tuple #[.agg #[.int .i64 kr, .int .i64 r, .int .i64 0, .slice none 0 0], .int .i64 0]) := by rw [h]; rfl
theorem bin_out_no {o : Option (Int × Int)} (h : o = none) : binOf o = .returned (.tuple #[.agg #[.int .i64 0, .int .i64 0, .int .i64 0, .slice none 0 0], .int .i64 1]) := by rw [h]; rfl
theorem el_one {w : World} {d b : Nat} {c0 c1 c2 c3 : Value} {v : V} (h0 : w.cell? ⟨b, 0, none⟩ = some c0) (h1 : w.cell? ⟨b, 1, none⟩ = some c1) (h2 : w.cell? ⟨b, 2, none⟩ = some c2) (h3 : w.cell? ⟨b, 3, none⟩ = some c3)
    (hv : VAt w d (.agg #[c0, c1, c2, c3]) v) : ElAt w d (some ⟨b, 0, none⟩) [v] := fun i u hi => by
  cases i with
  | zero =>
    simp only [List.getElem?_cons_zero, Option.some.injEq] at hi
    subst hi
    exact ⟨b, 0, c0, c1, c2, c3, rfl, h0, h1, h2, h3, hv⟩
  | succ i => simp at hi
theorem bin_mul (w : World) (hg : Good w) : Calls Tryd.prog 24 #[.int .i64 3, .agg #[.int .i64 1, .int .i64 1099511627776, .int .i64 0, .slice none 0 0], .agg #[.int .i64 1, .int .i64 2, .int .i64 0, .slice none 0 0]] w fun e w' =>
    e = .returned (.tuple #[.agg #[.int .i64 1, .int .i64 (-1), .int .i64 0, .slice none 0 0], .int .i64 0]) ∧ Below w.heap.size w w' := by
  have h := bin_any 3 1 1 _ _ 1 1099511627776 0 1 2 0 [] [] w (flat_at w (by unfold I64; omega) (by unfold I64; omega)) (flat_at w (by unfold I64; omega) (by unfold I64; omega)) hg.1
  rw [bin_out_is (kr := 1) (r := -1) (by decide)] at h
  exact h
theorem bin_and (w : World) (hg : Good w) : Calls Tryd.prog 24 #[.int .i64 6, .agg #[.int .i64 1, .int .i64 1, .int .i64 0, .slice none 0 0], .agg #[.int .i64 1, .int .i64 1, .int .i64 0, .slice none 0 0]] w fun e w' =>
    e = .returned (.tuple #[.agg #[.int .i64 0, .int .i64 0, .int .i64 0, .slice none 0 0], .int .i64 1]) ∧ Below w.heap.size w w' := by
  have h := bin_any 6 1 1 _ _ 1 1 0 1 1 0 [] [] w (flat_at w (by unfold I64; omega) (by unfold I64; omega)) (flat_at w (by unfold I64; omega) (by unfold I64; omega)) hg.1
  rw [bin_out_no (by decide)] at h
  exact h
theorem index_is (w : World) : Calls Tryd.prog 12 #[.agg #[.int .i64 5, .int .i64 3, .int .i64 2, .slice none 0 0], .int .i64 1] w fun e w' =>
    e = .returned (.tuple #[.agg #[.int .i64 4, .int .i64 4, .int .i64 0, .slice none 0 0], .bool true]) ∧ Below w.heap.size w w' := by
  have h := index_any 1 (.agg #[.int .i64 5, .int .i64 3, .int .i64 2, .slice none 0 0]) 5 3 2 [] 1 w ⟨none, 0, 0, rfl, by unfold I64; omega, by unfold I64; omega, by unfold I64; omega, rfl, by omega, fun i v h => by simp at h⟩
  rw [show idxEnd (validP 40 (.mk 5 3 2 [])) 5 3 2 1 = .returned (.tuple #[.agg #[.int .i64 4, .int .i64 4, .int .i64 0, .slice none 0 0], .bool true]) by kernel_rfl] at h
  exact h
theorem bin_ovf (w : World) (hg : Good w) : Calls Tryd.prog 24 #[.int .i64 1, .agg #[.int .i64 1, .int .i64 1099511627776, .int .i64 0, .slice none 0 0], .agg #[.int .i64 1, .int .i64 1, .int .i64 0, .slice none 0 0]] w fun e w' =>
    e = .returned (.tuple #[.agg #[.int .i64 1, .int .i64 (-1099511627776), .int .i64 0, .slice none 0 0], .int .i64 0]) ∧ Below w.heap.size w w' := by
  have h := bin_any 1 1 1 _ _ 1 1099511627776 0 1 1 0 [] [] w (flat_at w (by unfold I64; omega) (by unfold I64; omega)) (flat_at w (by unfold I64; omega) (by unfold I64; omega)) hg.1
  rw [bin_out_is (kr := 1) (r := -1099511627776) (by decide)] at h
  exact h
set_option maxRecDepth 20000 in
set_option maxHeartbeats 3200000 in
theorem sanity_any (w : World) (hg : Good w) :
    Calls Tryd.prog 10 #[] w fun e w' => e = .returned (.bool true) ∧ Below w.heap.size w w' := by
  have HG := Lib.hid hg; clear hg
  have R1 : roundZ 1 = 1 := round_self (by omega) (by omega)
  have R3 : roundZ 3 = 3 := round_self (by omega) (by omega)
  have RM : roundZ 1099511627776 = 1099511627776 := round_self (by omega) (by omega)
  have R2 : roundZ 2 = 2 := round_self (by omega) (by omega)
  go_enter Tryd.func10, Tryd.ntmps10
  go_wp2_with fail
  refine (int_any _ _).mono ?_
  rintro e w1 ⟨rfl, hb⟩
  rw [R1]
  unfold flat
  have HB1 := Lib.hid hb; clear hb
  go_wp2_with fail
  refine (int_any _ _).mono ?_
  rintro e w2 ⟨rfl, hb⟩
  rw [R3]
  unfold flat
  have c1 := (box_later hb (by simp)).1
  have d0 := c1 0 _ rfl
  have d1 := c1 1 _ rfl
  have d2 := c1 2 _ rfl
  have d3 := c1 3 _ rfl
  simp only [World.size_alloc] at hb
  have HB2 := Lib.hid hb; clear hb c1
  go_upto_region 3 with (fail)
  obtain ⟨W0, hW0⟩ : ∃ W0, W0 = (((w2.alloc (.cells #[.int .i64 1, .int .i64 3, .int .i64 0, .slice none 0 0] 24)).alloc (.cells #[.int .i64 8, .int .i64 0, .int .i64 0, .slice (some ⟨w2.heap.size, 0, none⟩) 1 1] 24)).alloc (.cells #[.int .i64 8, .int .i64 0, .int .i64 0, .slice (some ⟨w2.heap.size + 1, 0, none⟩) 1 1] 24)) := ⟨_, rfl⟩
  rw [← hW0]
  have hb12 : Below w.heap.size w w2 := chain_alloc HB1.out (by simpa using HB2.out)
  have hbW : Below w.heap.size w W0 := by rw [hW0]; exact alloc_below (alloc_below (alloc_below hb12))
  have hg0 : Good W0 := HG.out.below hbW
  have z0 : W0.cell? ⟨w1.heap.size, 0, none⟩ = some (.int .i64 1) := by rw [hW0]; exact alloc_on (alloc_on (alloc_on d0 _) _) _
  have z1 : W0.cell? ⟨w1.heap.size, 1, none⟩ = some (.int .i64 1) := by rw [hW0]; exact alloc_on (alloc_on (alloc_on d1 _) _) _
  have z2 : W0.cell? ⟨w1.heap.size, 2, none⟩ = some (.int .i64 0) := by rw [hW0]; exact alloc_on (alloc_on (alloc_on d2 _) _) _
  have z3 : W0.cell? ⟨w1.heap.size, 3, none⟩ = some (.slice none 0 0) := by rw [hW0]; exact alloc_on (alloc_on (alloc_on d3 _) _) _
  have B3 := boxes3 w2 #[.int .i64 1, .int .i64 3, .int .i64 0, .slice none 0 0] #[.int .i64 8, .int .i64 0, .int .i64 0, .slice (some ⟨w2.heap.size, 0, none⟩) 1 1] #[.int .i64 8, .int .i64 0, .int .i64 0, .slice (some ⟨w2.heap.size + 1, 0, none⟩) 1 1] 24 24 24
  rw [← hW0] at B3
  have t0 : W0.cell? ⟨w2.heap.size + 1 + 1, 0, none⟩ = some (.int .i64 8) := B3.2.1 0
  have t1 : W0.cell? ⟨w2.heap.size + 1 + 1, 1, none⟩ = some (.int .i64 0) := B3.2.1 1
  have t2 : W0.cell? ⟨w2.heap.size + 1 + 1, 2, none⟩ = some (.int .i64 0) := B3.2.1 2
  have t3 : W0.cell? ⟨w2.heap.size + 1 + 1, 3, none⟩ = some (.slice (some ⟨w2.heap.size + 1, 0, none⟩) 1 1) := B3.2.1 3
  have hs0 : VAt W0 3 (.agg #[.int .i64 8, .int .i64 0, .int .i64 0, .slice (some ⟨w2.heap.size + 1, 0, none⟩) 1 1]) someV := by
    have v1 : VAt W0 1 (.agg #[.int .i64 1, .int .i64 3, .int .i64 0, .slice none 0 0]) (.mk 1 3 0 []) := flat_at W0 (by unfold I64; omega) (by unfold I64; omega)
    have v2 : VAt W0 2 (.agg #[.int .i64 8, .int .i64 0, .int .i64 0, .slice (some ⟨w2.heap.size, 0, none⟩) 1 1]) (.mk 8 0 0 [.mk 1 3 0 []]) :=
      VAt.mk' (by unfold I64; omega) (by unfold I64; omega) (by unfold I64; omega) (by simp) (el_one (B3.1.1 0) (B3.1.1 1) (B3.1.1 2) (B3.1.1 3) v1)
    exact VAt.mk' (by unfold I64; omega) (by unfold I64; omega) (by unfold I64; omega) (by simp) (el_one (B3.1.2 0) (B3.1.2 1) (B3.1.2 2) (B3.1.2 3) v2)
  clear B3 hb12
  go_cut [3, 4] (fun s3 s4 wx => ∃ g : Nat, s3 = .pointer (some ⟨g, 0, none⟩) ∧ s4 = .int .i64 0 ∧ wx.cell? ⟨g, 1, none⟩ = some (.int .i64 (-1099511627776)) ∧ Below W0.heap.size W0 wx)
  case first =>
    have HG0 := Lib.hid hg0
    have HRM := Lib.hid RM
    clear HG HB1 HB2 d0 d1 d2 d3 hg0 hW0 RM R1 R2 R3 t0 t1 t2 t3 hs0 hbW
    go_region_held3 (fun w' => Below W0.heap.size W0 w' ∧ w'.cell? ⟨w1.heap.size, 0, none⟩ = some (.int .i64 1) ∧ w'.cell? ⟨w1.heap.size, 1, none⟩ = some (.int .i64 1) ∧ w'.cell? ⟨w1.heap.size, 2, none⟩ = some (.int .i64 0) ∧ w'.cell? ⟨w1.heap.size, 3, none⟩ = some (.slice none 0 0))
      (exact held_at (by first | exact (Below.refl _ _).drew | exact held_call (by assumption) (by assumption) | exact held_alloc (by assumption) | exact alloc_held (by assumption) | exact held_store (by assumption) (Box.ge (by assumption)) | exact held_store (by assumption) (by first | exact Nat.le_refl _ | exact Below.size (by assumption)) | (trace_state; fail)) z0 z1 z2 z3)
      (first | (go_at_call 22; refine (int_any _ _).mono ?_; rintro e w' ⟨rfl, hb'⟩; rw [HRM.out]; unfold flat; have hh := held_call (by assumption) hb'; first | (have bx := Box.below (by assumption) hb'; obtain ⟨g0, g1, g2, g3, f0, f1, f2, f3⟩ := bx.say) | (have bx := box_own (W0 := W0) (by first | exact Nat.le_refl _ | exact Below.size (by assumption)) hb'; obtain ⟨g0, g1, g2, g3, f0, f1, f2, f3⟩ := bx.say) | (have bx := box_drew hb'; obtain ⟨g0, g1, g2, g3, f0, f1, f2, f3⟩ := bx.say) | skip) | (go_at_call 24; refine (bin_ovf _ (HG0.out.below (And.left (by assumption)))).mono ?_; rintro e w' ⟨rfl, hb'⟩; have hh := held_call (by assumption) hb'; first | (have bx := Box.below (by assumption) hb'; obtain ⟨g0, g1, g2, g3, f0, f1, f2, f3⟩ := bx.say) | (have bx := box_own (W0 := W0) (by first | exact Nat.le_refl _ | exact Below.size (by assumption)) hb'; obtain ⟨g0, g1, g2, g3, f0, f1, f2, f3⟩ := bx.say) | (have bx := box_drew hb'; obtain ⟨g0, g1, g2, g3, f0, f1, f2, f3⟩ := bx.say) | skip))
    · go_wp2_with fail
      go_meet
      exact ⟨_, rfl, rfl, by simp [go_sem], And.left (by assumption)⟩
    · go_wp2_with fail
      go_meet
      exact ⟨_, rfl, rfl, by simp [go_sem, cell_set_has, *], And.left (by assumption)⟩
    · go_wp2_with fail
      go_meet
      exact ⟨_, rfl, rfl, by simp [go_sem, cell_set_has, *], And.left (by assumption)⟩
  case rest =>
    obtain ⟨g, rfl, rfl, cg, hbw⟩ := hcut
    have AT := Lib.hid (And.intro (held_at hbw z0 z1 z2 z3) (And.intro (held_at hbw t0 t1 t2 t3) (And.intro (hg0.below hbw) (And.intro (hs0.below hbw) (hbW.trans (hbw.mono hbW.size))))))
    have RR := Lib.hid (And.intro RM R2)
    clear hW0 z0 z1 z2 z3 t0 t1 t2 t3 hg0 hs0 HG HB1 HB2 d0 d1 d2 d3 hbw hbW R1 R2 R3 RM
    go_wp2_with fail
    refine (int_is _ RR.out.1).mono ?_
    rintro e w5 ⟨rfl, hb⟩
    have HB5 := Lib.hid hb; clear hb
    go_wp2_with fail
    refine (int_is _ RR.out.2).mono ?_
    rintro e w6 ⟨rfl, hb⟩
    have HB6 := Lib.hid (HB5.out.trans (hb.mono HB5.out.size)); clear hb
    have CG := Lib.hid cg; clear cg
    go_wp2_with fail
    refine (bin_mul _ (AT.out.2.2.1.below HB6.out)).mono ?_
    rintro e w7 ⟨rfl, hb⟩
    have hb7 := HB6.out.trans (hb.mono HB6.out.size)
    have y0 := alloc_on (cell_on AT.out.1.2.1 hb7)
    have y1 := alloc_on (cell_on AT.out.1.2.2.1 hb7)
    have y2 := alloc_on (cell_on AT.out.1.2.2.2.1 hb7)
    have y3 := alloc_on (cell_on AT.out.1.2.2.2.2 hb7)
    have HB7 := Lib.hid hb7; clear hb hb7 HB5 HB6
    go_wp2_with fail
    refine (bin_and _ (AT.out.2.2.1.below (alloc_below HB7.out))).mono ?_
    rintro e w8 ⟨rfl, hb⟩
    have q5 := (box_later hb (by simp)).1 1 _ rfl
    have HB8 := Lib.hid (chain_alloc HB7.out hb); clear hb y0 y1 y2 y3
    go_wp2_with fail
    refine (index_is _).mono ?_
    rintro e w9 ⟨rfl, hb⟩
    have HB9 := Lib.hid (chain_alloc HB8.out hb)
    have r5 := cell_on q5 (below_of_alloc' hb)
    clear hb
    have r5a := alloc_on r5
    have r3a := alloc_on (cell_on CG.out HB9.out)
    have t0 := alloc_on (cell_on AT.out.2.1.2.1 HB9.out)
    have t1 := alloc_on (cell_on AT.out.2.1.2.2.1 HB9.out)
    have t2 := alloc_on (cell_on AT.out.2.1.2.2.2.1 HB9.out)
    have t3 := alloc_on (cell_on AT.out.2.1.2.2.2.2 HB9.out)
    clear r5 q5
    go_wp2_with fail
    refine (show_is _ _ (AT.out.2.2.2.1.below (alloc_below HB9.out)) (AT.out.2.2.1.below (alloc_below HB9.out))).mono ?_
    rintro e wA ⟨rfl, hb⟩
    have q0 := (box_later hb (by simp)).1 0 _ rfl
    have q1 := (box_later hb (by simp)).1 1 _ rfl
    have HBA := Lib.hid (chain_alloc HB9.out hb)
    clear hb r5a r3a t0 t1 t2 t3 HB9
    have t0 := cell_on AT.out.2.1.2.1 HBA.out
    have t1 := cell_on AT.out.2.1.2.2.1 HBA.out
    have t2 := cell_on AT.out.2.1.2.2.2.1 HBA.out
    have t3 := cell_on AT.out.2.1.2.2.2.2 HBA.out
    go_wp2_with fail
    refine (right_is 3 _ someV true _ (AT.out.2.2.2.1.below HBA.out) (by decide)).mono ?_
    rintro e wB ⟨rfl, hb⟩
    have HBB := Lib.hid (chain HBA.out hb)
    clear hb q0 q1 t0 t1 t2 t3 HBA
    go_wp2_with fail
    refine (right_is 1 _ (.mk 0 0 0 []) false _ (flat_at _ (by unfold I64; omega) (by unfold I64; omega)) (by decide)).mono ?_
    rintro e wC ⟨rfl, hb⟩
    have HBC := Lib.hid (chain HBB.out hb)
    clear hb HBB
    have t0 := cell_on AT.out.2.1.2.1 HBC.out
    have t1 := cell_on AT.out.2.1.2.2.1 HBC.out
    have t2 := cell_on AT.out.2.1.2.2.2.1 HBC.out
    have t3 := cell_on AT.out.2.1.2.2.2.2 HBC.out
    go_wp2_with fail
    refine (same_is 3 3 _ _ someV someV true _ (AT.out.2.2.2.1.below HBC.out) (AT.out.2.2.2.1.below HBC.out) (by decide)).mono ?_
    rintro e wD ⟨rfl, hb⟩
    have HBD := Lib.hid (chain HBC.out hb)
    clear hb t0 t1 t2 t3 HBC
    have t0 := cell_on AT.out.2.1.2.1 HBD.out
    have t1 := cell_on AT.out.2.1.2.2.1 HBD.out
    have t2 := cell_on AT.out.2.1.2.2.2.1 HBD.out
    have t3 := cell_on AT.out.2.1.2.2.2.2 HBD.out
    have y0 := cell_on AT.out.1.2.1 HBD.out
    have y1 := cell_on AT.out.1.2.2.1 HBD.out
    have y2 := cell_on AT.out.1.2.2.2.1 HBD.out
    have y3 := cell_on AT.out.1.2.2.2.2 HBD.out
    go_wp2_with fail
    refine (same_is 3 1 _ _ someV (.mk 1 1 0 []) false _ (AT.out.2.2.2.1.below HBD.out) (flat_at _ (by unfold I64; omega) (by unfold I64; omega)) (by decide)).mono ?_
    rintro e wE ⟨rfl, hb⟩
    have HBE := Lib.hid (chain HBD.out hb)
    clear hb t0 t1 t2 t3 y0 y1 y2 y3 HBD
    go_wp2_with fail
    refine (bool_is _).mono ?_
    rintro e wF ⟨rfl, hb⟩
    have HBF := Lib.hid (chain HBE.out hb)
    clear hb HBE
    have hfd : (Instr.field 24 (.agg #[.int .i64 2, .int .i64 1, .int .i64 0, .slice none 0 0]) 1).run Tryd.prog wF = .ok (.int .i64 1) wF := by kernel_rfl
    go_wp2_with fail
    refine bodyPost_ret (v := .bool true) (by simp [results, Tryd.results10, go_sem]) rfl ⟨rfl, ?_⟩
    exact AT.out.2.2.2.2.trans (HBF.out.mono AT.out.2.2.2.2.size)
end Go.Proofs.YtnjgcjgfnjcgdaaDoor
