/-
  What value.Bin returns, for every operator; and the walk of the statements' helper bin.
-/
import Derived.Test.YtnjgcjgfnjcgdaaDoorBin
namespace Go.Proofs.YtnjgcjgfnjcgdaaDoor
open Go.RowKit
theorem call81 (args : Array Value) (w : World) : (callFunc 81 args).run Tryd.prog w = .ok (.enter 81 args) w := by kernel_rfl
theorem call82 (args : Array Value) (w : World) : (callFunc 82 args).run Tryd.prog w = .ok (.enter 82 args) w := by kernel_rfl
theorem call83 (args : Array Value) (w : World) : (callFunc 83 args).run Tryd.prog w = .ok (.enter 83 args) w := by kernel_rfl
theorem call84 (args : Array Value) (w : World) : (callFunc 84 args).run Tryd.prog w = .ok (.enter 84 args) w := by kernel_rfl
theorem call85 (args : Array Value) (w : World) : (callFunc 85 args).run Tryd.prog w = .ok (.enter 85 args) w := by kernel_rfl
theorem call86 (args : Array Value) (w : World) : (callFunc 86 args).run Tryd.prog w = .ok (.enter 86 args) w := by kernel_rfl

theorem valid_num {l : Nat} {k n m : Int} {of : List V} (h : validP l (.mk k n m of) = true) : numP k n m := by
  cases l with
  | zero => simp [validP] at h
  | succ l =>
    simp only [validP, okB, Bool.and_eq_true] at h
    exact numB_iff.1 h.1.2
theorem valid_int {l : Nat} {n m : Int} {of : List V} (h : validP l (.mk 1 n m of) = true) : InR n := by
  have := valid_num h
  unfold numP at this
  exact ⟨by omega, by omega⟩
theorem valid_bool {l : Nat} {n m : Int} {of : List V} (h : validP l (.mk 2 n m of) = true) : n = 0 ∨ n = 1 := by
  have := valid_num h
  unfold numP at this
  omega
theorem and01 {a b : Int} (ha : a = 0 ∨ a = 1) (hb : b = 0 ∨ b = 1) : (bits .and .i64 a b == 1) = (a == 1 && b == 1) := by
  rcases ha with rfl | rfl <;> rcases hb with rfl | rfl <;> rfl
theorem or01 {a b : Int} (ha : a = 0 ∨ a = 1) (hb : b = 0 ∨ b = 1) : (bits .or .i64 a b == 1) = (a == 1 || b == 1) := by
  rcases ha with rfl | rfl <;> rcases hb with rfl | rfl <;> rfl

theorem binEnd_of {k k' kd : Int} {v u : Bool} {kr r : Int} {o : Option (Int × Int)} (hy : k = kd → k' = kd → v = true → u = true → o = some (kr, r)) (hn : ¬ (k = kd ∧ k' = kd ∧ v = true ∧ u = true) → o = none) :
    binEnd k k' kd v u kr r = binOf o := by
  unfold binEnd
  split
  · rename_i h; rw [hy h.1 h.2.1 h.2.2.1 h.2.2.2]; rfl
  · rename_i h; rw [hn h]; rfl
theorem binSpec_no {op k n k' n' kd : Int} {v u : Bool} (h : ¬ (k = kd ∧ k' = kd ∧ v = true ∧ u = true)) (hop : (kd = 1 ∧ 1 ≤ op ∧ op ≤ 5) ∨ (kd = 2 ∧ 6 ≤ op ∧ op ≤ 7)) : binSpec op k n k' n' v u = none := by
  unfold binSpec
  split
  · rename_i hc
    simp only [Bool.and_eq_true, decide_eq_true_eq] at hc
    obtain ⟨⟨hv, hu⟩, hk⟩ := hc
    subst hk
    have hk2 : k ≠ kd := fun e => h ⟨e, e, hv, hu⟩
    split
    · rename_i k1
      rw [if_neg (by omega), if_neg (by omega), if_neg (by omega), if_neg (by omega), if_neg (by omega)]
    · split
      · rw [if_neg (by omega), if_neg (by omega)]
      · rfl
  · rfl

theorem bin_any (op : Int) (d d' : Nat) (x y : Value) (k n m k' n' m' : Int) (of of' : List V) (w : World) (hv : VAt w d x (.mk k n m of)) (hu : VAt w d' y (.mk k' n' m' of')) (ho : OpsAt w) :
    Calls Tryd.prog 24 #[.int .i64 op, x, y] w fun e w' => e = binOf (binSpec op k n k' n' (validP 40 (.mk k n m of)) (validP 40 (.mk k' n' m' of'))) ∧ Below w.heap.size w w' := by
  by_cases hout : op < 1 ∨ 7 < op
  · refine (bin_out op d d' x y _ _ w hv hu hout).mono fun e w' ⟨he, hb⟩ => ⟨?_, hb⟩
    rw [he]
    have : binSpec op k n k' n' (validP 40 (.mk k n m of)) (validP 40 (.mk k' n' m' of')) = none := by
      unfold binSpec
      split
      · split
        · rw [if_neg (by omega), if_neg (by omega), if_neg (by omega), if_neg (by omega), if_neg (by omega)]
        · split
          · rw [if_neg (by omega), if_neg (by omega)]
          · rfl
      · rfl
    rw [this]; rfl
  · have h7 : op = 1 ∨ op = 2 ∨ op = 3 ∨ op = 4 ∨ op = 5 ∨ op = 6 ∨ op = 7 := by omega
    rcases h7 with rfl | rfl | rfl | rfl | rfl | rfl | rfl
    · refine (bin_in 1 80 1 1 (roundZ (n + n')) d d' x y k n m k' n' m' of of' w hv hu (by omega) (by omega) (ho 1 (by omega) (by omega)).1 (ho 1 (by omega) (by omega)).2 call80 (fun h1 h2 h3 h4 => op_add _ _ (valid_int (h1 ▸ h3)) (valid_int (h2 ▸ h4)))).mono fun e w' ⟨he, hb⟩ => ⟨?_, hb⟩
      rw [he]
      exact binEnd_of (fun h1 h2 h3 h4 => by rw [h3, h4]; simp [binSpec, h1, h2]) (fun h => binSpec_no h (by omega))
    · refine (bin_in 2 81 1 1 (roundZ (n - n')) d d' x y k n m k' n' m' of of' w hv hu (by omega) (by omega) (ho 2 (by omega) (by omega)).1 (ho 2 (by omega) (by omega)).2 call81 (fun h1 h2 h3 h4 => op_sub _ _ (valid_int (h1 ▸ h3)) (valid_int (h2 ▸ h4)))).mono fun e w' ⟨he, hb⟩ => ⟨?_, hb⟩
      rw [he]
      exact binEnd_of (fun h1 h2 h3 h4 => by rw [h3, h4]; simp [binSpec, h1, h2]) (fun h => binSpec_no h (by omega))
    · refine (bin_in 3 82 1 1 (roundZ (n * n')) d d' x y k n m k' n' m' of of' w hv hu (by omega) (by omega) (ho 3 (by omega) (by omega)).1 (ho 3 (by omega) (by omega)).2 call82 (fun h1 h2 h3 h4 => op_mul _ _ (valid_int (h1 ▸ h3)) (valid_int (h2 ▸ h4)))).mono fun e w' ⟨he, hb⟩ => ⟨?_, hb⟩
      rw [he]
      exact binEnd_of (fun h1 h2 h3 h4 => by rw [h3, h4]; simp [binSpec, h1, h2]) (fun h => binSpec_no h (by omega))
    · refine (bin_in 4 83 1 2 (b2i (decide (n < n'))) d d' x y k n m k' n' m' of of' w hv hu (by omega) (by omega) (ho 4 (by omega) (by omega)).1 (ho 4 (by omega) (by omega)).2 call83 (fun _ _ _ _ => op_less _ _)).mono fun e w' ⟨he, hb⟩ => ⟨?_, hb⟩
      rw [he]
      exact binEnd_of (fun h1 h2 h3 h4 => by rw [h3, h4]; simp [binSpec, h1, h2]) (fun h => binSpec_no h (by omega))
    · refine (bin_in 5 84 1 2 (b2i (n == n')) d d' x y k n m k' n' m' of of' w hv hu (by omega) (by omega) (ho 5 (by omega) (by omega)).1 (ho 5 (by omega) (by omega)).2 call84 (fun _ _ _ _ => op_eq _ _)).mono fun e w' ⟨he, hb⟩ => ⟨?_, hb⟩
      rw [he]
      exact binEnd_of (fun h1 h2 h3 h4 => by rw [h3, h4]; simp [binSpec, h1, h2]) (fun h => binSpec_no h (by omega))
    · refine (bin_in 6 85 2 2 (b2i (bits .and .i64 n n' == 1)) d d' x y k n m k' n' m' of of' w hv hu (by omega) (by omega) (ho 6 (by omega) (by omega)).1 (ho 6 (by omega) (by omega)).2 call85 (fun _ _ _ _ => op_and _ _)).mono fun e w' ⟨he, hb⟩ => ⟨?_, hb⟩
      rw [he]
      exact binEnd_of (fun h1 h2 h3 h4 => by rw [and01 (valid_bool (h1 ▸ h3)) (valid_bool (h2 ▸ h4))]; rw [h3, h4]; simp [binSpec, h1, h2]) (fun h => binSpec_no h (by omega))
    · refine (bin_in 7 86 2 2 (b2i (bits .or .i64 n n' == 1)) d d' x y k n m k' n' m' of of' w hv hu (by omega) (by omega) (ho 7 (by omega) (by omega)).1 (ho 7 (by omega) (by omega)).2 call86 (fun _ _ _ _ => op_or _ _)).mono fun e w' ⟨he, hb⟩ => ⟨?_, hb⟩
      rw [he]
      exact binEnd_of (fun h1 h2 h3 h4 => by rw [or01 (valid_bool (h1 ▸ h3)) (valid_bool (h2 ▸ h4))]; rw [h3, h4]; simp [binSpec, h1, h2]) (fun h => binSpec_no h (by omega))

def binZ (op a b : Int) : Int := if op = 1 then roundZ (roundZ a + roundZ b) else if op = 2 then roundZ (roundZ a - roundZ b) else roundZ (roundZ a * roundZ b)
theorem flat_int_at (w : World) (a : Int) : VAt w 1 (flat 1 (roundZ a)) (.mk 1 (roundZ a) 0 []) :=
  flat_at w (by unfold I64; omega) (by have := round_bd a; unfold I64; omega)
theorem valid_flat_int (a : Int) : validP 40 (.mk 1 (roundZ a) 0 []) = true := by
  have := round_bd a
  simp only [validP, okB, List.all_nil, Bool.and_true, Bool.and_eq_true, List.length_nil]
  refine ⟨⟨⟨by simp [manyIs], by simp [manyLo]⟩, by simp [manyHi]⟩, numB_iff.2 ?_⟩
  unfold numP
  omega
theorem within_flat_int (a : Int) : withinB 40 (.mk 1 (roundZ a) 0 []) = true := by
  have := round_bd a
  simp only [withinB, List.all_nil, Bool.and_true, List.length_nil]
  refine ownB_iff.2 ?_
  unfold ownP
  omega
theorem binOf_int {op : Int} (hop : op = 1 ∨ op = 2 ∨ op = 3) (a b : Int) : binOf (binSpec op 1 (roundZ a) 1 (roundZ b) (validP 40 (.mk 1 (roundZ a) 0 [])) (validP 40 (.mk 1 (roundZ b) 0 []))) = .returned (.tuple #[flat 1 (binZ op a b), .int .i64 0]) := by
  rw [valid_flat_int, valid_flat_int]
  rcases hop with rfl | rfl | rfl <;> simp [binSpec, binOf, binZ]

set_option maxHeartbeats 800000 in
theorem lawBin_any (op a b : Int) (w : World) (hop : op = 1 ∨ op = 2 ∨ op = 3) (ho : OpsAt w) :
    Calls Tryd.prog 27 #[.int .i64 op, .int .i64 a, .int .i64 b] w fun e w' => e = .returned (.int .i64 (binZ op a b)) ∧ Below w.heap.size w w' := by
  have HO := Lib.hid ho; clear ho
  have HP := Lib.hid hop; clear hop
  go_enter Tryd.func27, Tryd.ntmps27
  go_wp2_with fail
  refine (int_any _ _).mono ?_
  rintro e w1 ⟨rfl, hb1⟩
  have HB1 := Lib.hid hb1; clear hb1
  go_wp2_with fail
  refine (int_any _ _).mono ?_
  rintro e w2 ⟨rfl, hb2⟩
  have HB2 := Lib.hid (HB1.out.trans (hb2.mono HB1.out.size)); clear hb2 HB1
  go_wp2_with fail
  refine (bin_any _ _ _ _ _ _ _ _ _ _ _ _ _ _ (flat_int_at _ _) (flat_int_at _ _) (HO.out.below HB2.out)).mono ?_
  rintro e w3 ⟨he, hb3⟩
  rw [binOf_int HP.out] at he
  subst he
  have HB3 := Lib.hid (HB2.out.trans (hb3.mono HB2.out.size)); clear hb3 HB2
  unfold flat
  go_wp2_with fail
  go_ret
  exact ⟨rfl, HB3.out.alloc HB3.out.size _⟩
end Go.Proofs.YtnjgcjgfnjcgdaaDoor
