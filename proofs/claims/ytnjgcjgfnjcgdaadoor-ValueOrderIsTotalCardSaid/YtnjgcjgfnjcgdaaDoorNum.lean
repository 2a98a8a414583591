/-
  The decimal numbers: strconv.Itoa by the shelf's contract, hallmootref08.digits and Num.
-/
import Derived.Test.YtnjgcjgfnjcgdaaDoorShelf
import Derived.Test.YtnjgcjgfnjcgdaaDoorBin2
import Derived.Lib.ItoaLen
namespace Go.Proofs.YtnjgcjgfnjcgdaaDoor
open Go.RowKit
open Go.Sort (grow)
/-- The table of powers of ten, as the library lays it. -/
def TabAt (w : World) : Prop := Lib.TabIs Tryd.prog w "internal/strconv.uint64pow10" .u64 Lib.pow10Tab
theorem TabAt.below {w w' : World} (h : TabAt w) (hb : Below w.heap.size w w') : TabAt w' := by
  unfold TabAt Lib.TabIs World.var? at *
  cases hg : Tryd.prog.globalNamed "internal/strconv.uint64pow10" with
  | none => rw [hg] at h; cases h
  | some g =>
    rw [hg] at h
    simp only [Option.bind_some] at h ⊢
    have hlt : g < w.heap.size := by
      rcases Nat.lt_or_ge g w.heap.size with h' | h'
      · exact h'
      · rw [Array.getElem?_eq_none h'] at h; cases h
    rw [hb.block g hlt]
    exact h
def Good (w : World) : Prop := OpsAt w ∧ TabAt w
theorem Good.below {w w' : World} (h : Good w) (hb : Below w.heap.size w w') : Good w' := ⟨h.1.below hb, h.2.below hb⟩

theorem below_grow (w : World) (k : Nat) (os : Array Obj) : Below w.heap.size w (grow (w.drewN k) os) := by
  have h : (grow (w.drewN k) os).heap = w.heap ++ os := by
    show (w.drewN k).heap ++ os = _
    rw [World.heap_drewN]
  refine ⟨?_, ?_, ?_, ?_, fun i hi => ?_⟩
  · rfl
  · rfl
  · rfl
  · rw [h]; simp
  · rw [h]; exact Array.getElem?_append_left hi
def num (n : Int) : ByteArray := ⟨(Lib.itoa n).toArray⟩
theorem num_size {n : Int} (h : I64 n) : (num n).size ≤ 21 := by
  have := Lib.itoa_length_le n h.1 h.2
  show (Lib.itoa n).toArray.size ≤ 21
  simpa using this
theorem itoa_any (n : Int) (w : World) (hn : I64 n) (hg : Good w) :
    Calls Tryd.prog 38 #[.int .i64 n] w fun e w' => e = .returned (.string (num n)) ∧ Below w.heap.size w w' :=
  (Tryd.strconv_Itoa n hn.1 hn.2 w hg.2).mono fun e w' ⟨he, k, os, hw⟩ => ⟨he, by rw [hw]; exact below_grow w k os⟩

def dig (n : Nat) : ByteArray := ⟨(Lib.decDigits n).toArray⟩
theorem dig_small {n : Nat} (h : n < 10) : dig n = ⟨#[UInt8.ofNat (48 + n)]⟩ := by unfold dig; rw [Lib.decDigits_one h]
theorem dig_big {n : Nat} (h : ¬ n < 10) : dig n = dig (n / 10) ++ dig (n % 10) := by
  unfold dig
  rw [Lib.decDigits, dif_neg h, Lib.decDigits_one (show n % 10 < 10 by omega), ByteArray.mk_append_mk]
theorem nDigits_le : ∀ (k u : Nat), u < 10 ^ (k + 1) → Lib.nDigits u ≤ k + 1
  | 0, u, h => by rw [Lib.nDigits_small (by simpa using h)]; omega
  | k + 1, u, h => by
    by_cases hu : u < 10
    · rw [Lib.nDigits_small hu]; omega
    · rw [Lib.nDigits_big hu]
      have := nDigits_le k (u / 10) (by rw [Nat.pow_succ] at h; omega)
      omega
theorem dig_size {n : Nat} (h : n ≤ 18446744073709551615) : (dig n).size ≤ 20 := by
  show (Lib.decDigits n).toArray.size ≤ 20
  rw [List.size_toArray, Lib.decDigits_length]
  exact nDigits_le 19 n (by omega)

set_option maxHeartbeats 1600000 in
theorem digits_small (n : Nat) (w : World) (h : n < 10) : Calls Tryd.prog 50 #[.int .u64 n] w fun e w' => e = .returned (.string (dig n)) ∧ w = w' := by
  have hc : n = 0 ∨ n = 1 ∨ n = 2 ∨ n = 3 ∨ n = 4 ∨ n = 5 ∨ n = 6 ∨ n = 7 ∨ n = 8 ∨ n = 9 := by omega
  rw [dig_small h]
  rcases hc with rfl | rfl | rfl | rfl | rfl | rfl | rfl | rfl | rfl | rfl
  all_goals
    go_enter Tryd.func50, Tryd.ntmps50
    go_wp2_with fail
    go_ret
    exact ⟨rfl, rfl⟩

theorem ret_str {a b : ByteArray} (h : a = b) : Ending.returned (.string a) = .returned (.string b) := by rw [h]
theorem digits_any : ∀ (f n : Nat) (w : World), n < f → n ≤ 18446744073709551615 → Calls Tryd.prog 50 #[.int .u64 n] w fun e w' => e = .returned (.string (dig n)) ∧ w = w'
  | 0, n, w, h, _ => by omega
  | f + 1, n, w, h, hn => by
    by_cases h9 : n < 10
    · exact digits_small n w h9
    · have hb := Lib.hid (dig_big h9)
      have h10 : 9 < (n : Int) := by omega
      have e1 : ((n : Int) / 10) = ((n / 10 : Nat) : Int) := by omega
      have e2 : ((n : Int) % 10) = ((n % 10 : Nat) : Int) := by omega
      have E1 := Lib.hid e1
      have E2 := Lib.hid e2
      have s1 : (dig (n / 10)).size ≤ 20 := dig_size (by omega)
      have s2 : (dig (n % 10)).size ≤ 20 := dig_size (by omega)
      clear e1 e2
      have IH := Lib.hid (digits_any f)
      go_enter Tryd.func50, Tryd.ntmps50
      go_wp2_with fail
      rw [E1.out]
      refine (IH.out (n / 10) _ (by omega) (by omega)).mono ?_
      rintro e w1 ⟨rfl, rfl⟩
      go_wp2_with fail
      rw [E2.out]
      refine (IH.out (n % 10) _ (by omega) (by omega)).mono ?_
      rintro e w1 ⟨rfl, rfl⟩
      go_wp2_with fail
      go_ret
      exact ⟨ret_str hb.out.symm, rfl⟩

theorem num_pos {n : Nat} : num (n : Int) = dig n := by unfold num dig Lib.itoa; rw [if_neg (by omega)]; rfl
theorem num_neg {n : Nat} (h : 1 ≤ n) : num (-(n : Int)) = ByteArray.mk #[45] ++ dig n := by
  unfold num dig Lib.itoa
  rw [if_pos (by omega), Int.natAbs_neg, Int.natAbs_natCast, show (ByteArray.mk #[45]) = ByteArray.mk ([45] : List UInt8).toArray from rfl, ByteArray.mk_append_mk]
  rfl
theorem refNum_any (n : Int) (w : World) (hn : I64 n) : Calls Tryd.prog 47 #[.int .i64 n] w fun e w' => e = .returned (.string (num n)) ∧ w = w' := by
  by_cases h : n < 0
  · obtain ⟨u, hu⟩ : ∃ u : Nat, n = -(u : Int) := ⟨n.natAbs, by omega⟩
    have h1 : 1 ≤ u := by omega
    have h2 : u ≤ 9223372036854775808 := by have := hn.1; omega
    have hs : (dig u).size ≤ 20 := dig_size (by omega)
    subst hu
    have NN := Lib.hid (num_neg h1)
    have hneg : -(u : Int) < 0 := by omega
    have hw1 : IntKind.u64.wrap (-(u : Int)) = 18446744073709551616 - (u : Int) := by rw [IntKind.wrap_u64]; omega
    have hw2 : IntKind.u64.wrap (-(18446744073709551616 - (u : Int))) = (u : Int) := by rw [IntKind.wrap_u64]; omega
    clear hn h
    go_enter Tryd.func47, Tryd.ntmps47
    go_wp2_with fail
    refine (digits_any (u + 1) u _ (by omega) (by omega)).mono ?_
    rintro e w1 ⟨rfl, rfl⟩
    go_wp2_with fail
    go_ret
    exact ⟨ret_str NN.out.symm, rfl⟩
  · obtain ⟨u, hu⟩ : ∃ u : Nat, n = (u : Int) := ⟨n.natAbs, by omega⟩
    have h2 : u ≤ 9223372036854775807 := by have := hn.2; omega
    have hs : (dig u).size ≤ 20 := dig_size (by omega)
    subst hu
    have NN := Lib.hid (num_pos (n := u))
    clear hn h
    go_enter Tryd.func47, Tryd.ntmps47
    go_wp2_with fail
    refine (digits_any (u + 1) u _ (by omega) (by omega)).mono ?_
    rintro e w1 ⟨rfl, rfl⟩
    go_wp2_with fail
    go_ret
    exact ⟨ret_str NN.out.symm, rfl⟩
end Go.Proofs.YtnjgcjgfnjcgdaaDoor
