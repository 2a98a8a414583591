/-
  The plain facts of ValueOrderIsTotal: three numbers, their nine comparisons, and the two tables of bools that the law fills.
-/
import Derived.Test.YtnjgcjgfnjcgdaaDoorLbin
namespace Go.Proofs.YtnjgcjgfnjcgdaaDoor
open Go.RowKit

def vv (a b c : Int) (i : Nat) : Int := if i = 0 then a else if i = 1 then b else c
def lessB (a b c : Int) (j : Nat) : Bool := decide (vv a b c (j / 3) < vv a b c (j % 3))
def eqB (a b c : Int) (j : Nat) : Bool := vv a b c (j / 3) == vv a b c (j % 3)
def upto (f : Nat → Bool) (j k : Nat) : Bool := if k < j then f k else false
def Arr (w : World) (b : Nat) (f : Nat → Bool) : Prop := b < w.heap.size ∧ ∀ k, k < 9 → w.cell? ⟨b, k, none⟩ = some (.bool (f k)) ∧ w.frozen? ⟨b, k, none⟩ = false
theorem Arr.below {w w' : World} {b n : Nat} {f : Nat → Bool} (h : Arr w b f) (hb : Below n w w') (hn : b < n) : Arr w' b f :=
  ⟨Nat.lt_of_lt_of_le h.1 hb.size, fun k hk => ⟨(hb.cell (p := ⟨b, k, none⟩) hn).trans (h.2 k hk).1, (hb.frozen (p := ⟨b, k, none⟩) hn).trans (h.2 k hk).2⟩⟩
theorem Arr.grow {w w' : World} {b : Nat} {f : Nat → Bool} (h : Arr w b f) (hb : Below w.heap.size w w') : Arr w' b f := h.below hb h.1
theorem Arr.at {w : World} {b k : Nat} {f : Nat → Bool} (h : Arr w b f) (hk : k < 9) : w.cell? ⟨b, k, none⟩ = some (.bool (f k)) := (h.2 k hk).1
theorem Arr.free {w : World} {b k : Nat} {f : Nat → Bool} (h : Arr w b f) (hk : k < 9) : w.frozen? ⟨b, k, none⟩ = false := (h.2 k hk).2
theorem Arr.get {w : World} {b k : Nat} {f : Nat → Bool} {v : Bool} (h : Arr w b (upto f 9)) (hk : k < 9) (hv : f k = v) : w.cell? ⟨b, k, none⟩ = some (.bool v) := by
  rw [(h.2 k hk).1]; unfold upto; rw [if_pos hk, hv]
theorem Arr.put {w : World} {b j : Nat} {f : Nat → Bool} {v : Bool} (h : Arr w b (upto f j)) (hj : j < 9) (hv : f j = v) : Arr (w.setCell ⟨b, j, none⟩ (.bool v)) b (upto f (j + 1)) := by
  refine ⟨by simpa using h.1, fun k hk => ⟨?_, by rw [World.frozen?_setCell]; exact (h.2 k hk).2⟩⟩
  by_cases e : k = j
  · subst e
    rw [World.cell?_setCell_same' _ _ _ (by rw [(h.2 k hk).1]; rfl)]
    unfold upto
    rw [if_pos (by omega), hv]
  · rw [World.cell?_setCell_other _ _ _ _ (by intro c; injection c with c1 c2 c3; omega)]
    rw [(h.2 k hk).1]
    unfold upto
    by_cases h2 : k < j
    · rw [if_pos h2, if_pos (by omega)]
    · rw [if_neg h2, if_neg (by omega)]
theorem Arr.other {w : World} {b b' j : Nat} {f : Nat → Bool} {v : Value} (h : Arr w b f) (hne : b ≠ b') : Arr (w.setCell ⟨b', j, none⟩ v) b f := by
  refine ⟨by simpa using h.1, fun k hk => ⟨?_, by rw [World.frozen?_setCell]; exact (h.2 k hk).2⟩⟩
  rw [World.cell?_setCell_other _ _ _ _ (by intro c; injection c with c1 c2 c3; omega)]
  exact (h.2 k hk).1
/-- The three values in one block. -/
def Trio (w : World) (b : Nat) (v : Nat → Int) : Prop := b < w.heap.size ∧ ∀ k, k < 3 → w.cell? ⟨b, k * 4, none⟩ = some (.int .i64 1) ∧ w.cell? ⟨b, k * 4 + 1, none⟩ = some (.int .i64 (v k)) ∧ w.cell? ⟨b, k * 4 + 2, none⟩ = some (.int .i64 0) ∧ w.cell? ⟨b, k * 4 + 3, none⟩ = some (.slice none 0 0)
theorem Trio.below {w w' : World} {b n : Nat} {v : Nat → Int} (h : Trio w b v) (hb : Below n w w') (hn : b < n) : Trio w' b v :=
  ⟨Nat.lt_of_lt_of_le h.1 hb.size, fun k hk => ⟨(hb.cell (p := ⟨b, k * 4, none⟩) hn).trans (h.2 k hk).1, (hb.cell (p := ⟨b, k * 4 + 1, none⟩) hn).trans (h.2 k hk).2.1,
    (hb.cell (p := ⟨b, k * 4 + 2, none⟩) hn).trans (h.2 k hk).2.2.1, (hb.cell (p := ⟨b, k * 4 + 3, none⟩) hn).trans (h.2 k hk).2.2.2⟩⟩
theorem Trio.new (w : World) (a b c : Int) (t : TypeId) : Trio (w.alloc (.cells #[.int .i64 1, .int .i64 a, .int .i64 0, .slice none 0 0, .int .i64 1, .int .i64 b, .int .i64 0, .slice none 0 0, .int .i64 1, .int .i64 c, .int .i64 0, .slice none 0 0] t)) w.heap.size (vv a b c) := by
  refine ⟨by simp, fun k hk => ?_⟩
  rw [World.cell?_alloc_new, World.cell?_alloc_new, World.cell?_alloc_new, World.cell?_alloc_new]
  match k, hk with
  | 0, _ => exact ⟨rfl, rfl, rfl, rfl⟩
  | 1, _ => exact ⟨rfl, rfl, rfl, rfl⟩
  | 2, _ => exact ⟨rfl, rfl, rfl, rfl⟩
theorem Arr.new (w : World) (t : TypeId) (f : Nat → Bool) : Arr (w.alloc (.cells #[.bool false, .bool false, .bool false, .bool false, .bool false, .bool false, .bool false, .bool false, .bool false] t)) w.heap.size (upto f 0) := by
  refine ⟨by simp, fun k hk => ⟨?_, World.frozen?_alloc_new _ _ _ _⟩⟩
  rw [World.cell?_alloc_new]
  unfold upto
  rw [if_neg (by omega)]
  match k, hk with
  | 0, _ => rfl
  | 1, _ => rfl
  | 2, _ => rfl
  | 3, _ => rfl
  | 4, _ => rfl
  | 5, _ => rfl
  | 6, _ => rfl
  | 7, _ => rfl
  | 8, _ => rfl
theorem vv_of (x y z : Int) (k : Nat) : ∃ n : Int, vv (roundZ x) (roundZ y) (roundZ z) k = roundZ n := by
  unfold vv
  split
  · exact ⟨x, rfl⟩
  · split
    · exact ⟨y, rfl⟩
    · exact ⟨z, rfl⟩
theorem b2i_is (b : Bool) : (b2i b == 1) = b := by cases b <;> rfl
theorem bin_less {a b r : Int} (x y : Int) (w : World) (ha : a = roundZ x) (hb : b = roundZ y) (hr : b2i (decide (a < b)) = r) (hg : Good w) :
    Calls Tryd.prog 24 #[.int .i64 4, .agg #[.int .i64 1, .int .i64 a, .int .i64 0, .slice none 0 0], .agg #[.int .i64 1, .int .i64 b, .int .i64 0, .slice none 0 0]] w fun e w' =>
    e = .returned (.tuple #[.agg #[.int .i64 2, .int .i64 r, .int .i64 0, .slice none 0 0], .int .i64 0]) ∧ Below w.heap.size w w' := by
  subst ha hb hr
  have i64 : ∀ n, I64 (roundZ n) := fun n => by have := round_bd n; unfold I64; omega
  have h := bin_any 4 1 1 _ _ 1 (roundZ x) 0 1 (roundZ y) 0 [] [] w (flat_at w (by unfold I64; omega) (i64 x)) (flat_at w (by unfold I64; omega) (i64 y)) hg.1
  rw [valid_flat_int, valid_flat_int, bin_out_is (kr := 2) (r := b2i (decide (roundZ x < roundZ y))) (by unfold binSpec; simp)] at h
  exact h
theorem bin_eq {a b r : Int} (x y : Int) (w : World) (ha : a = roundZ x) (hb : b = roundZ y) (hr : b2i (a == b) = r) (hg : Good w) :
    Calls Tryd.prog 24 #[.int .i64 5, .agg #[.int .i64 1, .int .i64 a, .int .i64 0, .slice none 0 0], .agg #[.int .i64 1, .int .i64 b, .int .i64 0, .slice none 0 0]] w fun e w' =>
    e = .returned (.tuple #[.agg #[.int .i64 2, .int .i64 r, .int .i64 0, .slice none 0 0], .int .i64 0]) ∧ Below w.heap.size w w' := by
  subst ha hb hr
  have i64 : ∀ n, I64 (roundZ n) := fun n => by have := round_bd n; unfold I64; omega
  have h := bin_any 5 1 1 _ _ 1 (roundZ x) 0 1 (roundZ y) 0 [] [] w (flat_at w (by unfold I64; omega) (i64 x)) (flat_at w (by unfold I64; omega) (i64 y)) hg.1
  rw [valid_flat_int, valid_flat_int, bin_out_is (kr := 2) (r := b2i (roundZ x == roundZ y)) (by unfold binSpec; simp)] at h
  exact h
theorem bin_and_b {r : Int} (p q : Bool) (w : World) (hr : b2i (p && q) = r) (hg : Good w) :
    Calls Tryd.prog 24 #[.int .i64 6, .agg #[.int .i64 2, .int .i64 (b2i p), .int .i64 0, .slice none 0 0], .agg #[.int .i64 2, .int .i64 (b2i q), .int .i64 0, .slice none 0 0]] w fun e w' =>
    e = .returned (.tuple #[.agg #[.int .i64 2, .int .i64 r, .int .i64 0, .slice none 0 0], .int .i64 0]) ∧ Below w.heap.size w w' := by
  subst hr
  have i64 : ∀ b, I64 (b2i b) := fun b => by cases b <;> simp [b2i, I64]
  have hv : ∀ b, validP 40 (.mk 2 (b2i b) 0 []) = true := fun b => by cases b <;> kernel_rfl
  have h := bin_any 6 1 1 _ _ 2 (b2i p) 0 2 (b2i q) 0 [] [] w (flat_at w (by unfold I64; omega) (i64 p)) (flat_at w (by unfold I64; omega) (i64 q)) hg.1
  rw [hv, hv, bin_out_is (kr := 2) (r := b2i (p && q)) (by cases p <;> cases q <;> decide)] at h
  exact h
theorem bin_or_b {r : Int} (p q : Bool) (w : World) (hr : b2i (p || q) = r) (hg : Good w) :
    Calls Tryd.prog 24 #[.int .i64 7, .agg #[.int .i64 2, .int .i64 (b2i p), .int .i64 0, .slice none 0 0], .agg #[.int .i64 2, .int .i64 (b2i q), .int .i64 0, .slice none 0 0]] w fun e w' =>
    e = .returned (.tuple #[.agg #[.int .i64 2, .int .i64 r, .int .i64 0, .slice none 0 0], .int .i64 0]) ∧ Below w.heap.size w w' := by
  subst hr
  have i64 : ∀ b, I64 (b2i b) := fun b => by cases b <;> simp [b2i, I64]
  have hv : ∀ b, validP 40 (.mk 2 (b2i b) 0 []) = true := fun b => by cases b <;> kernel_rfl
  have h := bin_any 7 1 1 _ _ 2 (b2i p) 0 2 (b2i q) 0 [] [] w (flat_at w (by unfold I64; omega) (i64 p)) (flat_at w (by unfold I64; omega) (i64 q)) hg.1
  rw [hv, hv, bin_out_is (kr := 2) (r := b2i (p || q)) (by cases p <;> cases q <;> decide)] at h
  exact h
/-- What the law's round asks of the nine comparisons. -/
theorem order_two (a b c : Int) {i k : Nat} (hi : i < 3) (hk : k < 3) :
    (lessB a b c (3 * i + k) = true ∧ lessB a b c (3 * k + i) = false ∧ eqB a b c (3 * i + k) = false ∧ (vv a b c i == vv a b c k) = false) ∨
    (lessB a b c (3 * i + k) = false ∧ lessB a b c (3 * k + i) = true ∧ eqB a b c (3 * i + k) = false ∧ (vv a b c i == vv a b c k) = false) ∨
    (lessB a b c (3 * i + k) = false ∧ lessB a b c (3 * k + i) = false ∧ eqB a b c (3 * i + k) = true ∧ (vv a b c i == vv a b c k) = true) := by
  unfold lessB eqB
  have e1 : (3 * i + k) / 3 = i := by omega
  have e2 : (3 * i + k) % 3 = k := by omega
  have e3 : (3 * k + i) / 3 = k := by omega
  have e4 : (3 * k + i) % 3 = i := by omega
  rw [e1, e2, e3, e4]
  simp only [decide_eq_true_eq, decide_eq_false_iff_not, beq_eq_false_iff_ne, beq_iff_eq]
  omega
theorem order_three (a b c : Int) {i k j : Nat} (hk : k < 3) (hj : j < 3) (h1 : lessB a b c (3 * i + k) = true) (h2 : lessB a b c (3 * k + j) = true) : lessB a b c (3 * i + j) = true := by
  unfold lessB at *
  have e1 : (3 * i + k) / 3 = i := by omega
  have e2 : (3 * i + k) % 3 = k := by omega
  have e3 : (3 * k + j) / 3 = k := by omega
  have e4 : (3 * k + j) % 3 = j := by omega
  have e5 : (3 * i + j) / 3 = i := by omega
  have e6 : (3 * i + j) % 3 = j := by omega
  rw [e1, e2] at h1
  rw [e3, e4] at h2
  rw [e5, e6]
  simp only [decide_eq_true_eq] at *
  omega
end Go.Proofs.YtnjgcjgfnjcgdaaDoor
