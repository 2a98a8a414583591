/-
  The plain facts of ValueStaysValid: the results of Bin, Index and Int are valid; pairs and options.
-/
import Derived.Test.YtnjgcjgfnjcgdaaDoorLspec
namespace Go.Proofs.YtnjgcjgfnjcgdaaDoor
open Go.RowKit

/-- On values at most l deep, one level more asks no more. -/
theorem valid_up : ∀ (l : Nat) (v : V), cnt 60 l v ≤ 60 → validP l v = validP (l + 1) v := by
  intro l
  induction l with
  | zero => intro v h; exact (not_small0 h).elim
  | succ l ih =>
    intro v h
    obtain ⟨k, n, m, of⟩ := v
    have hs := small_mk h
    rw [validP, validP]
    congr 1
    rw [Bool.eq_iff_iff, List.all_eq_true, List.all_eq_true]
    exact ⟨fun g x hx => by rw [← ih x (hs.2 x hx)]; exact g x hx, fun g x hx => by rw [ih x (hs.2 x hx)]; exact g x hx⟩
theorem cnt_up (f g : V → Int) : ∀ (l : List V) (n : Int), (∀ x ∈ l, f x = g x) → cntList f 60 l n = cntList g 60 l n
  | [], n, _ => rfl
  | x :: xs, n, h => by
    rw [cntList, cntList, h x (by simp), cnt_up f g xs _ (fun y hy => h y (by simp [hy]))]
/-- One level more counts the same where the count is small. -/
theorem small_up : ∀ (l : Nat) (v : V), cnt 60 l v ≤ 60 → cnt 60 (l + 1) v = cnt 60 l v := by
  intro l
  induction l with
  | zero => intro v h; exact (not_small0 h).elim
  | succ l ih =>
    intro v h
    obtain ⟨k, n, m, of⟩ := v
    have hs := small_mk h
    rw [cnt, cnt]
    exact cnt_up _ _ of 1 (fun x hx => ih x (hs.2 x hx))
theorem valid_39 {v : V} (h : cnt 60 39 v ≤ 60) : validP 39 v = withinB 40 v := by
  rw [valid_up 39 v h]
  exact valid_within 40 v 40 (by rw [small_up 39 v h]; exact h)
theorem pair_valid {v u : V} (h1 : cnt 60 39 v ≤ 60) (h2 : cnt 60 39 u ≤ 60) : validP 40 (.mk 6 0 0 [v, u]) = (withinB 40 v && withinB 40 u) := by
  rw [validP, ← valid_39 h1, ← valid_39 h2]
  have : okB 6 0 0 [v, u].length = true := by kernel_rfl
  rw [this]
  simp
theorem some_valid {v : V} (h1 : cnt 60 39 v ≤ 60) : validP 40 (.mk 8 0 0 [v]) = withinB 40 v := by
  rw [validP, ← valid_39 h1]
  have : okB 8 0 0 [v].length = true := by kernel_rfl
  rw [this]
  simp
theorem shallow_small {v : V} (h : smallB 39 v = true) : cnt 60 39 v ≤ 60 := by unfold smallB at h; exact of_decide_eq_true h
theorem flat_valid {k n : Int} (h : numP k n 0) (h2 : 1 ≤ k ∧ k ≤ 5) : validP 40 (.mk k n 0 []) = true := by
  rw [validP]
  simp only [okB, List.all_nil, Bool.and_true, Bool.and_eq_true, List.length_nil, numB_iff]
  have h6 : k ≠ 6 := by omega
  have h8 : k ≠ 8 := by omega
  have h9 : k ≠ 9 := by omega
  exact ⟨⟨⟨by unfold manyIs; simp; omega, by unfold manyLo; simp [h6, h8]⟩, by unfold manyHi; simp [h6, h8, h9]⟩, h⟩
theorem bin_valid {op k n k' n' kr r : Int} {v u : Bool} (h : binSpec op k n k' n' v u = some (kr, r)) : validP 40 (.mk kr r 0 []) = true := by
  have b2 : ∀ b : Bool, 0 ≤ b2i b ∧ b2i b ≤ 1 := fun b => by cases b <;> simp [b2i]
  have hr := round_bd
  unfold binSpec at h
  repeat' split at h
  all_goals first
    | (cases h; done)
    | (simp only [Option.some.injEq, Prod.mk.injEq] at h
       obtain ⟨rfl, rfl⟩ := h
       refine flat_valid ?_ (by omega)
       unfold numP
       first
        | (have := hr (n + n'); omega)
        | (have := hr (n - n'); omega)
        | (have := hr (n * n'); omega)
        | (have := b2 (decide (n < n')); omega)
        | (have := b2 (n == n'); omega)
        | (have := b2 (n == 1 && n' == 1); omega)
        | (have := b2 (n == 1 || n' == 1); omega))
/-- What Bin returns, and whether it is valid where there is no error. -/
theorem binOf_ok (op k n k' n' : Int) (v u : Bool) : ∃ kr r er : Int, I64 kr ∧ I64 r ∧ binOf (binSpec op k n k' n' v u) = .returned (.tuple #[.agg #[.int .i64 kr, .int .i64 r, .int .i64 0, .slice none 0 0], .int .i64 er]) ∧
    (((er == 0) = true ∧ validP 40 (.mk kr r 0 []) = true) ∨ (er == 0) = false) := by
  cases h : binSpec op k n k' n' v u with
  | none => exact ⟨0, 0, 1, by unfold I64; omega, by unfold I64; omega, rfl, .inr rfl⟩
  | some p => obtain ⟨kr, r⟩ := p; exact ⟨kr, r, 0, (binSpec_bd h).1, (binSpec_bd h).2, rfl, .inl ⟨rfl, bin_valid h⟩⟩
/-- What Index returns, and that it is valid where it is. -/
theorem idx_ok (k n m i : Int) (of : List V) : ∃ (kr r : Int) (b : Bool), I64 kr ∧ I64 r ∧ idxEnd (withinB 40 (.mk k n m of)) k n m i = .returned (.tuple #[.agg #[.int .i64 kr, .int .i64 r, .int .i64 0, .slice none 0 0], .bool b]) ∧
    (b = true → validP 40 (.mk kr r 0 []) = true) := by
  unfold idxEnd idxV
  cases h : idxB (withinB 40 (.mk k n m of)) k m i with
  | false => exact ⟨0, 0, false, by unfold I64; omega, by unfold I64; omega, rfl, fun h => by cases h⟩
  | true =>
    unfold idxB at h
    simp only [Bool.and_eq_true, decide_eq_true_eq] at h
    obtain ⟨⟨⟨rfl, hw⟩, h0⟩, h1⟩ := h
    have := within_arr hw
    refine ⟨4, n + i, true, by unfold I64; omega, by unfold I64; omega, rfl, fun _ => flat_valid ?_ (by omega)⟩
    unfold numP
    omega
end Go.Proofs.YtnjgcjgfnjcgdaaDoor
