/-
  Small values: at most 60 parts: what the program asks of a value and what the reference asks agree; a small value is at most 40 deep.
-/
import Derived.Test.YtnjgcjgfnjcgdaaDoorWithin
import Derived.Test.YtnjgcjgfnjcgdaaDoorRight
import Derived.Test.YtnjgcjgfnjcgdaaDoorSame
namespace Go.Proofs.YtnjgcjgfnjcgdaaDoor
open Go.RowKit

theorem cntList_mono (f : V → Int) (h : ∀ x, 1 ≤ f x) : ∀ (l : List V) (n : Int), n ≤ cntList f 60 l n
  | [], n => by simp [cntList]
  | x :: xs, n => by
    unfold cntList
    split
    · have := cntList_mono f h xs (n + f x)
      have := h x
      omega
    · omega
theorem cnt_pos (l : Nat) (v : V) : 1 ≤ cnt 60 l v := by
  induction l generalizing v with
  | zero => simp [cnt]
  | succ l ih =>
    obtain ⟨k, n, m, of⟩ := v
    unfold cnt
    exact cntList_mono _ ih of 1
theorem cntList_small (f : V → Int) (h : ∀ x, 1 ≤ f x) : ∀ (l : List V) (n : Int), 0 ≤ n → cntList f 60 l n ≤ 60 → (∀ x ∈ l, f x ≤ 60) ∧ (l.length : Int) ≤ 60 - n
  | [], n, h0, h1 => by simp [cntList] at *; omega
  | x :: xs, n, h0, h1 => by
    unfold cntList at h1
    split at h1
    · have ih := cntList_small f h xs (n + f x) (by have := h x; omega) h1
      have h3 := h x
      have h4 := cntList_mono f h xs (n + f x)
      refine ⟨fun y hy => ?_, by simp; omega⟩
      rcases List.mem_cons.1 hy with rfl | hy
      · omega
      · exact ih.1 y hy
    · omega
/-- Small: the count of parts, with l levels at most, is at most 60. -/
theorem small_mk {l : Nat} {k n m : Int} {of : List V} (h : cnt 60 (l + 1) (.mk k n m of) ≤ 60) : of.length ≤ 59 ∧ ∀ x ∈ of, cnt 60 l x ≤ 60 := by
  unfold cnt at h
  have := cntList_small (cnt 60 l) (cnt_pos l) of 1 (by omega) h
  exact ⟨by omega, this.1⟩
theorem not_small0 {v : V} (h : cnt 60 0 v ≤ 60) : False := by simp [cnt] at h

/-- A small value's depth: the fuel of its reading may be 40. -/
theorem VAt.small {w : World} : ∀ {l d : Nat} {x : Value} {v : V}, VAt w d x v → cnt 60 l v ≤ 60 → VAt w l x v := by
  intro l
  induction l with
  | zero => intro d x v _ h; exact (not_small0 h).elim
  | succ l ih =>
    intro d x v hv h
    obtain ⟨k, n, m, of⟩ := v
    obtain ⟨d', a, cap, rfl, rfl, hk, hn, hm, hl, he⟩ := hv.op
    have hs := small_mk h
    refine VAt.mk' hk hn hm hl fun i u hi => ?_
    obtain ⟨b, off, c0, c1, c2, c3, ha, h0, h1, h2, h3, hu⟩ := he i u hi
    exact ⟨b, off, c0, c1, c2, c3, ha, h0, h1, h2, h3, ih hu (hs.2 u (List.mem_of_getElem? hi))⟩
theorem VAt.more {w : World} {d x v} (h : VAt w d x v) (j : Nat) : VAt w (d + j) x v := by
  induction j with
  | zero => exact h
  | succ j ih => exact ih.up

theorem ok_own {k n m : Int} {len : Nat} (h : len ≤ 60) : okB k n m len = ownB k n m len := by
  rw [Bool.eq_iff_iff, ownB_iff]
  unfold okB
  simp only [Bool.and_eq_true, numB_iff, decide_eq_true_eq]
  unfold manyIs manyLo manyHi numP ownP
  rw [decide_eq_true_eq]
  by_cases h6 : k = 6
  · subst h6; simp; omega
  · by_cases h8 : k = 8
    · subst h8; simp; omega
    · by_cases h9 : k = 9
      · subst h9; simp; omega
      · simp only [h6, h8, h9, if_false, false_and, false_or, or_false]; omega
/-- On small values the program's check and the reference's agree. -/
theorem valid_within : ∀ (l : Nat) (v : V) (e : Nat), cnt 60 e v ≤ 60 → validP l v = withinB l v := by
  intro l
  induction l with
  | zero => intro v e _; rfl
  | succ l ih =>
    intro v e h
    obtain ⟨k, n, m, of⟩ := v
    cases e with
    | zero => exact (not_small0 h).elim
    | succ e =>
      have hs := small_mk h
      unfold validP withinB
      rw [ok_own (by omega)]
      congr 1
      rw [Bool.eq_iff_iff, List.all_eq_true, List.all_eq_true]
      exact ⟨fun g x hx => by rw [← ih x e (hs.2 x hx)]; exact g x hx, fun g x hx => by rw [ih x e (hs.2 x hx)]; exact g x hx⟩
theorem small_cnt {v : V} (h : smallB 40 v = true) : cnt 60 40 v ≤ 60 := by unfold smallB at h; exact of_decide_eq_true h
end Go.Proofs.YtnjgcjgfnjcgdaaDoor
