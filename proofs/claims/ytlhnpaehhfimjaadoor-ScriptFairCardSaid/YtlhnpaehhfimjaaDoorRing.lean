/-
  The plain law of Next: from a live place on it asks the live places round, each once, and comes back.
-/
import Derived.Test.YtlhnpaehhfimjaaDoorNext
namespace Go.Proofs.YtlhnpaehhfimjaaDoor
/-- Place p of the round that begins at a0. -/
def spot (n a0 p : Nat) : Nat := (a0 + p) % n
def liveAt (on : List Bool) (a0 p : Nat) : Bool := onB on (spot on.length a0 p)
/-- How many of the first p places are live. -/
def cntTo (on : List Bool) (a0 : Nat) : Nat → Nat
  | 0 => 0
  | p + 1 => cntTo on a0 p + if liveAt on a0 p then 1 else 0
theorem least (P : Nat → Bool) : ∀ (d a : Nat), (∃ p, a ≤ p ∧ p < a + d ∧ P p = true ∧ ∀ q, a ≤ q → q < p → P q = false) ∨ ∀ q, a ≤ q → q < a + d → P q = false
  | 0, a => .inr fun q h1 h2 => by omega
  | d + 1, a => by
    cases h : P a with
    | true => exact .inl ⟨a, Nat.le_refl _, by omega, h, fun q h1 h2 => by omega⟩
    | false =>
      rcases least P d (a + 1) with ⟨p, h1, h2, h3, h4⟩ | h4
      · refine .inl ⟨p, by omega, by omega, h3, fun q g1 g2 => ?_⟩
        by_cases hq : q = a
        · rw [hq]; exact h
        · exact h4 q (by omega) g2
      · refine .inr fun q g1 g2 => ?_
        by_cases hq : q = a
        · rw [hq]; exact h
        · exact h4 q (by omega) (by omega)
theorem cnt_still {on : List Bool} {a0 p : Nat} : ∀ d, (∀ q, p ≤ q → q < p + d → liveAt on a0 q = false) → cntTo on a0 (p + d) = cntTo on a0 p
  | 0, _ => rfl
  | d + 1, h => by
    rw [← Nat.add_assoc, cntTo, h (p + d) (by omega) (by omega), cnt_still d (fun q h1 h2 => h q h1 (by omega))]
    simp
theorem ring_find {f : Nat → Bool} {n s k : Nat} (hk : k < n) (h1 : ∀ j, j < k → f ((s + 1 + j) % n) = false) (h2 : f ((s + 1 + k) % n) = true) : (ring n s).find? f = some ((s + 1 + k) % n) := by
  rw [List.find?_eq_some_iff_getElem]
  refine ⟨h2, k, by rw [ring_len]; exact hk, ?_, fun j hj => ?_⟩
  · simp [ring]
  · have := h1 j hj
    simp [ring, this]
theorem next_spot {on : List Bool} {a0 p k : Nat} (hn : 0 < on.length) (hk : k < on.length) (h1 : ∀ q, p < q → q < p + 1 + k → liveAt on a0 q = false) (h2 : liveAt on a0 (p + 1 + k) = true) :
    nextB on (spot on.length a0 p : Nat) = (spot on.length a0 (p + 1 + k) : Nat) := by
  have hlt : spot on.length a0 p < on.length := Nat.mod_lt _ hn
  have hs : startOf on.length ((spot on.length a0 p : Nat) : Int) = spot on.length a0 p := by
    unfold startOf; rw [if_pos ⟨by omega, by omega⟩]; simp
  have e : ∀ j, (spot on.length a0 p + 1 + j) % on.length = spot on.length a0 (p + 1 + j) := fun j => by
    unfold spot
    rw [Nat.add_assoc, Nat.mod_add_mod]
    congr 1; omega
  unfold nextB
  rw [hs, ring_find hk (fun j hj => by rw [e]; exact h1 _ (by omega) (by omega)) (by rw [e]; exact h2), e]
  rfl
theorem spot_inj {n a0 p q : Nat} (hp : p < n) (hq : q < n) (h : spot n a0 p = spot n a0 q) : p = q := by
  unfold spot at h
  have h1 := Nat.div_add_mod (a0 + p) n
  have h2 := Nat.div_add_mod (a0 + q) n
  rw [h] at h1
  rcases Nat.lt_trichotomy ((a0 + p) / n) ((a0 + q) / n) with g | g | g
  · have : n * ((a0 + p) / n) + n ≤ n * ((a0 + q) / n) := by rw [← Nat.mul_succ]; exact Nat.mul_le_mul_left _ g
    omega
  · rw [g] at h1; omega
  · have : n * ((a0 + q) / n) + n ≤ n * ((a0 + p) / n) := by rw [← Nat.mul_succ]; exact Nat.mul_le_mul_left _ g
    omega
theorem spot_wrap {n a0 : Nat} (h : a0 < n) : spot n a0 n = a0 := by unfold spot; rw [Nat.add_mod_right, Nat.mod_eq_of_lt h]
theorem live_succ (on : List Bool) (a0 p : Nat) : liveAt on (a0 + 1) p = liveAt on a0 (p + 1) := by
  unfold liveAt spot; congr 2; omega
theorem cnt_turn (on : List Bool) (a0 : Nat) : ∀ p, cntTo on (a0 + 1) p + (if liveAt on a0 0 then 1 else 0) = cntTo on a0 (p + 1)
  | 0 => by simp [cntTo]
  | p + 1 => by
    have := cnt_turn on a0 p
    rw [cntTo, cntTo, live_succ]
    omega
theorem cnt_next (on : List Bool) (a0 : Nat) : cntTo on (a0 + 1) on.length = cntTo on a0 on.length := by
  have h := cnt_turn on a0 on.length
  have e : liveAt on a0 on.length = liveAt on a0 0 := by unfold liveAt spot; rw [Nat.add_mod_right, Nat.add_zero]
  rw [cntTo, e] at h
  omega
theorem cnt_any (on : List Bool) : ∀ a0, cntTo on a0 on.length = cntTo on 0 on.length
  | 0 => rfl
  | a0 + 1 => (cnt_next on a0).trans (cnt_any on a0)
theorem cnt_pos {on : List Bool} {a0 p : Nat} (h : liveAt on a0 p = true) : ∀ d, 1 ≤ cntTo on a0 (p + 1 + d)
  | 0 => by rw [Nat.add_zero, cntTo, h]; simp
  | d + 1 => by rw [← Nat.add_assoc, cntTo]; have := cnt_pos h d; omega
theorem live_zero {on : List Bool} {j : Nat} {v : Bool} (h : on[j]? = some v) : liveAt on 0 j = v := by
  have hj := (List.getElem?_eq_some_iff.1 h).1
  unfold liveAt spot
  rw [Nat.zero_add, Nat.mod_eq_of_lt hj]
  exact onB_of h
theorem cnt_none {on : List Bool} (h : cntTo on 0 on.length = 0) (last : Int) : nextB on last = -1 := by
  unfold nextB
  have : (ring on.length (startOf on.length last)).find? (onB on) = none := by
    rw [List.find?_eq_none]
    intro x hx hl
    unfold ring at hx
    obtain ⟨i, hi, rfl⟩ := List.mem_map.1 hx
    have hi' := List.mem_range.1 hi
    have hlt : (startOf on.length last + 1 + i) % on.length < on.length := Nat.mod_lt _ (by omega)
    have hlv : liveAt on 0 ((startOf on.length last + 1 + i) % on.length) = true := by
      unfold liveAt spot
      rw [Nat.zero_add, Nat.mod_eq_of_lt hlt]
      exact hl
    have := cnt_pos hlv (on.length - ((startOf on.length last + 1 + i) % on.length + 1))
    rw [Nat.add_sub_cancel' (by omega)] at this
    omega
  rw [this]; rfl
theorem next_live {on : List Bool} (h : cntTo on 0 on.length ≠ 0) (last : Int) : ∃ a0 : Nat, a0 < on.length ∧ nextB on last = (a0 : Int) ∧ liveAt on a0 0 = true := by
  have hn : 0 < on.length := by
    rcases Nat.eq_zero_or_pos on.length with g | g
    · rw [g] at h; exact absurd rfl h
    · exact g
  obtain ⟨s, hs⟩ : ∃ s, startOf on.length last = s := ⟨_, rfl⟩
  have e : ∀ j, (s + 1 + j) % on.length = spot on.length (s + 1) j := fun _ => rfl
  rcases least (liveAt on (s + 1)) on.length 0 with ⟨p, _, h2, h3, h4⟩ | h4
  · refine ⟨spot on.length (s + 1) p, Nat.mod_lt _ hn, ?_, ?_⟩
    · unfold nextB
      rw [hs, ring_find (k := p) (by omega) (fun j hj => by rw [e]; exact h4 j (Nat.zero_le _) hj) (by rw [e]; exact h3), e]
      rfl
    · unfold liveAt at h3 ⊢
      rw [show spot on.length (spot on.length (s + 1) p) 0 = spot on.length (s + 1) p by unfold spot; rw [Nat.add_zero, Nat.mod_mod]]
      exact h3
  · have := cnt_still (on := on) (a0 := s + 1) (p := 0) on.length h4
    rw [Nat.zero_add, cnt_any] at this
    exact absurd this h
/-- One step of the round: on to the next live place, or back to the first. -/
theorem round_step {on : List Bool} {a0 p : Nat} (ha : a0 < on.length) (h0 : liveAt on a0 0 = true) (hp : p < on.length) (hl : liveAt on a0 p = true) :
    (∃ p', p < p' ∧ p' < on.length ∧ liveAt on a0 p' = true ∧ (∀ q, p < q → q < p' → liveAt on a0 q = false) ∧ nextB on (spot on.length a0 p : Nat) = (spot on.length a0 p' : Nat) ∧ cntTo on a0 p' = cntTo on a0 p + 1) ∨
      (nextB on (spot on.length a0 p : Nat) = (a0 : Int) ∧ cntTo on a0 on.length = cntTo on a0 p + 1) := by
  have hn : 0 < on.length := by omega
  rcases least (liveAt on a0) (on.length - (p + 1)) (p + 1) with ⟨p', h1, h2, h3, h4⟩ | h4
  · refine .inl ⟨p', by omega, by omega, h3, fun q g1 g2 => h4 q g1 g2, ?_, ?_⟩
    · have := next_spot (a0 := a0) (p := p) (k := p' - (p + 1)) hn (by omega) (fun q g1 g2 => h4 q g1 (by omega)) (by rw [Nat.add_sub_cancel' h1]; exact h3)
      rw [Nat.add_sub_cancel' h1] at this
      exact this
    · have := cnt_still (on := on) (a0 := a0) (p := p + 1) (p' - (p + 1)) (fun q g1 g2 => h4 q g1 (by omega))
      rw [Nat.add_sub_cancel' h1] at this
      rw [this, cntTo, hl]; rfl
  · refine .inr ⟨?_, ?_⟩
    · have hw : liveAt on a0 on.length = true := by
        unfold liveAt at h0 ⊢
        rw [spot_wrap ha]
        rw [show spot on.length a0 0 = a0 by unfold spot; rw [Nat.add_zero, Nat.mod_eq_of_lt ha]] at h0
        exact h0
      have := next_spot (a0 := a0) (p := p) (k := on.length - (p + 1)) hn (by omega) (fun q g1 g2 => h4 q g1 (by omega)) (by rw [Nat.add_sub_cancel' hp]; exact hw)
      rw [Nat.add_sub_cancel' hp, spot_wrap ha] at this
      exact this
    · have := cnt_still (on := on) (a0 := a0) (p := p + 1) (on.length - (p + 1)) (fun q g1 g2 => h4 q g1 (by omega))
      rw [Nat.add_sub_cancel' hp] at this
      rw [this, cntTo, hl]; rfl
end Go.Proofs.YtlhnpaehhfimjaaDoor
