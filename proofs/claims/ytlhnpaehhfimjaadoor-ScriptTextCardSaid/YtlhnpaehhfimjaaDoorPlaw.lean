/-
  Plain laws of Plain: what it returns is its own plain form, a prefix gives a prefix, a stall drops what it must.
-/
import Derived.Test.YtlhnpaehhfimjaaDoorPlain
namespace Go.Proofs.YtlhnpaehhfimjaaDoor
/-- Valid steps, and at most one valid crash at the end. -/
def cleanB (threads : Int) : List Pick → Bool
  | [] => true
  | p :: ps => rightB threads p && ((p.k == 1) && cleanB threads ps || (p.k == 3) && ps.isEmpty)
theorem plain_clean (threads : Int) : ∀ (l : List Pick) (t : Int) (u : Int → Int), cleanB threads (plainGo threads l t u) = true
  | [], _, _ => rfl
  | p :: ps, t, u => by
    rw [plainGo]
    cases hr : rightB threads p with
    | false => exact plain_clean threads ps t u
    | true =>
      rw [if_pos rfl]
      rcases right_kinds hr with hk | ⟨hk, _⟩ | hk
      · rw [if_neg (by omega), if_pos hk]
        by_cases h : u p.a < t + 1
        · rw [if_pos h, cleanB, hr, hk, plain_clean threads ps]; rfl
        · rw [if_neg h]; exact plain_clean threads ps _ _
      · rw [if_pos hk]; exact plain_clean threads ps _ _
      · rw [if_neg (by omega), if_neg (by omega), cleanB, hr, hk]; rfl
theorem plain_own (threads : Int) : ∀ (l : List Pick) (t : Int) (u : Int → Int), cleanB threads l = true → (∀ s, u s < t + 1) → plainGo threads l t u = l
  | [], _, _, _, _ => rfl
  | p :: ps, t, u, hc, hu => by
    rw [cleanB, Bool.and_eq_true, Bool.or_eq_true, Bool.and_eq_true, Bool.and_eq_true, beq_iff_eq, beq_iff_eq] at hc
    rw [plainGo, hc.1, if_pos rfl]
    rcases hc.2 with ⟨hk, hc2⟩ | ⟨hk, hc2⟩
    · rw [if_neg (by omega), if_pos hk, if_pos (hu _), plain_own threads ps (t + 1) u hc2 (fun s => by have := hu s; omega)]
    · rw [if_neg (by omega), if_neg (by omega), List.isEmpty_iff.1 hc2]
theorem plain_twice (threads : Int) (l : List Pick) : plainL threads (plainL threads l) = plainL threads l :=
  plain_own threads _ 0 _ (plain_clean threads l 0 _) (fun _ => by decide)
theorem plain_len (threads : Int) : ∀ (l : List Pick) (t : Int) (u : Int → Int), (plainGo threads l t u).length ≤ l.length
  | [], _, _ => Nat.le_refl _
  | p :: ps, t, u => by
    rw [plainGo]
    have h0 := plain_len threads ps t u
    have h1 := fun v => plain_len threads ps (t + 1) v
    split
    · split
      · exact Nat.le_succ_of_le (h1 _)
      · split
        · split
          · simpa using h1 u
          · exact Nat.le_succ_of_le (h1 _)
        · simp
    · exact Nat.le_succ_of_le h0
/-- What holds of each pick of a plain form. -/
theorem clean_at {threads : Int} : ∀ {l : List Pick} {j : Nat} {p : Pick}, cleanB threads l = true → l[j]? = some p → rightB threads p = true ∧ (p.k = 1 ∨ p.k = 3 ∧ j + 1 = l.length)
  | [], _, _, _, h => by simp at h
  | p :: ps, 0, q, hc, h => by
    rw [cleanB, Bool.and_eq_true, Bool.or_eq_true, Bool.and_eq_true, Bool.and_eq_true, beq_iff_eq, beq_iff_eq] at hc
    simp only [List.getElem?_cons_zero, Option.some.injEq] at h
    subst h
    refine ⟨hc.1, hc.2.imp (·.1) fun h => ⟨h.1, ?_⟩⟩
    rw [List.isEmpty_iff.1 h.2]; rfl
  | p :: ps, j + 1, q, hc, h => by
    rw [cleanB, Bool.and_eq_true, Bool.or_eq_true, Bool.and_eq_true, Bool.and_eq_true, beq_iff_eq, beq_iff_eq] at hc
    simp only [List.getElem?_cons_succ] at h
    rcases hc.2 with ⟨_, h2⟩ | ⟨_, h2⟩
    · have := clean_at h2 h
      exact ⟨this.1, this.2.imp id fun h => ⟨h.1, by simp; omega⟩⟩
    · rw [List.isEmpty_iff.1 h2] at h
      simp at h
theorem plain_prefix (threads : Int) : ∀ (l : List Pick) (k : Nat) (t : Int) (u : Int → Int), plainGo threads (l.take k) t u <+: plainGo threads l t u
  | [], k, _, _ => by simp
  | p :: ps, 0, _, _ => List.nil_prefix
  | p :: ps, k + 1, t, u => by
    rw [List.take_succ_cons, plainGo, plainGo]
    have h := plain_prefix threads ps k
    split
    · split
      · exact h _ _
      · split
        · split
          · exact List.cons_prefix_cons.2 ⟨rfl, h _ _⟩
          · exact h _ _
        · exact List.prefix_refl _
    · exact h _ _
theorem prefix_take (threads : Int) (l : List Pick) (k : Nat) : (plainL threads (l.take k)).length ≤ (plainL threads l).length ∧ plainL threads (l.take k) = (plainL threads l).take (plainL threads (l.take k)).length :=
  have h := plain_prefix threads l k 0 fun _ => 0
  ⟨h.length_le, List.prefix_iff_eq_take.1 h⟩
theorem steps_clean (threads : Int) : ∀ l : List Pick, cleanB threads (l.filter fun p => rightB threads p && (p.k == 1)) = true
  | [] => rfl
  | p :: ps => by
    cases h : rightB threads p && (p.k == 1) with
    | false => rw [List.filter_cons_of_neg (by simp [h])]; exact steps_clean threads ps
    | true =>
      rw [List.filter_cons_of_pos (by simpa using h), cleanB, steps_clean threads ps]
      simp only [Bool.and_eq_true] at h
      rw [h.1, h.2]; rfl
theorem steps_own (threads : Int) (l : List Pick) : plainL threads (l.filter fun p => rightB threads p && (p.k == 1)) = l.filter fun p => rightB threads p && (p.k == 1) :=
  plain_own threads _ 0 _ (steps_clean threads l) (fun _ => by decide)
/-- A stall of the second of three threads, then steps. -/
def turnP (x : Nat) : Pick := ⟨1, ((x % 3 : Nat) : Int), 0, []⟩
def stallScript (b : Nat) (l : List Nat) : List Pick := ⟨2, 1, b, []⟩ :: l.map turnP
def wantGo (b : Nat) : List Nat → Nat → List Pick
  | [], _ => []
  | x :: xs, i => if ¬ ((x % 3 : Nat) : Int) = 1 ∨ b < i + 1 then turnP x :: wantGo b xs (i + 1) else wantGo b xs (i + 1)
theorem turn_right (x : Nat) : rightB 3 (turnP x) = true := by
  have : x % 3 < 3 := Nat.mod_lt _ (by decide)
  unfold rightB turnP
  simp
  omega
theorem want_go (b : Nat) (u : Int → Int) (h1 : u 1 = 1 + (b : Int)) (h0 : ∀ s, s ≠ 1 → u s = 0) : ∀ (l : List Nat) (i : Nat), plainGo 3 (l.map turnP) ((i : Int) + 1) u = wantGo b l i
  | [], _ => rfl
  | x :: xs, i => by
    have ih := want_go b u h1 h0 xs (i + 1)
    rw [show ((i + 1 : Nat) : Int) + 1 = (i : Int) + 1 + 1 by omega] at ih
    rw [List.map_cons, plainGo, turn_right, if_pos rfl, wantGo, ih]
    rw [if_neg (show ¬ (turnP x).k = 2 from (by decide : ¬ (1 : Int) = 2)), if_pos (show (turnP x).k = 1 from rfl)]
    have : u (turnP x).a < (i : Int) + 1 + 1 ↔ (¬ ((x % 3 : Nat) : Int) = 1 ∨ b < i + 1) := by
      show u ((x % 3 : Nat) : Int) < _ ↔ _
      by_cases h : ((x % 3 : Nat) : Int) = 1
      · rw [h, h1]; omega
      · rw [h0 _ h]; omega
    by_cases h : u (turnP x).a < (i : Int) + 1 + 1
    · rw [if_pos h, if_pos (this.1 h)]
    · rw [if_neg h, if_neg (fun c => h (this.2 c))]
theorem stall_want (b : Nat) (hb : b ≤ 255) (l : List Nat) : plainL 3 (stallScript b l) = wantGo b l 0 := by
  unfold plainL stallScript
  have hr : rightB 3 ⟨2, 1, b, []⟩ = true := by
    unfold rightB
    simp
    omega
  rw [plainGo, hr, if_pos rfl, if_pos rfl]
  exact want_go b _ (by simp; omega) (fun s hs => by simp [hs]) l 0
end Go.Proofs.YtlhnpaehhfimjaaDoor
