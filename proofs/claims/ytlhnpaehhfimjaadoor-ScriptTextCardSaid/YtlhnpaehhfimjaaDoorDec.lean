/-
  Decimal numbers, cutting and splitting at one byte: plain laws.
-/
import Derived.Test.YtlhnpaehhfimjaaDoorNum
import Derived.Lib.CountLaws
import Derived.Lib.Join
import Derived.Lib.Split
namespace Go.Proofs.YtlhnpaehhfimjaaDoor
def digB (c : UInt8) : Bool := decide (48 ≤ c.toNat) && decide (c.toNat ≤ 57)
/-- The value of digits, behind those that spell acc. -/
def valFrom (acc : Nat) (l : List UInt8) : Nat := l.foldl (fun n c => n * 10 + (c.toNat - 48)) acc
def okD (l : List UInt8) : Bool := !l.isEmpty && l.all digB && (l.head? != some 48 || l.length == 1)
theorem val_snoc (acc : Nat) (l : List UInt8) (c : UInt8) : valFrom acc (l ++ [c]) = valFrom acc l * 10 + (c.toNat - 48) := by simp [valFrom]
theorem head_app {l r : List UInt8} (h : l ≠ []) : (l ++ r).head? = l.head? := by
  cases l with
  | nil => exact absurd rfl h
  | cons => rfl
theorem dig_of {d : Nat} (h : d < 10) : (UInt8.ofNat (48 + d)).toNat = 48 + d := by simp; omega
theorem dig_back {c : UInt8} (h : digB c = true) : UInt8.ofNat (48 + (c.toNat - 48)) = c := by
  simp only [digB, Bool.and_eq_true, decide_eq_true_eq] at h
  apply UInt8.toNat_inj.1
  rw [dig_of (by omega)]; omega
theorem dec_all (u : Nat) : (Lib.decDigits u).all digB = true ∧ Lib.decDigits u ≠ [] ∧ valFrom 0 (Lib.decDigits u) = u ∧ (1 ≤ u → (Lib.decDigits u).head? ≠ some 48) := by
  induction u using Nat.strongRecOn with
  | ind u ih =>
    by_cases h : u < 10
    · rw [Lib.decDigits_one h]
      have := dig_of h
      refine ⟨by simp [digB]; omega, by simp, by simp [valFrom]; omega, fun h1 e => ?_⟩
      simp only [List.head?_cons, Option.some.injEq] at e
      rw [e] at this
      change 48 = 48 + u at this
      omega
    · obtain ⟨h1, h2, h3, h4⟩ := ih (u / 10) (by omega)
      have hd := dig_of (show u % 10 < 10 by omega)
      rw [Lib.decDigits, dif_neg h]
      refine ⟨by simp [h1, digB]; omega, by simp, ?_, fun _ => ?_⟩
      · rw [val_snoc, h3, hd]; omega
      · rw [head_app h2]
        exact h4 (by omega)
theorem val_dec : ∀ (l : List UInt8), l.reverse ≠ [] → l.reverse.all digB = true → (l.reverse.head? = some 48 → l.length = 1) → Lib.decDigits (valFrom 0 l.reverse) = l.reverse ∧ (l.reverse.head? ≠ some 48 → 1 ≤ valFrom 0 l.reverse)
  | [], h, _, _ => absurd rfl h
  | c :: r, _, hd, hz => by
    rw [List.reverse_cons] at hd hz ⊢
    rw [List.all_append, Bool.and_eq_true] at hd
    have hc : digB c = true := by simpa using hd.2
    have hc2 := hc
    simp only [digB, Bool.and_eq_true, decide_eq_true_eq] at hc2
    rw [val_snoc]
    by_cases hr : r = []
    · subst hr
      rw [show valFrom 0 ([] : List UInt8).reverse = 0 from rfl, Lib.decDigits_one (by omega), Nat.zero_mul, Nat.zero_add, dig_back hc]
      refine ⟨rfl, fun h => ?_⟩
      have : c.toNat ≠ 48 := fun e => h (by simp; exact UInt8.toNat_inj.1 e)
      omega
    · have hr' : r.reverse ≠ [] := by simpa using hr
      rw [head_app hr'] at hz ⊢
      have hz' : r.reverse.head? ≠ some 48 := fun e => by
        have := hz e
        simp at this
        exact hr this
      obtain ⟨h1, h2⟩ := val_dec r hr' hd.1 (fun e => absurd e hz')
      have h3 := h2 hz'
      refine ⟨?_, fun _ => by omega⟩
      rw [Lib.decDigits, dif_neg (by omega), show (valFrom 0 r.reverse * 10 + (c.toNat - 48)) / 10 = valFrom 0 r.reverse by omega, h1,
        show (valFrom 0 r.reverse * 10 + (c.toNat - 48)) % 10 = c.toNat - 48 by omega, dig_back hc]
theorem ok_val {l : List UInt8} (h : okD l = true) : Lib.decDigits (valFrom 0 l) = l := by
  simp only [okD, Bool.and_eq_true, Bool.or_eq_true, Bool.not_eq_true', List.isEmpty_eq_false_iff, bne_iff_ne, beq_iff_eq] at h
  have := val_dec l.reverse (by simpa using h.1.1) (by simpa using h.1.2) (by
    rw [List.reverse_reverse, List.length_reverse]
    exact fun e => h.2.resolve_left (fun c => c e))
  rw [List.reverse_reverse] at this
  exact this.1
theorem ok_dec (u : Nat) : okD (Lib.decDigits u) = true ∧ valFrom 0 (Lib.decDigits u) = u := by
  obtain ⟨h1, h2, h3, h4⟩ := dec_all u
  refine ⟨?_, h3⟩
  simp only [okD, Bool.and_eq_true, Bool.or_eq_true, Bool.not_eq_true', List.isEmpty_eq_false_iff, bne_iff_ne, beq_iff_eq]
  refine ⟨⟨h2, h1⟩, ?_⟩
  rcases Nat.eq_zero_or_pos u with rfl | h
  · exact .inr (by rw [Lib.decDigits_one (by decide)]; rfl)
  · exact .inl (h4 h)
theorem parse_digits : ∀ (l : List UInt8) (acc k : Nat), l.all digB = true → acc < 10 ^ k → k + l.length ≤ 18 → Lib.parseUint10 acc l = .ok (valFrom acc l) ∧ valFrom acc l < 10 ^ (k + l.length)
  | [], acc, k, _, h, _ => ⟨rfl, h⟩
  | c :: r, acc, k, hd, h, hk => by
    rw [List.all_cons, Bool.and_eq_true] at hd
    have hc := hd.1
    simp only [digB, Bool.and_eq_true, decide_eq_true_eq] at hc
    rw [List.length_cons] at hk ⊢
    have h10 : 10 ^ k ≤ 10 ^ 17 := Nat.pow_le_pow_right (by decide) (by omega)
    have e17 : (10 : Nat) ^ 17 = 100000000000000000 := by decide
    have hs : (10 : Nat) ^ (k + 1) = 10 ^ k * 10 := Nat.pow_succ ..
    have hlt : acc * 10 + (c.toNat - 48) < 10 ^ (k + 1) := by omega
    obtain ⟨h1, h2⟩ := parse_digits r (acc * 10 + (c.toNat - 48)) (k + 1) hd.2 hlt (by omega)
    rw [Lib.parseUint10, if_pos hc, if_neg (by omega), if_neg (by omega)]
    exact ⟨h1, by rw [show k + (r.length + 1) = k + 1 + r.length by omega]; exact h2⟩
theorem atoi_ok {l : List UInt8} (h : okD l = true) (hl : l.length ≤ 18) : Lib.atoiAll l = .ok (valFrom 0 l : Nat) := by
  simp only [okD, Bool.and_eq_true, Bool.not_eq_true', List.isEmpty_eq_false_iff] at h
  obtain ⟨⟨hne, hd⟩, _⟩ := h
  cases l with
  | nil => exact absurd rfl hne
  | cons c r =>
    have hc := hd
    rw [List.all_cons, Bool.and_eq_true] at hc
    have hc := hc.1
    simp only [digB, Bool.and_eq_true, decide_eq_true_eq] at hc
    have hp := parse_digits (c :: r) 0 0 hd (by decide) (by simpa using hl)
    have hb : (10 : Nat) ^ (0 + (c :: r).length) ≤ 10 ^ 18 := Nat.pow_le_pow_right (by decide) (by omega)
    have e18 : (10 : Nat) ^ 18 = 1000000000000000000 := by decide
    have hsg : ¬ (c.toNat = 43 ∨ c.toNat = 45) := by omega
    have hng : ¬ c.toNat = 45 := by omega
    unfold Lib.atoiAll
    simp only
    rw [if_neg hsg]
    unfold Lib.parseMag
    rw [if_neg (List.cons_ne_nil c r), hp.1]
    simp only
    rw [if_neg (by omega), if_neg (by omega), if_neg hng]
/-- numS by its digits. -/
theorem numS_val (l : List UInt8) (most : Int) : numS l most = if okD l = true ∧ l.length ≤ 7 ∧ (valFrom 0 l : Int) ≤ most then (valFrom 0 l : Int) else -1 := by
  by_cases h : okD l = true ∧ l.length ≤ 7
  · rw [numS_ok (atoi_ok h.1 (by omega))]
    have : Lib.itoa (valFrom 0 l : Nat) = l := by rw [Lib.itoa, if_neg (by omega), Int.toNat_natCast, ok_val h.1]
    rw [this]
    by_cases hm : (valFrom 0 l : Int) ≤ most
    · rw [if_pos ⟨h.2, rfl, by omega, hm⟩, if_pos ⟨h.1, h.2, hm⟩]
    · rw [if_neg (fun c => hm c.2.2.2), if_neg (fun c => hm c.2.2)]
  · rw [if_neg (fun c => h ⟨c.1, c.2.1⟩)]
    by_cases hb : ∃ v, Lib.atoiAll l = .ok v
    · obtain ⟨v, hv⟩ := hb
      rw [numS_ok hv, if_neg]
      rintro ⟨h1, h2, h3, _⟩
      rw [Lib.itoa, if_neg (by omega)] at h2
      exact h ⟨by rw [← h2]; exact (ok_dec _).1, h1⟩
    · exact numS_bad (fun v c => hb ⟨v, c⟩)
theorem numS_itoa {n most : Int} (h0 : 0 ≤ n) (h1 : n ≤ most) (h7 : n ≤ 9999999) : numS (Lib.itoa n) most = n := by
  obtain ⟨u, rfl⟩ : ∃ u : Nat, n = u := ⟨n.toNat, by omega⟩
  have h8 : ∀ (k u : Nat), u < 10 ^ (k + 1) → Lib.nDigits u ≤ k + 1 := by
    intro k
    induction k with
    | zero => intro u h; rw [Lib.nDigits_small (by simpa using h)]; exact Nat.le_refl _
    | succ k ih =>
      intro u h
      by_cases hs : u < 10
      · rw [Lib.nDigits_small hs]; omega
      · rw [Lib.nDigits_big hs]
        have hp : (10 : Nat) ^ (k + 1 + 1) = 10 ^ (k + 1) * 10 := Nat.pow_succ ..
        have := ih (u / 10) (by omega)
        omega
  have h7' : (Lib.decDigits u).length ≤ 7 := by
    rw [Lib.decDigits_length]
    have : (10 : Nat) ^ (6 + 1) = 10000000 := by decide
    exact h8 6 u (by omega)
  rw [Lib.itoa, if_neg (by omega), Int.toNat_natCast, numS_val, (ok_dec u).2, if_pos ⟨(ok_dec u).1, h7', h1⟩]
theorem numS_odd {l : List UInt8} {most : Int} (c : UInt8) (hc : c ∈ l) (hd : digB c = false) : numS l most = -1 := by
  rw [numS_val, if_neg]
  rintro ⟨h, _⟩
  simp only [okD, Bool.and_eq_true] at h
  have := List.all_eq_true.1 h.1.2 c hc
  rw [hd] at this
  cases this
theorem itoa_digs {n : Int} (h : 0 ≤ n) : ∀ c ∈ Lib.itoa n, digB c = true := by
  rw [Lib.itoa, if_neg (by omega)]
  exact List.all_eq_true.1 (dec_all _).1
theorem itoa_ne (n : Int) : Lib.itoa n ≠ [] := by
  unfold Lib.itoa
  split
  · simp
  · exact (dec_all _).2.1
theorem not_dig {l : List UInt8} {c : UInt8} (h : ∀ x ∈ l, digB x = true) (hc : digB c = false) : c ∉ l := fun hm => by rw [h c hm] at hc; cases hc
theorem index_mid : ∀ {a : List UInt8} (c : UInt8) (r : List UInt8), c ∉ a → Lib.index (a ++ c :: r) [c] = a.length
  | [], c, r, _ => by simp [Lib.index, List.isPrefixOf]
  | b :: a, c, r, h => by
    have hb : ¬ c = b := fun e => h (by simp [e])
    have ih := index_mid (a := a) c r (fun e => h (by simp [e]))
    rw [List.cons_append, Lib.index, ih]
    have : ([c] : List UInt8).isPrefixOf (b :: (a ++ c :: r)) = false := by simp [List.isPrefixOf, hb]
    rw [this]
    have h1 : (((a.length : Nat) : Int) == -1) = false := beq_eq_false_iff_ne.2 (by omega)
    rw [h1]
    simp
theorem index_miss : ∀ {a : List UInt8} (c : UInt8), c ∉ a → Lib.index a [c] = -1
  | [], c, _ => by simp [Lib.index]
  | b :: a, c, h => by
    have hb : ¬ c = b := fun e => h (by simp [e])
    rw [Lib.index, index_miss (a := a) c (fun e => h (by simp [e]))]
    simp [List.isPrefixOf, hb]
theorem cut_mid {a : List UInt8} (c : UInt8) (r : List UInt8) (h : c ∉ a) : Lib.cut (a ++ c :: r) [c] = (a, r, true) := by
  unfold Lib.cut
  rw [index_mid c r h, if_pos (by omega), Int.toNat_natCast]
  simp
theorem cut_miss {a : List UInt8} {c : UInt8} (h : c ∉ a) : Lib.cut a [c] = (a, [], false) := by
  unfold Lib.cut
  rw [index_miss c h, if_neg (by omega)]
theorem split_miss {a : List UInt8} {c : UInt8} (h : c ∉ a) : Lib.split a [c] = [a] := by
  unfold Lib.split
  rw [Lib.count_miss (index_miss c h)]
  rfl
theorem split_mid {a : List UInt8} (c : UInt8) (r : List UInt8) (h : c ∉ a) : Lib.split (a ++ c :: r) [c] = a :: Lib.split r [c] := by
  unfold Lib.split
  rw [Lib.count_hit (by simp) (index_mid c r h), Nat.add_comm 1, Lib.splitK, index_mid c r h]
  have h1 : (((a.length : Nat) : Int) == -1) = false := beq_eq_false_iff_ne.2 (by omega)
  rw [h1]
  simp
/-- Every list holds the byte, or not. -/
theorem byte_or (c : UInt8) (l : List UInt8) : c ∉ l ∨ ∃ a r, l = a ++ c :: r ∧ c ∉ a := by
  by_cases h : c ∈ l
  · obtain ⟨a, r, h1, h2⟩ := List.eq_append_cons_of_mem h
    exact .inr ⟨a, r, h1, h2⟩
  · exact .inl h
theorem join_two (x y : List UInt8) (r : List (List UInt8)) (c : UInt8) : Lib.join (x :: y :: r) [c] = x ++ c :: Lib.join (y :: r) [c] := by
  rw [Lib.join_cons, Lib.join_cons]
  simp [Lib.joinTail]
theorem split_join (c : UInt8) : ∀ (x : List UInt8) (r : List (List UInt8)), (∀ y ∈ x :: r, c ∉ y) → Lib.split (Lib.join (x :: r) [c]) [c] = x :: r
  | x, [], h => by rw [Lib.join_one, split_miss (h x (by simp))]
  | x, y :: r, h => by
    rw [join_two, split_mid c _ (h x (by simp)), split_join c y r (fun z hz => h z (by simp at hz ⊢; exact .inr hz))]
end Go.Proofs.YtlhnpaehhfimjaaDoor
