/-
  The plain law of the round trip: the text of a valid script parses to the script.
-/
import Derived.Test.YtlhnpaehhfimjaaDoorDec
import Derived.Test.YtlhnpaehhfimjaaDoorWsplit
import Derived.Test.YtlhnpaehhfimjaaDoorText
namespace Go.Proofs.YtlhnpaehhfimjaaDoor
theorem right_one {n : Int} {p : Pick} (h : rightB n p = true) (hk : p.k = 1) : 0 ≤ p.a ∧ p.a < n ∧ p.b = 0 ∧ p.c = [] := by
  unfold rightB at h
  rw [if_pos hk] at h
  simp only [Bool.and_eq_true, decide_eq_true_eq, List.isEmpty_iff] at h
  exact ⟨h.1.1.1, h.1.1.2, h.1.2, h.2⟩
theorem right_two {n : Int} {p : Pick} (h : rightB n p = true) (hk : p.k = 2) : 0 ≤ p.a ∧ p.a < n ∧ 0 ≤ p.b ∧ p.b ≤ 1048576 ∧ p.c = [] := by
  unfold rightB at h
  rw [if_neg (by omega), if_pos hk] at h
  simp only [Bool.and_eq_true, decide_eq_true_eq, List.isEmpty_iff] at h
  exact ⟨h.1.1.1, h.1.1.2, h.1.2.1, h.1.2.2, h.2⟩
theorem right_three {n : Int} {p : Pick} (h : rightB n p = true) (hk : p.k = 3) : p.a = 0 ∧ p.b = 0 ∧ p.c.length ≤ 64 ∧ ∀ x ∈ p.c, 0 ≤ x ∧ x ≤ 32 := by
  unfold rightB at h
  rw [if_neg (by omega), if_neg (by omega), if_pos hk] at h
  simp only [Bool.and_eq_true, decide_eq_true_eq, withinB, List.all_eq_true] at h
  exact ⟨h.1.1.1, h.1.1.2, h.1.2, h.2⟩
theorem right_any4 {n m : Int} {p : Pick} (h : rightB n p = true) (hk : p.k = 3) : rightB m p = true := by
  obtain ⟨h1, h2, h3, h4⟩ := right_three h hk
  unfold rightB
  rw [if_neg (by omega), if_neg (by omega), if_pos hk]
  simp only [Bool.and_eq_true, decide_eq_true_eq, withinB, List.all_eq_true]
  exact ⟨⟨⟨h1, h2⟩, h3⟩, h4⟩
theorem join_mem (c x : UInt8) : ∀ (r : List (List UInt8)), x ∈ Lib.join r [c] → x = c ∨ ∃ y ∈ r, x ∈ y
  | [], h => by simp [Lib.join_nil] at h
  | [y], h => by rw [Lib.join_one] at h; exact .inr ⟨y, by simp, h⟩
  | y :: z :: r, h => by
    rw [join_two, List.mem_append, List.mem_cons] at h
    rcases h with h | h | h
    · exact .inr ⟨y, by simp, h⟩
    · exact .inl h
    · rcases join_mem c x (z :: r) h with h | ⟨u, hu, hx⟩
      · exact .inl h
      · exact .inr ⟨u, by simp at hu ⊢; exact .inr hu, hx⟩
theorem cuts_bytes {l : List Int} (h : ∀ x ∈ l, 0 ≤ x ∧ x ≤ 32) : ∀ c ∈ Lib.join (l.map Lib.itoa) [44], c = 44 ∨ digB c = true := fun c hc => by
  rcases join_mem 44 c _ hc with h1 | ⟨y, hy, hx⟩
  · exact .inl h1
  · obtain ⟨n, hn, rfl⟩ := List.mem_map.1 hy
    exact .inr (itoa_digs (h n hn).1 c hx)
theorem no_sign {l : List UInt8} {s : UInt8} (h : ∀ c ∈ l, c = 44 ∨ digB c = true) (h1 : s ≠ 44) (h2 : digB s = false) : s ∉ l := fun hm => by
  rcases h s hm with e | e
  · exact h1 e
  · rw [h2] at e; cases e
theorem cuts_join {l : List Int} (hne : l ≠ []) (h : ∀ x ∈ l, 0 ≤ x ∧ x ≤ 32) : cutsS (Lib.join (l.map Lib.itoa) [44]) = l := by
  cases l with
  | nil => exact absurd rfl hne
  | cons n r =>
    unfold cutsS
    rw [List.map_cons, split_join]
    · rw [← List.map_cons, List.map_map]
      refine (List.map_congr_left fun x hx => ?_).trans (List.map_id _)
      obtain ⟨h0, h1⟩ := h x hx
      exact numS_itoa h0 h1 (by omega)
    · intro y hy
      rw [← List.map_cons] at hy
      obtain ⟨x, hx, rfl⟩ := List.mem_map.1 hy
      exact not_dig (itoa_digs (h x hx).1) (by decide)
theorem join_ne {l : List Int} (hne : l ≠ []) : Lib.join (l.map Lib.itoa) [44] ≠ [] := by
  cases l with
  | nil => exact absurd rfl hne
  | cons n r =>
    rw [List.map_cons, Lib.join_cons]
    simp [itoa_ne]
/-- The word of one run reads back. -/
theorem word_text {p : Pick} {m : Nat} (h : rightB 4 p = true) (h1 : 1 ≤ m) (h9 : m ≤ 9999999) (hm : p.k ≠ 1 → m = 1) : wordS (textOf (p, m)) = some (p, (m : Int)) := by
  obtain ⟨k, a, b, c⟩ := p
  unfold wordS textOf
  rcases right_kinds h with hk | ⟨hk, _⟩ | hk
  · obtain ⟨ha, ha4, hb, hc⟩ := right_one h hk
    simp only at hk ha ha4 hb hc
    subst hk hb hc
    have hx : (120 : UInt8) ∉ Lib.itoa a := not_dig (itoa_digs ha) (by decide)
    simp only
    rw [if_neg (by decide), if_neg (by decide)]
    by_cases hm1 : 1 < m
    · rw [if_pos hm1]
      unfold stepS
      simp only
      rw [cut_mid 120 _ hx]
      simp only
      rw [numS_itoa ha (by omega) (by omega), numS_itoa (by omega) (by omega) (by omega)]
      simp only [if_true]
      rw [if_neg (by omega)]
    · rw [if_neg hm1]
      unfold stepS
      simp only
      rw [cut_miss hx]
      simp only
      rw [numS_itoa ha (by omega) (by omega)]
      simp only [Bool.false_eq_true, if_false]
      rw [if_neg (by omega)]
      have : (m : Int) = 1 := by omega
      rw [this]
  · obtain ⟨ha, ha4, hb, hb2, hc⟩ := right_two h hk
    have hm1 := hm (by omega)
    simp only at hk ha ha4 hb hb2 hc
    subst hk hc hm1
    have hda := itoa_digs ha
    have hdb := itoa_digs hb
    have hno : (120 : UInt8) ∉ Lib.itoa a ++ 126 :: Lib.itoa b := by
      rw [List.mem_append, List.mem_cons]
      rintro (h | h | h)
      · exact not_dig hda (by decide) h
      · exact absurd h (by decide)
      · exact not_dig hdb (by decide) h
    simp only [if_true]
    have hs : stepS (Lib.itoa a ++ 126 :: Lib.itoa b) = none := by
      unfold stepS
      simp only
      rw [cut_miss hno]
      simp only
      rw [numS_odd (l := Lib.itoa a ++ 126 :: Lib.itoa b) 126 (by simp) (by decide), if_pos (by omega)]
    rw [hs]
    unfold stallS
    simp only
    rw [cut_mid 126 _ (not_dig hda (by decide))]
    simp only
    rw [numS_itoa ha (by omega) (by omega), numS_itoa hb (by omega) (by omega), if_neg (by simp; omega)]
    rfl
  · obtain ⟨ha, hb, hl, hc⟩ := right_three h hk
    have hm1 := hm (by omega)
    simp only at hk ha hb hl hc
    subst hk ha hb hm1
    have hby := cuts_bytes hc
    have hx : (120 : UInt8) ∉ 33 :: Lib.join (c.map Lib.itoa) [44] := by
      rw [List.mem_cons]
      rintro (h | h)
      · exact absurd h (by decide)
      · exact no_sign hby (by decide) (by decide) h
    have hy : (126 : UInt8) ∉ 33 :: Lib.join (c.map Lib.itoa) [44] := by
      rw [List.mem_cons]
      rintro (h | h)
      · exact absurd h (by decide)
      · exact no_sign hby (by decide) (by decide) h
    simp only
    rw [if_neg (by decide), if_pos trivial]
    have hs : stepS (33 :: Lib.join (c.map Lib.itoa) [44]) = none := by
      unfold stepS
      simp only
      rw [cut_miss hx]
      simp only
      rw [numS_odd (l := 33 :: Lib.join (c.map Lib.itoa) [44]) 33 (by simp) (by decide), if_pos (by omega)]
    have ht : stallS (33 :: Lib.join (c.map Lib.itoa) [44]) = none := by
      unfold stallS
      simp only
      rw [cut_miss hy]
      simp
    rw [hs, ht]
    unfold crashS
    simp only
    have hcut : Lib.cut (33 :: Lib.join (c.map Lib.itoa) [44]) [33] = ([], Lib.join (c.map Lib.itoa) [44], true) := cut_mid (a := []) 33 _ (by simp)
    rw [hcut]
    simp only
    rw [if_neg (by simp)]
    by_cases hc0 : c = []
    · subst hc0
      rw [if_pos (show Lib.join (([] : List Int).map Lib.itoa) [44] = [] from rfl)]
      rfl
    · rw [if_neg (join_ne hc0), cuts_join hc0 hc, if_pos (right_any4 h rfl)]
      rfl
theorem word_clean {p : Pick} {m : Nat} (h : rightB 4 p = true) : textOf (p, m) ≠ [] ∧ ∀ c ∈ textOf (p, m), wsU c = false := by
  have hd : ∀ c : UInt8, digB c = true → wsU c = false := fun c hc => by
    simp only [digB, Bool.and_eq_true, decide_eq_true_eq] at hc
    unfold wsU wsB
    simp only [Bool.or_eq_false_iff, beq_eq_false_iff_ne]
    omega
  have hi : ∀ n : Int, 0 ≤ n → ∀ c ∈ Lib.itoa n, wsU c = false := fun n hn c hc => hd c (itoa_digs hn c hc)
  unfold textOf
  rcases right_kinds h with hk | ⟨hk, _⟩ | hk
  · obtain ⟨ha, _⟩ := right_one h hk
    rw [if_neg (by simp only; omega), if_neg (by simp only; omega)]
    split
    · refine ⟨by simp, fun c hc => ?_⟩
      rw [List.mem_append, List.mem_cons] at hc
      rcases hc with hc | hc | hc
      · exact hi _ ha c hc
      · rw [hc]; decide
      · exact hi _ (by omega) c hc
    · exact ⟨itoa_ne _, hi _ ha⟩
  · obtain ⟨ha, _, hb, _⟩ := right_two h hk
    rw [if_pos hk]
    refine ⟨by simp, fun c hc => ?_⟩
    rw [List.mem_append, List.mem_cons] at hc
    rcases hc with hc | hc | hc
    · exact hi _ ha c hc
    · rw [hc]; decide
    · exact hi _ hb c hc
  · obtain ⟨_, _, _, hc⟩ := right_three h hk
    rw [if_neg (by simp only; omega), if_pos hk]
    refine ⟨by simp, fun c hm => ?_⟩
    rw [List.mem_cons] at hm
    rcases hm with e | e
    · rw [e]; decide
    · rcases cuts_bytes hc c e with e | e
      · rw [e]; decide
      · exact hd c e
theorem words_join : ∀ (ws : List (List UInt8)), (∀ x ∈ ws, x ≠ [] ∧ ∀ c ∈ x, wsU c = false) → wordsL (Lib.join ws [32]) = ws
  | [], _ => rfl
  | [x], h => by
    have hx := h x (by simp)
    have := words_pass x [] [] hx.2
    rw [List.append_nil] at this
    rw [Lib.join_one, wordsL, this, wordsGo, List.nil_append, if_neg hx.1]
  | x :: y :: r, h => by
    have hx := h x (by simp)
    have ih := words_join (y :: r) (fun z hz => h z (by simp at hz ⊢; exact .inr hz))
    rw [wordsL] at ih
    rw [join_two, wordsL, words_pass x [] _ hx.2, wordsGo, if_pos (by decide), List.nil_append, if_neg hx.1, ih]
/-- The picks of the runs, one by one. -/
def flat (rs : List (Pick × Nat)) : List Pick := rs.flatMap fun x => List.replicate x.2 x.1
theorem run_take (p : Pick) (h : rightB 4 p = true) : ∀ (l : List Pick), rightAll l = true → l.take (runTail p l) = List.replicate (runTail p l) p
  | [], _ => rfl
  | q :: qs, hl => by
    rw [rightAll, List.all_cons, Bool.and_eq_true] at hl
    rw [runTail]
    split
    · rename_i hc
      rw [List.take_succ_cons, List.replicate_succ, run_take p h qs hl.2]
      have h1 := right_one h hc.1
      have h2 := right_one hl.1 hc.2.1
      obtain ⟨k, a, b, c⟩ := p
      obtain ⟨k', a', b', c'⟩ := q
      simp only at hc h1 h2
      obtain ⟨rfl, rfl, rfl⟩ := hc
      obtain ⟨_, _, rfl, rfl⟩ := h1
      obtain ⟨_, _, rfl, rfl⟩ := h2
      rfl
    · rfl
theorem tail_zero {p : Pick} (h : p.k ≠ 1) : ∀ l : List Pick, runTail p l = 0
  | [] => rfl
  | q :: qs => by rw [runTail, if_neg (fun c => h c.1)]
theorem runs_all : ∀ (n : Nat) (l : List Pick), l.length ≤ n → rightAll l = true → flat (runsL l) = l ∧ ∀ x ∈ runsL l, rightB 4 x.1 = true ∧ 1 ≤ x.2 ∧ x.2 ≤ l.length ∧ (x.1.k ≠ 1 → x.2 = 1)
  | n, [], _, _ => ⟨rfl, fun x hx => by cases hx⟩
  | 0, p :: ps, hn, _ => by simp at hn
  | n + 1, p :: ps, hn, hr => by
    have hr' := hr
    rw [rightAll, List.all_cons, Bool.and_eq_true] at hr'
    obtain ⟨hp, hps⟩ := hr'
    have hd : rightAll (ps.drop (runTail p ps)) = true := List.all_eq_true.2 fun x hx => List.all_eq_true.1 hps x (List.mem_of_mem_drop hx)
    obtain ⟨h1, h2⟩ := runs_all n (ps.drop (runTail p ps)) (by simp only [List.length_cons] at hn; simp; omega) hd
    have hle := runTail_le p ps
    rw [runsL_cons]
    refine ⟨?_, fun x hx => ?_⟩
    · have : flat ((p, runTail p ps + 1) :: runsL (ps.drop (runTail p ps))) = List.replicate (runTail p ps + 1) p ++ flat (runsL (ps.drop (runTail p ps))) := by simp [flat]
      rw [this, h1, List.replicate_succ, ← run_take p hp ps hps, List.cons_append, List.take_append_drop]
    · rw [List.mem_cons] at hx
      rcases hx with rfl | hx
      · exact ⟨hp, by omega, by simp; omega, fun hk => by simp only [tail_zero hk]⟩
      · obtain ⟨g1, g2, g3, g4⟩ := h2 x hx
        exact ⟨g1, g2, by simp at g3 ⊢; omega, g4⟩
theorem parse_runs : ∀ (rs : List (Pick × Nat)) (t : Int) (acc : List Pick), (∀ x ∈ rs, rightB 4 x.1 = true ∧ 1 ≤ x.2 ∧ x.2 ≤ 9999999 ∧ (x.1.k ≠ 1 → x.2 = 1)) → t + (flat rs).length ≤ 10000 →
    parseGo (rs.map textOf) t acc = some (t + (flat rs).length, acc ++ flat rs)
  | [], t, acc, _, _ => by simp [parseGo, flat]
  | (p, m) :: rs, t, acc, h, hl => by
    obtain ⟨h1, h2, h3, h4⟩ := h (p, m) (by simp)
    have hf : flat ((p, m) :: rs) = List.replicate m p ++ flat rs := by simp [flat]
    rw [hf, List.length_append, List.length_replicate] at hl
    rw [List.map_cons, parseGo, word_text h1 h2 h3 h4]
    simp only
    rw [if_pos (by omega), parse_runs rs _ _ (fun x hx => h x (by simp [hx])) (by omega), hf, List.length_append, List.length_replicate, List.append_assoc, Int.toNat_natCast]
    congr 2
    omega
/-- The text of a valid script parses to the script. -/
theorem parse_text {l : List Pick} (hr : rightAll l = true) (hl : l.length ≤ 10000) : parseW (wordsL (textL l)) = (l, 0) := by
  obtain ⟨h1, h2⟩ := runs_all l.length l (Nat.le_refl _) hr
  unfold parseW textL
  rw [words_join _ (fun x hx => by
    obtain ⟨y, hy, rfl⟩ := List.mem_map.1 hx
    exact word_clean (h2 y hy).1)]
  rw [parse_runs _ 0 [] (fun x hx => ⟨(h2 x hx).1, (h2 x hx).2.1, by have := (h2 x hx).2.2.1; omega, (h2 x hx).2.2.2⟩) (by rw [h1]; omega), h1]
  unfold parseEnd
  simp only [List.nil_append]
  rw [if_neg (by omega)]
theorem text_inj {l m : List Pick} (hl : rightAll l = true) (hm : rightAll m = true) (h1 : l.length ≤ 10000) (h2 : m.length ≤ 10000) : textL l = textL m ↔ l = m :=
  ⟨fun h => by
    have e := parse_text hl h1
    rw [h, parse_text hm h2] at e
    exact (congrArg Prod.fst e).symm, fun h => by rw [h]⟩
end Go.Proofs.YtlhnpaehhfimjaaDoor
