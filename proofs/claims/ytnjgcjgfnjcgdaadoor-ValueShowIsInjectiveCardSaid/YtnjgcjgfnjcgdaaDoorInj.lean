/-
  Two valid plain small values have the same text exactly if they are equal.
-/
import Derived.Test.YtnjgcjgfnjcgdaaDoorSmall
import Derived.Test.YtnjgcjgfnjcgdaaDoorShow
namespace Go.Proofs.YtnjgcjgfnjcgdaaDoor

/-! Numerals -/
def isD (b : UInt8) : Bool := decide (48 ≤ b.toNat) && decide (b.toNat ≤ 57)
def valD (l : List UInt8) : Nat := l.foldl (fun a b => a * 10 + (b.toNat - 48)) 0
theorem dig_toNat {i : Nat} (h : i < 10) : (UInt8.ofNat (48 + i)).toNat = 48 + i := by
  simp only [UInt8.toNat_ofNat']
  omega
theorem valD_dec (u : Nat) : valD (Lib.decDigits u) = u := by
  induction u using Nat.strongRecOn with
  | ind u ih =>
    rw [Lib.decDigits]
    split
    · rename_i h
      simp only [valD, List.foldl_cons, List.foldl_nil, dig_toNat h]
      omega
    · rename_i h
      have := ih (u / 10) (by omega)
      unfold valD at this ⊢
      rw [List.foldl_append, this]
      simp only [List.foldl_cons, List.foldl_nil, dig_toNat (Nat.mod_lt u (by omega : 10 > 0))]
      omega
theorem dec_all (u : Nat) : ∀ b ∈ Lib.decDigits u, isD b = true := by
  induction u using Nat.strongRecOn with
  | ind u ih =>
    rw [Lib.decDigits]
    split
    · rename_i h
      intro b hb
      simp only [List.mem_singleton] at hb
      subst hb
      simp only [isD, dig_toNat h, Bool.and_eq_true, decide_eq_true_eq]
      omega
    · rename_i h
      intro b hb
      rcases List.mem_append.1 hb with hb | hb
      · exact ih (u / 10) (by omega) b hb
      · simp only [List.mem_singleton] at hb
        subst hb
        simp only [isD, dig_toNat (Nat.mod_lt u (by omega : 10 > 0)), Bool.and_eq_true, decide_eq_true_eq]
        omega
theorem dec_ne (u : Nat) : ∃ c t, Lib.decDigits u = c :: t ∧ isD c = true := by
  have hn : Lib.decDigits u ≠ [] := by
    rw [Lib.decDigits]
    split
    · simp
    · simp
  cases h : Lib.decDigits u with
  | nil => exact absurd h hn
  | cons c t => exact ⟨c, t, rfl, dec_all u c (by rw [h]; simp)⟩
/-- The rest begins with no digit. -/
def Stop (r : List UInt8) : Prop := ∀ b t, r = b :: t → isD b = false
theorem take_dec : ∀ (l r : List UInt8), (∀ b ∈ l, isD b = true) → Stop r → (l ++ r).takeWhile isD = l ∧ (l ++ r).dropWhile isD = r
  | [], r, _, hr => by
    cases r with
    | nil => exact ⟨rfl, rfl⟩
    | cons b t =>
      have := hr b t rfl
      simp [this]
  | c :: l, r, hl, hr => by
    have hc := hl c (by simp)
    have ih := take_dec l r (fun b hb => hl b (by simp [hb])) hr
    simp only [List.cons_append, List.takeWhile, List.dropWhile, hc]
    exact ⟨by rw [ih.1], ih.2⟩
theorem dec_split {u u' : Nat} {r r' : List UInt8} (h : Lib.decDigits u ++ r = Lib.decDigits u' ++ r') (hr : Stop r) (hr' : Stop r') : u = u' ∧ r = r' := by
  have a := take_dec _ r (dec_all u) hr
  have b := take_dec _ r' (dec_all u') hr'
  rw [h] at a
  have e : Lib.decDigits u = Lib.decDigits u' := a.1.symm.trans b.1
  exact ⟨by rw [← valD_dec u, e, valD_dec], a.2.symm.trans b.2⟩
theorem itoa_head (n : Int) : ∃ c t, Lib.itoa n = c :: t ∧ (c = 45 ∨ isD c = true) := by
  unfold Lib.itoa
  split
  · exact ⟨45, _, rfl, .inl rfl⟩
  · obtain ⟨c, t, h, hc⟩ := dec_ne n.toNat
    exact ⟨c, t, h, .inr hc⟩
theorem num_split {n n' : Int} {r r' : List UInt8} (h : Lib.itoa n ++ r = Lib.itoa n' ++ r') (hr : Stop r) (hr' : Stop r') : n = n' ∧ r = r' := by
  unfold Lib.itoa at h
  split at h <;> split at h
  · simp only [List.cons_append, List.cons.injEq, true_and] at h
    have := dec_split h hr hr'
    exact ⟨by omega, this.2⟩
  · obtain ⟨c, t, hc, hd⟩ := dec_ne n'.toNat
    rw [hc] at h
    simp only [List.cons_append, List.cons.injEq] at h
    rw [← h.1] at hd
    exact absurd hd (by decide)
  · obtain ⟨c, t, hc, hd⟩ := dec_ne n.toNat
    rw [hc] at h
    simp only [List.cons_append, List.cons.injEq] at h
    rw [h.1] at hd
    exact absurd hd (by decide)
  · have := dec_split h hr hr'
    exact ⟨by omega, this.2⟩

/-! The values -/
def okT : Nat → V → Prop
  | 0, _ => False
  | d + 1, .mk k n m of => ownP k n m of.length ∧ k ≠ 9 ∧ ∀ x ∈ of, okT d x
theorem okT_of : ∀ (d e : Nat) (v : V), d ≤ e → withinB d v = true → plainB e v = true → okT d v := by
  intro d
  induction d with
  | zero => intro e v _ h; simp [withinB] at h
  | succ d ih =>
    intro e v he h hp
    obtain ⟨k, n, m, of⟩ := v
    cases e with
    | zero => omega
    | succ e =>
      simp only [withinB, plainB, Bool.and_eq_true, List.all_eq_true, Bool.not_eq_true', decide_eq_false_iff_not] at h hp
      exact ⟨ownB_iff.1 h.1, hp.1, fun x hx => ih e x (by omega) (h.2 x hx) (hp.2 x hx)⟩
theorem el_congr {f g : V → ByteArray} {of : List V} (h : ∀ x ∈ of, f x = g x) (i : Nat) : el f of i = el g of i := by
  unfold el
  cases hi : of[i]? with
  | none => rfl
  | some v => simp only [Option.map_some, Option.getD_some]; exact h v (List.mem_of_getElem? hi)
theorem okT_up : ∀ (d : Nat) (v : V), okT d v → okT (d + 1) v ∧ sh d v = sh (d + 1) v := by
  intro d
  induction d with
  | zero => intro v h; exact h.elim
  | succ d ih =>
    intro v h
    obtain ⟨k, n, m, of⟩ := v
    refine ⟨⟨h.1, h.2.1, fun x hx => (ih x (h.2.2 x hx)).1⟩, ?_⟩
    have hel := el_congr (f := sh d) (g := sh (d + 1)) (of := of) (fun x hx => (ih x (h.2.2 x hx)).2)
    rw [sh, sh, hel 0, hel 1]
theorem okT_more (d j : Nat) (v : V) (h : okT d v) : okT (d + j) v ∧ sh d v = sh (d + j) v := by
  induction j with
  | zero => exact ⟨h, rfl⟩
  | succ j ih =>
    have := okT_up _ v ih.1
    exact ⟨this.1, ih.2.trans this.2⟩
def tx (d : Nat) (v : V) : List UInt8 := (sh d v).data.toList
theorem tx_app (a b : ByteArray) : (a ++ b).data.toList = a.data.toList ++ b.data.toList := by
  rw [ByteArray.data_append, Array.toList_append]
theorem num_list (n : Int) : (num n).data.toList = Lib.itoa n := by unfold num; simp

inductive Form (d : Nat) : V → List UInt8 → Prop
  | int (n : Int) : Form d (.mk 1 n 0 []) (Lib.itoa n)
  | no : Form d (.mk 2 0 0 []) [102, 97, 108, 115, 101]
  | yes : Form d (.mk 2 1 0 []) [116, 114, 117, 101]
  | unit : Form d (.mk 3 0 0 []) [40, 41]
  | ref (n : Int) : Form d (.mk 4 n 0 []) (64 :: Lib.itoa n)
  | arr (n m : Int) : Form d (.mk 5 n m []) (64 :: (Lib.itoa n ++ 35 :: Lib.itoa m))
  | pair (a b : V) (ha : okT d a) (hb : okT d b) : Form d (.mk 6 0 0 [a, b]) (40 :: (tx d a ++ 44 :: 32 :: (tx d b ++ [41])))
  | none : Form d (.mk 7 0 0 []) [78, 111, 110, 101]
  | some8 (a : V) (ha : okT d a) (hk : a.kind = 8) : Form d (.mk 8 0 0 [a]) (83 :: 111 :: 109 :: 101 :: 32 :: 40 :: (tx d a ++ [41]))
  | some (a : V) (ha : okT d a) (hk : a.kind ≠ 8) : Form d (.mk 8 0 0 [a]) (83 :: 111 :: 109 :: 101 :: 32 :: tx d a)
theorem form {d : Nat} {v : V} (h : okT (d + 1) v) : Form d v (tx (d + 1) v) := by
  obtain ⟨k, n, m, of⟩ := v
  obtain ⟨ho, h9, hx⟩ := h
  unfold ownP at ho
  have nil (hl : of.length = 0) : of = [] := List.length_eq_zero_iff.1 hl
  rcases ho with ⟨rfl, hl, hn, hn2, hm, hm2, hnm⟩ | ⟨_, rfl, ⟨rfl, hl, _⟩ | ⟨rfl, hl, rfl | rfl⟩ | ⟨rfl | rfl, hl, rfl⟩ | ⟨rfl, hl, _⟩ | ⟨rfl, hl, rfl⟩ | ⟨rfl, hl, rfl⟩ | ⟨rfl, _⟩⟩
  · rw [nil hl]
    have : tx (d + 1) (.mk 5 n m []) = 64 :: (Lib.itoa n ++ 35 :: Lib.itoa m) := by simp [tx, sh, num_list]
    rw [this]; exact .arr n m
  · rw [nil hl]
    have : tx (d + 1) (.mk 1 n 0 []) = Lib.itoa n := by simp [tx, sh, num_list]
    rw [this]; exact .int n
  · rw [nil hl]; exact .no
  · rw [nil hl]; exact .yes
  · rw [nil hl]; exact .unit
  · rw [nil hl]; exact .none
  · rw [nil hl]
    have : tx (d + 1) (.mk 4 n 0 []) = 64 :: Lib.itoa n := by simp [tx, sh, num_list]
    rw [this]; exact .ref n
  · obtain ⟨a, b, rfl⟩ : ∃ a b, of = [a, b] := by
      match of, hl with
      | [a, b], _ => exact ⟨a, b, rfl⟩
    have : tx (d + 1) (.mk 6 0 0 [a, b]) = 40 :: (tx d a ++ 44 :: 32 :: (tx d b ++ [41])) := by simp [tx, sh, el]
    rw [this]; exact .pair a b (hx a (by simp)) (hx b (by simp))
  · obtain ⟨a, rfl⟩ : ∃ a, of = [a] := by
      match of, hl with
      | [a], _ => exact ⟨a, rfl⟩
    by_cases hk : a.kind = 8
    · have : tx (d + 1) (.mk 8 0 0 [a]) = 83 :: 111 :: 109 :: 101 :: 32 :: 40 :: (tx d a ++ [41]) := by simp [tx, sh, el, kd0, hk]
      rw [this]; exact .some8 a (hx a (by simp)) hk
    · have : tx (d + 1) (.mk 8 0 0 [a]) = 83 :: 111 :: 109 :: 101 :: 32 :: tx d a := by simp [tx, sh, el, kd0, hk]
      rw [this]; exact .some a (hx a (by simp)) hk
  · exact absurd rfl h9

def Fin (r : List UInt8) : Prop := r = [] ∨ (∃ t, r = 41 :: t) ∨ ∃ t, r = 44 :: t
theorem Fin.stop {r : List UInt8} (h : Fin r) : Stop r := by
  intro b t hb
  rcases h with rfl | ⟨t', rfl⟩ | ⟨t', rfl⟩
  · cases hb
  · simp only [List.cons.injEq] at hb; rw [← hb.1]; decide
  · simp only [List.cons.injEq] at hb; rw [← hb.1]; decide
theorem fin_close (t : List UInt8) : Fin (41 :: t) := .inr (.inl ⟨t, rfl⟩)
theorem fin_comma (t : List UInt8) : Fin (44 :: t) := .inr (.inr ⟨t, rfl⟩)
theorem stop_hash (t : List UInt8) : Stop (35 :: t) := fun b t' h => by
  simp only [List.cons.injEq] at h
  rw [← h.1]; decide
theorem fin_hash {r t : List UInt8} (h : Fin r) : r ≠ 35 :: t := by
  rintro rfl
  rcases h with h | ⟨t', h⟩ | ⟨t', h⟩
  · cases h
  · simp at h
  · simp at h
theorem int_ne (n : Int) (x : UInt8) (r t : List UInt8) (h1 : x ≠ 45) (h2 : isD x = false) : Lib.itoa n ++ r ≠ x :: t := by
  intro h
  obtain ⟨c, s, hc, hd⟩ := itoa_head n
  rw [hc] at h
  simp only [List.cons_append, List.cons.injEq] at h
  rw [h.1] at hd
  rcases hd with hd | hd
  · exact h1 hd
  · rw [h2] at hd; cases hd
theorem head_ne {d : Nat} {a : V} (h : okT d a) : ∃ c t, tx d a = c :: t ∧ c ≠ 41 := by
  cases d with
  | zero => exact h.elim
  | succ d =>
    have f := form h
    generalize tx (d + 1) a = l at f
    cases f
    case int n =>
      obtain ⟨c, t, hc, hd⟩ := itoa_head n
      refine ⟨c, t, hc, ?_⟩
      rintro rfl
      rcases hd with hd | hd
      · exact absurd hd (by decide)
      · exact absurd hd (by decide)
    all_goals exact ⟨_, _, rfl, by decide⟩
theorem inj_form {d : Nat} (ih : ∀ v u, okT d v → okT d u → ∀ r r', Fin r → Fin r' → tx d v ++ r = tx d u ++ r' → v = u ∧ r = r') {v u : V} {l l' : List UInt8}
    (f : Form d v l) (g : Form d u l') {r r' : List UInt8} (hr : Fin r) (hr' : Fin r') (h : l ++ r = l' ++ r') : v = u ∧ r = r' := by
  have some_case (a b : V) (ha : okT d a) (hb : okT d b) (hka : a.kind = 8) (hkb : b.kind ≠ 8) (s s' : List UInt8) (e : 40 :: (tx d a ++ 41 :: s) = tx d b ++ s') : False := by
    cases d with
    | zero => exact ha.elim
    | succ d =>
      have fb := form hb
      obtain ⟨ca, ta, hca, hna⟩ := head_ne ha
      generalize hl : tx (d + 1) b = l at fb e
      cases fb
      case int n => exact int_ne n 40 s' _ (by decide) (by decide) e.symm
      case unit =>
        rw [hca] at e
        simp only [List.cons_append, List.cons.injEq, true_and] at e
        exact hna e.1
      case pair A B hA hB =>
        simp only [List.cons_append, List.cons.injEq, true_and, List.append_assoc] at e
        rw [show tx d A = tx (d + 1) A from congrArg (fun x => x.data.toList) (okT_up d A hA).2] at e
        have := (ih a A ha (okT_up d A hA).1 _ _ (fin_close _) (fin_comma _) e).2
        simp at this
      case some8 => exact hkb rfl
      case some => exact hkb rfl
      all_goals simp at e
  cases f <;> cases g
  case int.int n n' =>
    obtain ⟨rfl, e⟩ := num_split h hr.stop hr'.stop
    exact ⟨rfl, e⟩
  case ref.ref n n' =>
    simp only [List.cons_append, List.cons.injEq, true_and] at h
    obtain ⟨rfl, e⟩ := num_split h hr.stop hr'.stop
    exact ⟨rfl, e⟩
  case ref.arr n n' m' =>
    simp only [List.cons_append, List.cons.injEq, true_and, List.append_assoc] at h
    exact absurd (num_split h hr.stop (stop_hash _)).2 (fin_hash hr)
  case arr.ref n m n' =>
    simp only [List.cons_append, List.cons.injEq, true_and, List.append_assoc] at h
    exact absurd (num_split h (stop_hash _) hr'.stop).2.symm (fin_hash hr')
  case arr.arr n m n' m' =>
    simp only [List.cons_append, List.cons.injEq, true_and, List.append_assoc] at h
    obtain ⟨rfl, e1⟩ := num_split h (stop_hash _) (stop_hash _)
    simp only [List.cons.injEq, true_and] at e1
    obtain ⟨rfl, e2⟩ := num_split e1 hr.stop hr'.stop
    exact ⟨rfl, e2⟩
  case unit.pair a b ha hb =>
    obtain ⟨c, t, hc, hn⟩ := head_ne ha
    rw [hc] at h
    simp only [List.cons_append, List.cons.injEq, true_and] at h
    exact absurd h.1.symm hn
  case pair.unit a b ha hb =>
    obtain ⟨c, t, hc, hn⟩ := head_ne ha
    rw [hc] at h
    simp only [List.cons_append, List.cons.injEq, true_and] at h
    exact absurd h.1 hn
  case pair.pair a b ha hb a' b' ha' hb' =>
    simp only [List.cons_append, List.cons.injEq, true_and, List.append_assoc, List.nil_append] at h
    obtain ⟨rfl, e1⟩ := ih a a' ha ha' _ _ (fin_comma _) (fin_comma _) h
    simp only [List.cons.injEq, true_and] at e1
    obtain ⟨rfl, e2⟩ := ih b b' hb hb' _ _ (fin_close _) (fin_close _) e1
    simp only [List.cons.injEq, true_and] at e2
    exact ⟨rfl, e2⟩
  case some8.some8 a ha _ a' ha' _ =>
    simp only [List.cons_append, List.cons.injEq, true_and, List.append_assoc, List.nil_append] at h
    obtain ⟨rfl, e⟩ := ih a a' ha ha' _ _ (fin_close _) (fin_close _) h
    simp only [List.cons.injEq, true_and] at e
    exact ⟨rfl, e⟩
  case some.some a ha _ a' ha' _ =>
    simp only [List.cons_append, List.cons.injEq, true_and] at h
    obtain ⟨rfl, e⟩ := ih a a' ha ha' _ _ hr hr' h
    exact ⟨rfl, e⟩
  case some8.some a ha hk a' ha' hk' =>
    simp only [List.cons_append, List.cons.injEq, true_and, List.append_assoc, List.nil_append] at h
    exact (some_case a a' ha ha' hk hk' _ _ h).elim
  case some.some8 a ha hk a' ha' hk' =>
    simp only [List.cons_append, List.cons.injEq, true_and, List.append_assoc, List.nil_append] at h
    exact (some_case a' a ha' ha hk' hk _ _ h.symm).elim
  all_goals first
    | exact absurd h (int_ne _ _ _ _ (by decide) (by decide))
    | exact absurd h.symm (int_ne _ _ _ _ (by decide) (by decide))
    | (simp at h; done)
    | (simp at h; exact ⟨rfl, h⟩)
theorem inj_tx : ∀ (d : Nat) (v u : V), okT d v → okT d u → ∀ r r', Fin r → Fin r' → tx d v ++ r = tx d u ++ r' → v = u ∧ r = r' := by
  intro d
  induction d with
  | zero => intro v u h; exact h.elim
  | succ d ih => intro v u hv hu r r' hr hr' h; exact inj_form ih (form hv) (form hu) hr hr' h

theorem sameL_eq {f : V → V → Bool} : ∀ {l r : List V}, (∀ x ∈ l, ∀ y, f x y = true ↔ x = y) → (sameL f l r = true ↔ l = r)
  | [], [], _ => by simp [sameL]
  | [], _ :: _, _ => by simp [sameL]
  | _ :: _, [], _ => by simp [sameL]
  | x :: xs, y :: ys, h => by
    have ih := sameL_eq (f := f) (l := xs) (r := ys) (fun a ha => h a (by simp [ha]))
    simp only [sameL, Bool.and_eq_true, ih, h x (by simp) y, List.cons.injEq]
theorem sameB_eq : ∀ (d : Nat) (v u : V), okT d v → (sameB d v u = true ↔ v = u) := by
  intro d
  induction d with
  | zero => intro v u h; exact h.elim
  | succ d ih =>
    intro v u h
    obtain ⟨k, n, m, of⟩ := v
    obtain ⟨k', n', m', of'⟩ := u
    have := sameL_eq (f := sameB d) (l := of) (r := of') (fun x hx y => ih x y (h.2.2 x hx))
    simp only [sameB, Bool.and_eq_true, decide_eq_true_eq, this, V.mk.injEq, and_assoc]

theorem show_inj (v u : V) (h3 : withinB 40 v = true) (h4 : withinB 40 u = true) (h5 : plainB 50 v = true) (h6 : plainB 50 u = true) :
    ((sh 50 v).toList == (sh 50 u).toList) = sameB 50 v u := by
  have ov := (okT_more 40 10 v (okT_of 40 50 v (by omega) h3 h5)).1
  have ou := (okT_more 40 10 u (okT_of 40 50 u (by omega) h4 h6)).1
  rw [Bool.eq_iff_iff, sameB_eq 50 v u ov, beq_iff_eq]
  constructor
  · intro h
    have e : tx 50 v = tx 50 u := by
      rw [ByteArray.toList_eq, ByteArray.toList_eq] at h
      exact h
    exact (inj_tx 50 v u ov ou [] [] (.inl rfl) (.inl rfl) (by rw [e])).1
  · rintro rfl; rfl
end Go.Proofs.YtnjgcjgfnjcgdaaDoor
