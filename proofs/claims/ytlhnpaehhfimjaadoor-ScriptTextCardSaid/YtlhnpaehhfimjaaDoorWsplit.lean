/-
  The words of a text, byte by byte.
-/
import Derived.Test.YtlhnpaehhfimjaaDoorParse
import Derived.Lib.FieldsP
namespace Go.Proofs.YtlhnpaehhfimjaaDoor
def wsU (c : UInt8) : Bool := wsB c.toNat
def wordsGo : List UInt8 → List UInt8 → List (List UInt8)
  | [], cur => if cur = [] then [] else [cur]
  | c :: cs, cur => if wsU c then (if cur = [] then wordsGo cs [] else cur :: wordsGo cs []) else wordsGo cs (cur ++ [c])
def wordsL (l : List UInt8) : List (List UInt8) := wordsGo l []
theorem words_pass : ∀ (l cur r : List UInt8), (∀ x ∈ l, wsU x = false) → wordsGo (l ++ r) cur = wordsGo r (cur ++ l)
  | [], cur, r, _ => by simp
  | c :: cs, cur, r, h => by
    rw [List.cons_append, wordsGo, h c (by simp), if_neg (by decide), words_pass cs _ r (fun x hx => h x (by simp [hx]))]
    simp
theorem decodeN_low (n b1 b2 b3 : Nat) {b0 : Nat} (h : b0 < 128) : Lib.decodeN n b0 b1 b2 b3 = (b0, 1) := by unfold Lib.decodeN; rw [if_pos h]
theorem decodeN_high (n b1 b2 b3 : Nat) {b0 : Nat} (h : 128 ≤ b0) : 128 ≤ (Lib.decodeN n b0 b1 b2 b3).1 ∧ ((Lib.decodeN n b0 b1 b2 b3).2 = 1 ∨ (Lib.decodeN n b0 b1 b2 b3).2 = 2 ∧ 128 ≤ b1 ∨
    (Lib.decodeN n b0 b1 b2 b3).2 = 3 ∧ 128 ≤ b1 ∧ 128 ≤ b2 ∨ (Lib.decodeN n b0 b1 b2 b3).2 = 4 ∧ 128 ≤ b1 ∧ 128 ≤ b2 ∧ 128 ≤ b3) := by
  have one : ∀ x : Nat × Nat, x = (65533, 1) → 128 ≤ x.1 ∧ (x.2 = 1 ∨ x.2 = 2 ∧ 128 ≤ b1 ∨ x.2 = 3 ∧ 128 ≤ b1 ∧ 128 ≤ b2 ∨ x.2 = 4 ∧ 128 ≤ b1 ∧ 128 ≤ b2 ∧ 128 ≤ b3) := fun x e => by subst e; exact ⟨by decide, .inl rfl⟩
  generalize hd : Lib.decodeN n b0 b1 b2 b3 = d
  unfold Lib.decodeN at hd
  rw [if_neg (by omega)] at hd
  split at hd
  · rename_i c
    split at hd
    · subst hd
      exact ⟨by simp only; omega, .inr (.inl ⟨rfl, by omega⟩)⟩
    · exact one d hd.symm
  · split at hd
    · rename_i c
      split at hd
      · rename_i c2
        subst hd
        exact ⟨by simp only; omega, .inr (.inr (.inl ⟨rfl, by omega, by omega⟩))⟩
      · exact one d hd.symm
    · split at hd
      · rename_i c
        split at hd
        · rename_i c2
          subst hd
          exact ⟨by simp only; omega, .inr (.inr (.inr ⟨rfl, by omega, by omega, by omega⟩))⟩
        · exact one d hd.symm
      · exact one d hd.symm
theorem ws_high {x : Nat} (h : 128 ≤ x) : wsB x = false := by
  unfold wsB
  simp only [Bool.or_eq_false_iff, beq_eq_false_iff_ne]
  omega
theorem get_list (s : ByteArray) (i : Nat) : s.get! i = s.data.toList.getD i 0 := by
  rw [List.getD_eq_getElem?_getD, Array.getElem?_toList]
  show s.data[i]! = _
  rw [getElem!_def]
  cases s.data[i]? <;> rfl
theorem decode_ws (s : ByteArray) {pos : Nat} (h : pos < s.size) :
    if wsB (Utf8.decode s pos).1 then (Utf8.decode s pos).2 = 1 ∧ ∃ c, s.data.toList[pos]? = some c ∧ wsU c = true
    else ∀ x ∈ (s.data.toList.drop pos).take (Utf8.decode s pos).2, wsU x = false := by
  have hlen : s.data.toList.length = s.size := Array.length_toList
  obtain ⟨c, hc⟩ := get_of_lt (of := s.data.toList) (j := pos) (by omega)
  have hg : ∀ i c, s.data.toList[i]? = some c → s.get! i = c := fun i c h => by rw [get_list, List.getD_eq_getElem?_getD, h]; rfl
  have h0 := hg pos c hc
  rw [Lib.decode_at, h0]
  by_cases hlow : c.toNat < 128
  · rw [decodeN_low _ _ _ _ hlow]
    simp only
    cases hw : wsB c.toNat with
    | true => exact ⟨trivial, c, hc, hw⟩
    | false =>
      intro x hx
      rw [drop_of_get hc, List.take_succ_cons, List.take_zero, List.mem_singleton] at hx
      rw [hx]; exact hw
  · obtain ⟨h1, h2⟩ := decodeN_high (s.size - pos) (s.get! (pos + 1)).toNat (s.get! (pos + 2)).toNat (s.get! (pos + 3)).toNat (show 128 ≤ c.toNat by omega)
    generalize Lib.decodeN (s.size - pos) c.toNat (s.get! (pos + 1)).toNat (s.get! (pos + 2)).toNat (s.get! (pos + 3)).toNat = d at h1 h2
    rw [ws_high h1, if_neg (by decide)]
    intro x hx
    obtain ⟨i, hi⟩ := List.getElem?_of_mem hx
    have hil : i < d.2 := by
      have := lt_of_get hi
      rw [List.length_take] at this
      omega
    rw [List.getElem?_take_of_lt hil, List.getElem?_drop] at hi
    have hx := hg _ _ hi
    have : 128 ≤ x.toNat := by
      rw [← hx]
      rcases (show i = 0 ∨ i = 1 ∨ i = 2 ∨ i = 3 by omega) with rfl | rfl | rfl | rfl
      · rw [Nat.add_zero, h0]; omega
      · omega
      · omega
      · omega
    exact ws_high this
theorem words_spans (s : ByteArray) : ∀ (f pos : Nat) (st : Option Nat) (acc : List (Nat × Nat)), s.size ≤ pos + f → pos ≤ s.size → (∀ a, st = some a → a < pos) →
    acc.map (fun p => Lib.pieceU s.data.toList p.1 p.2) ++ wordsGo (s.data.toList.drop pos) (Lib.openPiece s.data.toList st pos) = (Lib.closeSpans s (Lib.spansFromP wsB s f pos st acc)).map (fun p => Lib.pieceU s.data.toList p.1 p.2) := by
  have hlen : s.data.toList.length = s.size := Array.length_toList
  have fin : ∀ f st acc, (∀ a, st = some a → a < s.size) → acc.map (fun p => Lib.pieceU s.data.toList p.1 p.2) ++ wordsGo (s.data.toList.drop s.size) (Lib.openPiece s.data.toList st s.size) = (Lib.closeSpans s (Lib.spansFromP wsB s f s.size st acc)).map (fun p => Lib.pieceU s.data.toList p.1 p.2) := by
    intro f st acc hst
    rw [List.drop_eq_nil_of_le (by omega), wordsGo, Lib.spansFromP_end _ _ _ _ _ _ (Nat.lt_irrefl _)]
    cases st with
    | none => simp [Lib.closeSpans, Lib.openPiece]
    | some a =>
      have := Lib.pieceU_ne s.data.toList a s.size (hst a rfl) (by omega)
      simp [Lib.closeSpans, Lib.openPiece, this]
  intro f
  induction f with
  | zero =>
    intro pos st acc h hp hst
    obtain rfl : pos = s.size := by omega
    exact fin _ _ _ hst
  | succ f ih =>
    intro pos st acc h hp hst
    by_cases hlt : pos < s.size
    · have hw := Lib.width_pos s pos
      have hwn : pos + (Utf8.decode s pos).2 ≤ s.size := by
        have := Lib.decodeN_le_n' (s.size - pos) (s.get! pos).toNat (s.get! (pos + 1)).toNat (s.get! (pos + 2)).toNat (s.get! (pos + 3)).toNat (by omega)
        rw [← Lib.decode_at] at this
        omega
      have hd := decode_ws s hlt
      simp only [Lib.spansFromP, if_pos hlt]
      cases hsp : wsB (Utf8.decode s pos).1 with
      | true =>
        rw [hsp, if_pos rfl] at hd
        obtain ⟨h1, c, hc, hcw⟩ := hd
        rw [h1] at hwn ⊢
        rw [drop_of_get hc, wordsGo, hcw]
        simp only [if_true]
        cases st with
        | none =>
          have ih := ih (pos + 1) none acc (by omega) hwn (fun a h => by cases h)
          simpa [Lib.openPiece] using ih
        | some a =>
          have hpn := Lib.pieceU_ne s.data.toList a pos (hst a rfl) (by omega)
          have ih := ih (pos + 1) none (acc ++ [(a, pos)]) (by omega) hwn (fun a h => by cases h)
          simpa [Lib.openPiece, hpn] using ih
      | false =>
        rw [hsp, if_neg (by decide)] at hd
        simp only [Bool.false_eq_true, if_false]
        have hsplit : s.data.toList.drop pos = (s.data.toList.drop pos).take (Utf8.decode s pos).2 ++ s.data.toList.drop (pos + (Utf8.decode s pos).2) := by
          rw [← List.drop_drop, List.take_append_drop]
        rw [hsplit, words_pass _ _ _ hd]
        cases st with
        | none =>
          have ih := ih (pos + (Utf8.decode s pos).2) (some pos) acc (by omega) hwn (fun a h => by cases h; omega)
          have e : ([] : List UInt8) ++ (s.data.toList.drop pos).take (Utf8.decode s pos).2 = Lib.pieceU s.data.toList pos (pos + (Utf8.decode s pos).2) := by
            unfold Lib.pieceU
            rw [List.nil_append, Nat.add_sub_cancel_left]
          simp only [Lib.openPiece] at ih ⊢
          rw [e]
          exact ih
        | some a =>
          have ih := ih (pos + (Utf8.decode s pos).2) (some a) acc (by omega) hwn (fun b h => by cases h; have := hst a rfl; omega)
          simp only [Lib.openPiece] at ih ⊢
          rw [Lib.pieceU_grow _ _ _ _ (Nat.le_of_lt (hst a rfl))]
          exact ih
    · obtain rfl : pos = s.size := by omega
      exact fin _ _ _ hst
theorem words_eq (s : ByteArray) : wordsOf s = wordsL s.data.toList := by
  have h := words_spans s s.size 0 none [] (by omega) (Nat.zero_le _) (fun a h => by cases h)
  simp only [List.map_nil, List.nil_append, Lib.openPiece, List.drop_zero] at h
  unfold wordsOf wordsL Lib.goFieldsP Lib.spansOfP
  rw [h, List.map_map]
  congr 1
  funext p
  simp [Lib.pieceU]
end Go.Proofs.YtlhnpaehhfimjaaDoor
