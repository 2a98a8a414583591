/-
  The walks of script.Next and hallmootref27.Next: both return nextB.
-/
import Derived.Test.YtlhnpaehhfimjaaDoorBase
namespace Go.Proofs.YtlhnpaehhfimjaaDoor
open Go.RowKit
def BAt (w : World) (x : Value) (l : List Bool) : Prop :=
  ∃ a cap, x = .slice a l.length cap ∧ l.length ≤ cap ∧ cap ≤ big ∧ ∀ i v, l[i]? = some v → ∃ b off, a = some ⟨b, off, none⟩ ∧ w.cell? ⟨b, off + i, none⟩ = some (.bool v)
theorem BAt.below {w w' : World} {x : Value} {l : List Bool} (h : BAt w x l) (hb : Below w.heap.size w w') : BAt w' x l := by
  obtain ⟨a, cap, h1, h2, h3, h4⟩ := h
  exact ⟨a, cap, h1, h2, h3, fun i v hi => by obtain ⟨b, off, ha, hc⟩ := h4 i v hi; exact ⟨b, off, ha, cell_on hc hb⟩⟩
def onB (on : List Bool) (k : Nat) : Bool := on.getD k false
def toZ : Option Nat → Int
  | some k => k
  | none => -1
/-- The places that are asked, in their order, when the last one was s. -/
def ring (n s : Nat) : List Nat := (List.range n).map fun i => (s + 1 + i) % n
def startOf (n : Nat) (last : Int) : Nat := if 0 ≤ last ∧ last < n then last.toNat else n - 1
def nextB (on : List Bool) (last : Int) : Int := toZ ((ring on.length (startOf on.length last)).find? (onB on))
theorem ring_get {n s j : Nat} (h : j < n) : (ring n s)[j]? = some ((s + 1 + j) % n) := by
  unfold ring; simp [h]
theorem ring_len (n s : Nat) : (ring n s).length = n := by simp [ring]
theorem find_drop {on : List Bool} {l : List Nat} {j k : Nat} (h : l[j]? = some k) : (l.drop j).find? (onB on) = if onB on k then some k else (l.drop (j + 1)).find? (onB on) := by
  rw [drop_of_get h, List.find?_cons]
  cases onB on k <;> rfl
theorem onB_of {on : List Bool} {k : Nat} {v : Bool} (h : on[k]? = some v) : onB on k = v := by
  unfold onB; rw [List.getD_eq_getElem?_getD, h]; rfl

set_option maxHeartbeats 1600000 in
theorem next_any (x : Value) (on : List Bool) (last : Int) (w : World) (h : BAt w x on) (hlast : I64 last) :
    Calls Tryd.prog 17 #[x, .int .i64 last] w fun e w' => e = .returned (.int .i64 (nextB on last)) ∧ w = w' := by
  obtain ⟨a, cap, rfl, hlc, hcb, hat⟩ := h
  unfold big at hcb
  unfold I64 at hlast
  obtain ⟨n, hn⟩ : ∃ n, on.length = n := ⟨_, rfl⟩
  obtain ⟨s, hs⟩ : ∃ s, startOf n last = s := ⟨_, rfl⟩
  have hnb : nextB on last = toZ ((ring n s).find? (onB on)) := by rw [nextB, hn, hs]
  have HNB := Lib.hid hnb
  have HN := Lib.hid hn
  rw [hn] at hlc ⊢
  clear hnb hn
  by_cases hin : 0 ≤ last ∧ last < n
  · obtain ⟨h0, h1⟩ := hin
    have hsl : last = (s : Int) := by rw [← hs, startOf, if_pos ⟨h0, h1⟩]; omega
    subst hsl
    have hsn : s < n := by omega
    clear hs
    go_enter Tryd.func17, Tryd.ntmps17
    go_wp2_with fail
    go_loop [20] (fun i => ∃ j : Nat, j ≤ n ∧ i = .int .i64 j ∧ ((ring n s).drop j).find? (onB on) = (ring n s).find? (onB on)) (fun i => n - (intOf i).toNat)
    case atStart => exact ⟨0, Nat.zero_le _, rfl, by simp⟩
    case round =>
      obtain ⟨j, hj, rfl, hf⟩ := hrel
      have HF := Lib.hid hf
      clear hf
      by_cases hlt : j < n
      · obtain ⟨K, hK⟩ : ∃ K, (s + 1 + j) % n = K := ⟨_, rfl⟩
        have hKn : K < n := by rw [← hK]; exact Nat.mod_lt _ (by omega)
        have hKi : (K : Int) < n := by omega
        obtain ⟨v, hv⟩ := get_of_lt (of := on) (j := K) (by rw [HN.out]; exact hKn)
        obtain ⟨b, off, rfl, hc⟩ := hat K v hv
        have k1 : ((s : Int) + 1 + (j : Int)) % (n : Int) = (K : Int) := by rw [← hK]; simp
        have k2 : ((s : Int) + 1 + (j : Int)).tmod (n : Int) = (K : Int) := by rw [Int.tmod_eq_emod_of_nonneg (by omega)]; exact k1
        have HV := Lib.hid (And.intro (ring_get (s := s) hlt) (And.intro (onB_of hv) hK))
        clear hv hK
        cases v with
        | true =>
          go_wp2_with fail
          go_ret
          exact ⟨ret_int (by rw [HNB.out, ← HF.out, find_drop HV.out.1, HV.out.2.2, HV.out.2.1]; rfl), rfl⟩
        | false =>
          go_wp2_with fail
          go_round
          case rel => exact ⟨j + 1, by omega, by go_num, by rw [← HF.out, find_drop HV.out.1, HV.out.2.2, HV.out.2.1]; rfl⟩
          case measure => simp [intOf]; omega
      · have : j = n := by omega
        subst this
        go_wp2_with fail
        go_ret
        exact ⟨ret_int (by rw [HNB.out, ← HF.out, List.drop_eq_nil_of_le (by rw [ring_len]; omega)]; rfl), rfl⟩
  · by_cases hn0 : n = 0
    · subst hn0
      have hs0 : s = 0 := by rw [← hs, startOf, if_neg hin]
      subst hs0
      have h0 : last < 0 ∨ 0 ≤ last := by omega
      clear hs hin
      rcases h0 with h0 | h0
      all_goals
        go_enter Tryd.func17, Tryd.ntmps17
        go_wp2_with fail
        go_loop [20] (fun i => i = .int .i64 0) (fun _ => 0)
        case atStart => rfl
        case round =>
          obtain rfl := hrel
          go_wp2_with fail
          go_ret
          exact ⟨ret_int (by rw [HNB.out]; rfl), rfl⟩
    · have hs1 : s = n - 1 := by rw [← hs, startOf, if_neg hin]
      have hsn : s < n := by omega
      have hsi : (n : Int) - 1 = (s : Int) := by omega
      have h0 : last < 0 ∨ (0 ≤ last ∧ (n : Int) ≤ last) := by omega
      have HSI := Lib.hid hsi
      clear hs hin hs1 hn0
      rcases h0 with h0 | ⟨h0, h9⟩
      all_goals
        go_enter Tryd.func17, Tryd.ntmps17
        go_wp2_with fail
        clear hsi
        go_loop [20] (fun i => ∃ j : Nat, j ≤ n ∧ i = .int .i64 j ∧ ((ring n s).drop j).find? (onB on) = (ring n s).find? (onB on)) (fun i => n - (intOf i).toNat)
        case atStart => exact ⟨0, Nat.zero_le _, rfl, by simp⟩
        case round =>
          obtain ⟨j, hj, rfl, hf⟩ := hrel
          have HF := Lib.hid hf
          clear hf
          by_cases hlt : j < n
          · obtain ⟨K, hK⟩ : ∃ K, (s + 1 + j) % n = K := ⟨_, rfl⟩
            have hKn : K < n := by rw [← hK]; exact Nat.mod_lt _ (by omega)
            have hKi : (K : Int) < n := by omega
            obtain ⟨v, hv⟩ := get_of_lt (of := on) (j := K) (by rw [HN.out]; exact hKn)
            obtain ⟨b, off, rfl, hc⟩ := hat K v hv
            have k1 : ((s : Int) + 1 + (j : Int)) % (n : Int) = (K : Int) := by rw [← hK]; simp
            have k2 : ((s : Int) + 1 + (j : Int)).tmod (n : Int) = (K : Int) := by rw [Int.tmod_eq_emod_of_nonneg (by omega)]; exact k1
            have HV := Lib.hid (And.intro (ring_get (s := s) hlt) (And.intro (onB_of hv) hK))
            clear hv hK
            cases v with
            | true =>
              go_wp2_with fail
              go_ret
              exact ⟨ret_int (by rw [HNB.out, ← HF.out, find_drop HV.out.1, HV.out.2.2, HV.out.2.1]; rfl), rfl⟩
            | false =>
              go_wp2_with fail
              go_round
              case rel => exact ⟨j + 1, by omega, by go_num, by rw [← HF.out, find_drop HV.out.1, HV.out.2.2, HV.out.2.1]; rfl⟩
              case measure => simp [intOf]; omega
          · have : j = n := by omega
            subst this
            go_wp2_with fail
            go_ret
            exact ⟨ret_int (by rw [HNB.out, ← HF.out, List.drop_eq_nil_of_le (by rw [ring_len]; omega)]; rfl), rfl⟩

theorem ring_split {n s : Nat} (h : s < n) : ring n s = List.range' (s + 1) (n - (s + 1)) ++ List.range (s + 1) := by
  apply List.ext_getElem
  · simp [ring_len]; omega
  · intro i h1 h2
    rw [ring_len] at h1
    have e : (ring n s)[i]? = some ((s + 1 + i) % n) := ring_get h1
    have e' : (ring n s)[i]'(by rw [ring_len]; exact h1) = (s + 1 + i) % n := by
      rw [List.getElem?_eq_getElem (by rw [ring_len]; exact h1)] at e
      exact Option.some.inj e
    rw [e']
    by_cases hi : i < n - (s + 1)
    · rw [List.getElem_append_left (by simpa using hi)]
      rw [List.getElem_range', Nat.mod_eq_of_lt (by omega)]
      omega
    · rw [List.getElem_append_right (by simpa using hi)]
      rw [List.getElem_range]
      simp only [List.length_range']
      have : s + 1 + i = n + (i - (n - (s + 1))) := by omega
      rw [this, Nat.add_mod_left, Nat.mod_eq_of_lt (by omega)]
theorem ring_last (n : Nat) : ring n (n - 1) = List.range n := by
  cases n with
  | zero => rfl
  | succ n =>
    rw [Nat.add_sub_cancel, ring_split (Nat.lt_succ_self n)]
    simp
/-- Where all that was asked is off, asking some of it again finds nothing new. -/
theorem find_again {p : Nat → Bool} {n s : Nat} (h : s < n) (h0 : (List.range' (s + 1) (n - (s + 1))).find? p = none) : (List.range n).find? p = (List.range (s + 1)).find? p := by
  have e : List.range n = List.range (s + 1) ++ List.range' (s + 1) (n - (s + 1)) := by
    apply List.ext_getElem
    · simp; omega
    · intro i h1 h2
      rw [List.getElem_range]
      by_cases hi : i < s + 1
      · rw [List.getElem_append_left (by simpa using hi), List.getElem_range]
      · rw [List.getElem_append_right (by simpa using hi), List.getElem_range']
        simp only [List.length_range]
        omega
  rw [e, List.find?_append, h0]
  cases (List.range (s + 1)).find? p <;> rfl
theorem next_in {on : List Bool} {s n : Nat} (hn : on.length = n) (h : s < n) {k : Nat} (hf : (List.range' (s + 1) (n - (s + 1))).find? (onB on) = some k) : nextB on (s : Int) = k := by
  rw [nextB, hn, startOf, if_pos ⟨by omega, by omega⟩, show (s : Int).toNat = s by omega, ring_split h, List.find?_append, hf]
  rfl
theorem next_round {on : List Bool} {s n : Nat} (hn : on.length = n) (h : s < n) (hf : (List.range' (s + 1) (n - (s + 1))).find? (onB on) = none) : nextB on (s : Int) = toZ ((List.range n).find? (onB on)) := by
  rw [nextB, hn, startOf, if_pos ⟨by omega, by omega⟩, show (s : Int).toNat = s by omega, ring_split h, List.find?_append, hf, find_again h hf]
  rfl
theorem next_out {on : List Bool} {last : Int} {n : Nat} (hn : on.length = n) (h : ¬ (0 ≤ last ∧ last < n)) : nextB on last = toZ ((List.range n).find? (onB on)) := by
  rw [nextB, hn, startOf, if_neg h, ring_last]
theorem range_get {n j : Nat} (h : j < n) : (List.range n)[j]? = some j := by simp [h]

set_option maxHeartbeats 1600000 in
theorem refNext_any (x : Value) (on : List Bool) (last : Int) (w : World) (h : BAt w x on) (hlast : I64 last) :
    Calls Tryd.prog 18 #[x, .int .i64 last] w fun e w' => e = .returned (.int .i64 (nextB on last)) ∧ w = w' := by
  obtain ⟨a, cap, rfl, hlc, hcb, hat⟩ := h
  unfold big at hcb
  unfold I64 at hlast
  obtain ⟨n, hn⟩ : ∃ n, on.length = n := ⟨_, rfl⟩
  have HN := Lib.hid hn
  rw [hn] at hlc ⊢
  clear hn
  by_cases hin : 0 ≤ last ∧ last < n
  · obtain ⟨h0, h1⟩ := hin
    obtain ⟨s, rfl⟩ : ∃ s : Nat, last = (s : Int) := ⟨last.toNat, by omega⟩
    have hsn : s < n := by omega
    go_enter Tryd.func18, Tryd.ntmps18
    go_wp2_with fail
    go_loop [5] (fun i => ∃ j : Nat, j ≤ n - (s + 1) ∧ i = .int .i64 ((s + 1 + j : Nat) : Int) ∧ ((List.range' (s + 1) (n - (s + 1))).drop j).find? (onB on) = (List.range' (s + 1) (n - (s + 1))).find? (onB on)) (fun i => n - (intOf i).toNat)
    case atStart => exact ⟨0, Nat.zero_le _, by go_num, by simp⟩
    case round =>
      obtain ⟨j, hj, rfl, hf⟩ := hrel
      obtain ⟨K, hK⟩ : ∃ K, s + 1 + j = K := ⟨_, rfl⟩
      have HF := Lib.hid (And.intro hf hK)
      rw [hK]
      clear hf
      by_cases hlt : j < n - (s + 1)
      · have hKn : K < n := by omega
        obtain ⟨v, hv⟩ := get_of_lt (of := on) (j := K) (by rw [HN.out]; exact hKn)
        obtain ⟨b, off, rfl, hc⟩ := hat K v hv
        have hget : (List.range' (s + 1) (n - (s + 1)))[j]? = some K := by rw [List.getElem?_range' hlt]; simp; omega
        have HV := Lib.hid (And.intro hget (onB_of hv))
        clear hv hget hK
        cases v with
        | true =>
          go_wp2_with fail
          go_ret
          exact ⟨ret_int (by rw [next_in HN.out hsn (k := K)]; rw [← HF.out.1, find_drop HV.out.1, HV.out.2]; rfl), rfl⟩
        | false =>
          go_wp2_with fail
          go_round
          case rel => exact ⟨j + 1, by omega, by rw [← HF.out.2]; go_num, by rw [← HF.out.1, find_drop HV.out.1, HV.out.2]; rfl⟩
          case measure => simp [intOf]; omega
      · have hj2 : j = n - (s + 1) := by omega
        have hKn : K = n := by omega
        have hnone : (List.range' (s + 1) (n - (s + 1))).find? (onB on) = none := by rw [← HF.out.1, List.drop_eq_nil_of_le (by simp; omega)]; rfl
        have HNX := Lib.hid (next_round HN.out hsn hnone)
        subst hKn
        clear hnone hj2 hK
        go_wp2_with fail
        go_loop [6] (fun i => ∃ j : Nat, j ≤ K ∧ i = .int .i64 j ∧ ((List.range K).drop j).find? (onB on) = (List.range K).find? (onB on)) (fun i => K - (intOf i).toNat)
        case atStart => exact ⟨0, Nat.zero_le _, rfl, by simp⟩
        case round =>
          obtain ⟨i, hi, rfl, hf⟩ := hrel
          have HG := Lib.hid hf
          clear hf
          by_cases hlt2 : i < K
          · obtain ⟨v, hv⟩ := get_of_lt (of := on) (j := i) (by rw [HN.out]; exact hlt2)
            obtain ⟨b, off, rfl, hc⟩ := hat i v hv
            have HV := Lib.hid (And.intro (range_get hlt2) (onB_of hv))
            clear hv
            cases v with
            | true =>
              go_wp2_with fail
              go_ret
              exact ⟨ret_int (by rw [HNX.out, ← HG.out, find_drop HV.out.1, HV.out.2]; rfl), rfl⟩
            | false =>
              go_wp2_with fail
              go_round
              case rel => exact ⟨i + 1, by omega, by go_num, by rw [← HG.out, find_drop HV.out.1, HV.out.2]; rfl⟩
              case measure => simp [intOf]; omega
          · have : i = K := by omega
            subst this
            go_wp2_with fail
            go_ret
            exact ⟨ret_int (by rw [HNX.out, ← HG.out, List.drop_eq_nil_of_le (by simp)]; rfl), rfl⟩
  · have HNX := Lib.hid (next_out HN.out hin)
    have h0 : last < 0 ∨ (0 ≤ last ∧ (n : Int) ≤ last) := by omega
    clear hin
    have h0' : (0 ≤ last → decide (0 ≤ last) = true) := fun h => decide_eq_true h
    clear h0'
    rcases h0 with h0 | ⟨h0, h9⟩
    · have h0' : decide (0 ≤ last) = false := decide_eq_false (by omega)
      go_enter Tryd.func18, Tryd.ntmps18
      go_wp2_with fail
      go_loop [6] (fun i => ∃ j : Nat, j ≤ n ∧ i = .int .i64 j ∧ ((List.range n).drop j).find? (onB on) = (List.range n).find? (onB on)) (fun i => n - (intOf i).toNat)
      case atStart => exact ⟨0, Nat.zero_le _, rfl, by simp⟩
      case round =>
        obtain ⟨i, hi, rfl, hf⟩ := hrel
        have HG := Lib.hid hf
        clear hf
        by_cases hlt2 : i < n
        · obtain ⟨v, hv⟩ := get_of_lt (of := on) (j := i) (by rw [HN.out]; exact hlt2)
          obtain ⟨b, off, rfl, hc⟩ := hat i v hv
          have HV := Lib.hid (And.intro (range_get hlt2) (onB_of hv))
          clear hv
          cases v with
          | true =>
            go_wp2_with fail
            go_ret
            exact ⟨ret_int (by rw [HNX.out, ← HG.out, find_drop HV.out.1, HV.out.2]; rfl), rfl⟩
          | false =>
            go_wp2_with fail
            go_round
            case rel => exact ⟨i + 1, by omega, by go_num, by rw [← HG.out, find_drop HV.out.1, HV.out.2]; rfl⟩
            case measure => simp [intOf]; omega
        · have : i = n := by omega
          subst this
          go_wp2_with fail
          go_ret
          exact ⟨ret_int (by rw [HNX.out, ← HG.out, List.drop_eq_nil_of_le (by simp)]; rfl), rfl⟩
    · have h0' : decide (last < (n : Int)) = false := decide_eq_false (by omega)
      go_enter Tryd.func18, Tryd.ntmps18
      go_wp2_with fail
      go_loop [6] (fun i => ∃ j : Nat, j ≤ n ∧ i = .int .i64 j ∧ ((List.range n).drop j).find? (onB on) = (List.range n).find? (onB on)) (fun i => n - (intOf i).toNat)
      case atStart => exact ⟨0, Nat.zero_le _, rfl, by simp⟩
      case round =>
        obtain ⟨i, hi, rfl, hf⟩ := hrel
        have HG := Lib.hid hf
        clear hf
        by_cases hlt2 : i < n
        · obtain ⟨v, hv⟩ := get_of_lt (of := on) (j := i) (by rw [HN.out]; exact hlt2)
          obtain ⟨b, off, rfl, hc⟩ := hat i v hv
          have HV := Lib.hid (And.intro (range_get hlt2) (onB_of hv))
          clear hv
          cases v with
          | true =>
            go_wp2_with fail
            go_ret
            exact ⟨ret_int (by rw [HNX.out, ← HG.out, find_drop HV.out.1, HV.out.2]; rfl), rfl⟩
          | false =>
            go_wp2_with fail
            go_round
            case rel => exact ⟨i + 1, by omega, by go_num, by rw [← HG.out, find_drop HV.out.1, HV.out.2]; rfl⟩
            case measure => simp [intOf]; omega
        · have : i = n := by omega
          subst this
          go_wp2_with fail
          go_ret
          exact ⟨ret_int (by rw [HNX.out, ← HG.out, List.drop_eq_nil_of_le (by simp)]; rfl), rfl⟩
end Go.Proofs.YtlhnpaehhfimjaaDoor
