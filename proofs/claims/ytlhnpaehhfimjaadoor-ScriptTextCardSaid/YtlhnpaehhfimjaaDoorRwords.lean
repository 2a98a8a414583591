/-
  The walk of hallmootref27.words.
-/
import Derived.Test.YtlhnpaehhfimjaaDoorRdig
import Derived.Test.YtlhnpaehhfimjaaDoorRnum
import Derived.Test.YtlhnpaehhfimjaaDoorWsplit
import Derived.Test.YtlhnpaehhfimjaaDoorText
namespace Go.Proofs.YtlhnpaehhfimjaaDoor
open Go.RowKit Go.Maps
/-- A row of strings of the call's own. -/
def SRow (w : World) (base : Nat) (v : Value) (l : List (List UInt8)) : Prop := w.ownsRow base 9 1 v l.length (l.map fun x => Value.string ⟨x.toArray⟩)
theorem srow_snoc {w : World} {base : Nat} {v : Value} {l : List (List UInt8)} {S : ByteArray} (h : w.ownsRow base 9 1 v (l.length + 1) (l.map (fun x => Value.string ⟨x.toArray⟩) ++ [.string S])) : SRow w base v (l ++ [S.data.toList]) := by
  unfold SRow
  simpa using h
theorem str_empty (S : ByteArray) : S.toList.isEmpty = decide (S.data.toList = []) := by
  rw [ByteArray.toList_eq, Bool.eq_iff_iff, List.isEmpty_iff, decide_eq_true_eq]
set_option maxRecDepth 20000 in
set_option maxHeartbeats 3200000 in
theorem words_any (s : ByteArray) (w : World) (hs : s.size ≤ 1000000) :
    Calls Tryd.prog 30 #[.string s] w fun e w' => ∃ v, e = .returned v ∧ SRow w' w.heap.size v (wordsL s.data.toList) ∧ Below w.heap.size w w' := by
  have hn : s.data.toList.length = s.size := Array.length_toList
  have HN := Lib.hid hn
  clear hn
  obtain ⟨i0, hi, hz0, hz1, hz2⟩ := info_parts info9
  have HI := Lib.hid (And.intro hi (And.intro hz0 (And.intro hz1 hz2)))
  clear hi hz0 hz1 hz2
  go_enter Tryd.func30, Tryd.ntmps30
  go_wp2_with fail
  go_loopw [3, 4, 5] (fun v c i wr => ∃ (j : Nat) (S : ByteArray) (acc : List (List UInt8)), j ≤ s.size ∧ i = .int .i64 j ∧ c = .string S ∧ S.size ≤ j ∧ acc.length ≤ j ∧ SRow wr w.heap.size v acc ∧ wordsL s.data.toList = acc ++ wordsGo (s.data.toList.drop j) S.data.toList ∧ Below w.heap.size w wr) (fun _ _ i _ => s.size - (intOf i).toNat)
  case atStart => exact ⟨0, ⟨#[]⟩, [], Nat.zero_le _, rfl, rfl, Nat.le_refl _, Nat.le_refl _, World.ownsRow_nil _ _ _ _, rfl, Below.refl _ _⟩
  case round =>
    obtain ⟨j, S, acc, hj, rfl, rfl, hSj, haj, hrow, hspec, hb⟩ := hrel
    have HR := Lib.hid (And.intro hrow hspec)
    have HB := Lib.hid hb
    clear hrow hspec hb
    by_cases hlt : j < s.size
    · obtain ⟨x, hx⟩ := get_of_lt (of := s.data.toList) (j := j) (by rw [HN.out]; exact hlt)
      have hg := get_at hx hlt
      have HX := Lib.hid hx
      have hx256 : x.toNat < 256 := x.toNat_lt
      clear hx
      have hcv := one_byte x (x.toNat : Int) rfl
      have hse := str_empty S
      by_cases hw : wsU x = true
      · have HW := Lib.hid hw
        have hcs : (x.toNat : Int) = 32 ∨ ((x.toNat : Int) ≠ 32 ∧ (x.toNat : Int) = 9) ∨ ((x.toNat : Int) ≠ 32 ∧ (x.toNat : Int) ≠ 9 ∧ (x.toNat : Int) = 10) := by
          unfold wsU wsB at hw
          simp only [Bool.or_eq_true, beq_iff_eq] at hw
          omega
        have hfl : (((x.toNat : Int) == 32) = true ∧ True) ∨ (((x.toNat : Int) == 32) = false ∧ ((x.toNat : Int) == 9) = true) ∨ (((x.toNat : Int) == 32) = false ∧ ((x.toNat : Int) == 9) = false ∧ ((x.toNat : Int) == 10) = true) := by
          simpa only [beq_iff_eq, beq_eq_false_iff_ne, and_true] using hcs
        clear hw hcs hcv
        by_cases hS : S.data.toList = []
        · have es : S.toList.isEmpty = true := by rw [hse]; exact decide_eq_true hS
          have HSE := Lib.hid hS
          clear hse hS
          rcases hfl with ⟨e1, _⟩ | ⟨e1, e2⟩ | ⟨e1, e2, e3⟩
          all_goals
            go_wp2_with fail
            go_roundw
            case rel =>
              refine ⟨j + 1, ⟨#[]⟩, acc, by omega, by go_num, rfl, Nat.zero_le _, by omega, HR.out.1, ?_, HB.out⟩
              rw [HR.out.2, drop_of_get HX.out, wordsGo, if_pos HW.out, if_pos HSE.out]
            case measure => simp [intOf]; omega
        · have es : S.toList.isEmpty = false := by rw [hse]; exact decide_eq_false hS
          have HSE := Lib.hid hS
          clear hse hS
          rcases hfl with ⟨e1, _⟩ | ⟨e1, e2⟩ | ⟨e1, e2, e3⟩
          all_goals
            go_wp2_with (first
            | (at_builtin; refine wpList_append_own _ rfl _ _ 47 rfl w.heap.size 9 i0 (.string ByteArray.empty) 1 16 Tryd.underlying47 HI.out.1 HI.out.2.1 HI.out.2.2.1 HI.out.2.2.2 rfl (by decide) _ _ _ rfl (HR.out.1.alloc _) ⟨wr.heap.size, 0, none⟩ 1 1 [.string S] rfl rfl (one_new rfl) (by simp [Value.oneCell']) (by simp only [maxLen]; omega) (by omega) (by have := HB.out.size; simp; omega) ?_; intro v' w1 hown hgrow _))
            have HR2 := Lib.hid (srow_snoc hown)
            have HB2 := Lib.hid (grown_below (alloc_below HB.out) hgrow (HR.out.1.alloc _) (Nat.le_refl _) (alloc_below HB.out).size)
            clear hown hgrow
            go_wp2_with fail
            go_roundw
            case rel =>
              refine ⟨j + 1, ⟨#[]⟩, acc ++ [S.data.toList], by omega, by go_num, rfl, Nat.zero_le _, by simp; omega, HR2.out, ?_, HB2.out⟩
              rw [HR.out.2, drop_of_get HX.out, wordsGo, if_pos HW.out, if_neg HSE.out]
              simp
            case measure => simp [intOf]; omega
      · have HW := Lib.hid hw
        have hne : ¬ (x.toNat = 32 ∨ x.toNat = 9 ∨ x.toNat = 10) := by
          unfold wsU wsB at hw
          simpa [or_assoc] using hw
        have e1 : ((x.toNat : Int) == 32) = false := beq_eq_false_iff_ne.2 (by omega)
        have e2 : ((x.toNat : Int) == 9) = false := beq_eq_false_iff_ne.2 (by omega)
        have e3 : ((x.toNat : Int) == 10) = false := beq_eq_false_iff_ne.2 (by omega)
        clear hw hne hse
        go_wp2_with fail
        go_roundw
        case rel =>
          refine ⟨j + 1, S ++ ⟨#[x]⟩, acc, by omega, by go_num, rfl, ?_, by omega, HR.out.1.alloc _, ?_, alloc_below HB.out⟩
          · rw [ByteArray.size_append]
            show S.size + 1 ≤ _
            omega
          · rw [HR.out.2, drop_of_get HX.out, wordsGo, if_neg HW.out]
            simp
        case measure => simp [intOf]; omega
    · obtain rfl : j = s.size := by omega
      have hdn : s.data.toList.drop s.size = [] := List.drop_eq_nil_of_le (by rw [HN.out]; exact Nat.le_refl _)
      have hspec := HR.out.2
      rw [hdn, wordsGo] at hspec
      have hse := str_empty S
      by_cases hS : S.data.toList = []
      · have es : S.toList.isEmpty = true := by rw [hse]; exact decide_eq_true hS
        rw [if_pos hS, List.append_nil] at hspec
        have HSP := Lib.hid hspec
        clear hse hS hdn hspec
        go_wp2_with fail
        go_ret
        exact ⟨_, rfl, by rw [HSP.out]; exact HR.out.1, HB.out⟩
      · have es : S.toList.isEmpty = false := by rw [hse]; exact decide_eq_false hS
        rw [if_neg hS] at hspec
        have HSP := Lib.hid hspec
        clear hse hS hdn hspec
        go_wp2_with (first
            | (at_builtin; refine wpList_append_own _ rfl _ _ 47 rfl w.heap.size 9 i0 (.string ByteArray.empty) 1 16 Tryd.underlying47 HI.out.1 HI.out.2.1 HI.out.2.2.1 HI.out.2.2.2 rfl (by decide) _ _ _ rfl (HR.out.1.alloc _) ⟨wr.heap.size, 0, none⟩ 1 1 [.string S] rfl rfl (one_new rfl) (by simp [Value.oneCell']) (by simp only [maxLen]; omega) (by omega) (by have := HB.out.size; simp; omega) ?_; intro v' w1 hown hgrow _))
        have HR2 := Lib.hid (srow_snoc hown)
        have HB2 := Lib.hid (grown_below (alloc_below HB.out) hgrow (HR.out.1.alloc _) (Nat.le_refl _) (alloc_below HB.out).size)
        clear hown hgrow
        go_wp2_with fail
        go_ret
        exact ⟨_, rfl, by rw [HSP.out]; exact HR2.out, HB2.out⟩
end Go.Proofs.YtlhnpaehhfimjaaDoor
