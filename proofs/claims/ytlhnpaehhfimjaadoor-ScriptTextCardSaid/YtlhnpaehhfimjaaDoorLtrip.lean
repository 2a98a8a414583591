/-
  The walk of the law ScriptRoundTrip.
-/
import Derived.Test.YtlhnpaehhfimjaaDoorIs
import Derived.Test.YtlhnpaehhfimjaaDoorSane
import Derived.Test.YtlhnpaehhfimjaaDoorTrip
import Derived.Deep.RegionWith
namespace Go.Proofs.YtlhnpaehhfimjaaDoor
open Go.RowKit
theorem word_len {p : Pick} {m : Nat} (h : rightB 4 p = true) (hm : m ≤ 10000) : (textOf (p, m)).length ≤ 1500 := by
  have im : I64 (m : Int) := by unfold I64; omega
  have lm := Lib.itoa_length_le m im.1 im.2
  unfold textOf
  rcases right_kinds h with hk | ⟨hk, _⟩ | hk
  · obtain ⟨ha, ha4, _⟩ := right_one h hk
    have la := Lib.itoa_length_le p.a (by omega) (by omega)
    rw [if_neg (by simp only; omega), if_neg (by simp only; omega)]
    simp only
    split
    · simp only [List.length_append, List.length_cons]; omega
    · omega
  · obtain ⟨ha, ha4, hb, hb2, _⟩ := right_two h hk
    have la := Lib.itoa_length_le p.a (by omega) (by omega)
    have lb := Lib.itoa_length_le p.b (by omega) (by omega)
    rw [if_pos hk]
    simp only [List.length_append, List.length_cons]
    omega
  · obtain ⟨_, _, hl, hc⟩ := right_three h hk
    have lc := join_len 21 [44] (p.c.map Lib.itoa) (by
      intro x hx
      obtain ⟨n, hn, rfl⟩ := List.mem_map.1 hx
      have := hc n hn
      exact Lib.itoa_length_le n (by omega) (by omega))
    simp only [List.length_map, List.length_cons, List.length_nil, Nat.reduceAdd] at lc
    rw [if_neg (by simp only; omega), if_pos hk]
    simp only [List.length_cons]
    omega
theorem text_len {l : List Pick} (h : rightAll l = true) (hl : l.length ≤ 250) : (textL l).length ≤ 1000000 := by
  have hr := (runs_all l.length l (Nat.le_refl _) h).2
  have h1 := runsL_length l
  have h2 := join_len 1500 [32] ((runsL l).map textOf) (by
    intro x hx
    obtain ⟨y, hy, rfl⟩ := List.mem_map.1 hx
    have := hr y hy
    exact word_len this.1 (by omega))
  unfold textL
  rw [List.length_map] at h2
  simp only [List.length_cons, List.length_nil, Nat.reduceAdd] at h2
  have h3 := Nat.mul_le_mul_right 1501 (Nat.le_trans h1 hl)
  omega
theorem few_cuts {l : List Pick} (h : fewB 250 l = true) : ∀ p ∈ l, p.c.length ≤ 100 := fun p hp => by have := (few_len h).2 p hp; omega
theorem text_at {x : Value} {l : List Pick} {T : ByteArray} {w : World} (hl : LAt w x l) (hg : Good w) (hf : fewB 250 l = true) (hT : T = ⟨(textL l).toArray⟩) : Calls Tryd.prog 22 #[x] w fun e w' => e = .returned (.string T) ∧ Below w.heap.size w w' := by
  subst hT; exact text_any x l w hg hl (by have := (few_len hf).1; omega) (few_cuts hf)
theorem parse_at {l : List Pick} {T : ByteArray} {w : World} (hg : Good w) (hf : fewB 250 l = true) (hr : rightAll l = true) (hT : T = ⟨(textL l).toArray⟩) :
    Calls Tryd.prog 19 #[.string T] w fun e w' => ∃ a cap, e = .returned (.tuple #[.slice a l.length cap, .int .i64 0]) ∧ LAt w' (.slice a l.length cap) l ∧ Below w.heap.size w w' := by
  have h250 := (few_len hf).1
  have h := parse_any T w hg (by
    subst hT
    have := text_len hr h250
    simpa [ByteArray.size] using this)
  rw [words_eq, show T.data.toList = textL l by rw [hT], parse_text hr (by omega)] at h
  refine h.mono ?_
  rintro e w' ⟨v, rfl, hl, hb⟩
  obtain ⟨a, cap, rfl, h1⟩ := hl
  exact ⟨a, cap, rfl, ⟨a, cap, rfl, h1⟩, hb⟩
theorem lawRight_at {x : Value} {l : List Pick} {b : Bool} {w : World} (hl : LAt w x l) (hb : rightAll l = b) : Calls Tryd.prog 21 #[x] w fun e w' => e = .returned (.bool b) ∧ Below w.heap.size w w' := by
  subst hb; exact lawRight_any x l w hl
set_option maxRecDepth 20000 in
set_option maxHeartbeats 4000000 in
theorem lawTrip_any (y z : Value) (l m : List Pick) (w : World) (hg : Good w) (hl : LAt w y l) (hm : LAt w z m) :
    Calls Tryd.prog 5 #[y, z] w fun e w' => e = .returned (.bool true) ∧ Below w.heap.size w w' := by
  obtain ⟨ya, ycap, rfl, hy⟩ := hl
  obtain ⟨za, zcap, rfl, hz⟩ := hm
  have HL := Lib.hid (show LAt w (.slice ya l.length ycap) l from ⟨ya, ycap, rfl, hy⟩)
  have HM := Lib.hid (show LAt w (.slice za m.length zcap) m from ⟨za, zcap, rfl, hz⟩)
  have HG := Lib.hid hg
  clear hg hy hz
  obtain ⟨f1, hf1⟩ : ∃ b, fewB 250 l = b := ⟨_, rfl⟩
  obtain ⟨f2, hf2⟩ : ∃ b, fewB 250 m = b := ⟨_, rfl⟩
  obtain ⟨r1, hr1⟩ : ∃ b, rightAll l = b := ⟨_, rfl⟩
  obtain ⟨r2, hr2⟩ : ∃ b, rightAll m = b := ⟨_, rfl⟩
  have HF := Lib.hid (And.intro hf1 hf2)
  have HR := Lib.hid (And.intro hr1 hr2)
  clear hf1 hf2 hr1 hr2
  go_enter Tryd.func5, Tryd.ntmps5
  go_wp2_with fail
  refine (sane_any w HG.out).mono ?_
  rintro e w2 ⟨rfl, hb⟩
  have HB := Lib.hid hb
  clear hb
  go_wp2_with fail
  refine (few_at (HL.out.below HB.out) HF.out.1).mono ?_
  rintro e w3 ⟨rfl, rfl⟩
  cases f1 with
  | false =>
    go_wp2_with fail
    go_ret
    exact ⟨rfl, HB.out⟩
  | true =>
  go_wp2_with fail
  refine (few_at (HM.out.below HB.out) HF.out.2).mono ?_
  rintro e w3 ⟨rfl, rfl⟩
  cases f2 with
  | false =>
    go_wp2_with fail
    go_ret
    exact ⟨rfl, HB.out⟩
  | true =>
  go_wp2_with fail
  refine (lawRight_at (HL.out.below HB.out) HR.out.1).mono ?_
  rintro e w3 ⟨rfl, hb⟩
  have HB3 := Lib.hid (chain HB.out hb)
  clear hb
  cases r1 with
  | false =>
    go_wp2_with fail
    go_ret
    exact ⟨rfl, HB3.out⟩
  | true =>
  go_wp2_with fail
  refine (lawRight_at (HM.out.below HB3.out) HR.out.2).mono ?_
  rintro e w4 ⟨rfl, hb⟩
  have HB4 := Lib.hid (chain HB3.out hb)
  clear hb
  cases r2 with
  | false =>
    go_wp2_with fail
    go_ret
    exact ⟨rfl, HB4.out⟩
  | true =>
  obtain ⟨T1, hT1⟩ : ∃ T : ByteArray, T = ⟨(textL l).toArray⟩ := ⟨_, rfl⟩
  obtain ⟨T2, hT2⟩ : ∃ T : ByteArray, T = ⟨(textL m).toArray⟩ := ⟨_, rfl⟩
  obtain ⟨s, hs⟩ : ∃ b, sameL l m = b := ⟨_, rfl⟩
  have HT := Lib.hid (And.intro hT1 (And.intro hT2 hs))
  have hE : (T1.toList == T2.toList) = s := by
    rw [ByteArray.toList_eq, ByteArray.toList_eq, hT1, hT2, ← hs, Bool.eq_iff_iff, beq_iff_eq, sameL_iff]
    simp only
    exact text_inj HR.out.1 HR.out.2 (by have := (few_len HF.out.1).1; omega) (by have := (few_len HF.out.2).1; omega)
  have HE := Lib.hid hE
  clear hT1 hT2 hs hE
  go_wp2_with fail
  refine (text_at (HL.out.below HB4.out) (HG.out.below HB4.out) HF.out.1 HT.out.1).mono ?_
  rintro e w5 ⟨rfl, hb⟩
  have HB5 := Lib.hid (chain HB4.out hb)
  clear hb
  go_wp2_with fail
  refine (parse_at (HG.out.below HB5.out) HF.out.1 HR.out.1 HT.out.1).mono ?_
  rintro e w6 ⟨pa, pcap, rfl, hp, hb⟩
  have HB6 := Lib.hid (chain HB5.out hb)
  have HP := Lib.hid hp
  clear hp hb
  go_wp2_with fail
  refine (same_at (HL.out.below HB6.out) (HM.out.below HB6.out) HT.out.2.2).mono ?_
  rintro e w7 ⟨rfl, hb⟩
  have HB7 := Lib.hid (chain HB6.out hb)
  have HP7 := Lib.hid (HP.out.below hb)
  clear hb
  go_wp2_with fail
  refine (same_at HP7.out (HL.out.below HB7.out) (sameL_iff.2 rfl)).mono ?_
  rintro e w8 ⟨rfl, hb⟩
  have HB8 := Lib.hid (chain HB7.out hb)
  clear hb
  go_wp2_with fail
  refine (text_at (HL.out.below HB8.out) (HG.out.below HB8.out) HF.out.1 HT.out.1).mono ?_
  rintro e w9 ⟨rfl, hb⟩
  have HB9 := Lib.hid (chain HB8.out hb)
  clear hb
  go_wp2_with fail
  refine (text_at (HM.out.below HB9.out) (HG.out.below HB9.out) HF.out.2 HT.out.2.1).mono ?_
  rintro e w10 ⟨rfl, hb⟩
  have HB10 := Lib.hid (chain HB9.out hb)
  have hE := HE.out
  clear hb
  cases s
  all_goals
    go_wp2_with fail
    go_ret
    exact ⟨rfl, HB10.out⟩
end Go.Proofs.YtlhnpaehhfimjaaDoor
