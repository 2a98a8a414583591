/-
  The walk of the law ScriptText.
-/
import Derived.Test.YtlhnpaehhfimjaaDoorRtext
import Derived.Test.YtlhnpaehhfimjaaDoorRparse
namespace Go.Proofs.YtlhnpaehhfimjaaDoor
open Go.RowKit
theorem gives_at {r : List Pick × Int} {l : List Pick} {n : Int} {w : World} {e : Ending} {w' : World} (h : GivesP r w e w') (h1 : r.1 = l) (h2 : r.2 = n) : ∃ a cap, e = .returned (.tuple #[.slice a l.length cap, .int .i64 n]) ∧ LAt w' (.slice a l.length cap) l ∧ Below w.heap.size w w' := by
  obtain ⟨v, rfl, hl, hb⟩ := h
  subst h1 h2
  obtain ⟨a, cap, rfl, h⟩ := hl
  exact ⟨a, cap, rfl, ⟨a, cap, rfl, h⟩, hb⟩
theorem parse1_at {s : ByteArray} {l : List Pick} {n : Int} {w : World} (hg : Good w) (hs : s.size ≤ 600) (h1 : (parseW (wordsL s.data.toList)).1 = l) (h2 : (parseW (wordsL s.data.toList)).2 = n) :
    Calls Tryd.prog 19 #[.string s] w fun e w' => ∃ a cap, e = .returned (.tuple #[.slice a l.length cap, .int .i64 n]) ∧ LAt w' (.slice a l.length cap) l ∧ Below w.heap.size w w' := by
  have h := parse_any s w hg (by omega)
  rw [words_eq] at h
  exact h.mono fun e w' h => gives_at h h1 h2
theorem parse2_at {s : ByteArray} {l : List Pick} {n : Int} {w : World} (hs : s.size ≤ 600) (h1 : (parseW (wordsL s.data.toList)).1 = l) (h2 : (parseW (wordsL s.data.toList)).2 = n) :
    Calls Tryd.prog 20 #[.string s] w fun e w' => ∃ a cap, e = .returned (.tuple #[.slice a l.length cap, .int .i64 n]) ∧ LAt w' (.slice a l.length cap) l ∧ Below w.heap.size w w' :=
  (refParse_any s w (by omega)).mono fun e w' h => gives_at h h1 h2
theorem refText_at {x : Value} {l : List Pick} {T : ByteArray} {w : World} (hl : LAt w x l) (hr : rightAll l = true) (hlen : l.length ≤ 250) (hT : T = ⟨(textL l).toArray⟩) : Calls Tryd.prog 23 #[x] w fun e w' => e = .returned (.string T) ∧ Below w.heap.size w w' := by
  subst hT; exact refText_any x l w hl hr hlen
set_option maxRecDepth 20000 in
set_option maxHeartbeats 4000000 in
theorem lawText_any (y : Value) (l : List Pick) (s : ByteArray) (w : World) (hg : Good w) (hl : LAt w y l) :
    Calls Tryd.prog 4 #[y, .string s] w fun e w' => e = .returned (.bool true) ∧ Below w.heap.size w w' := by
  obtain ⟨ya, ycap, rfl, hy⟩ := hl
  have HL := Lib.hid (show LAt w (.slice ya l.length ycap) l from ⟨ya, ycap, rfl, hy⟩)
  have HG := Lib.hid hg
  clear hg hy
  obtain ⟨f1, hf1⟩ : ∃ b, fewB 250 l = b := ⟨_, rfl⟩
  obtain ⟨r1, hr1⟩ : ∃ b, rightAll l = b := ⟨_, rfl⟩
  have HF := Lib.hid hf1
  have HR := Lib.hid hr1
  clear hf1 hr1
  go_enter Tryd.func4, Tryd.ntmps4
  go_wp2_with fail
  refine (sane_any w HG.out).mono ?_
  rintro e w2 ⟨rfl, hb⟩
  have HB := Lib.hid hb
  clear hb
  go_wp2_with fail
  refine (few_at (HL.out.below HB.out) HF.out).mono ?_
  rintro e w3 ⟨rfl, rfl⟩
  cases f1 with
  | false =>
    go_wp2_with fail
    go_ret
    exact ⟨rfl, HB.out⟩
  | true =>
  by_cases h600 : 600 < s.size
  · go_wp2_with fail
    go_ret
    exact ⟨rfl, HB.out⟩
  obtain ⟨P, hP⟩ : ∃ P, (parseW (wordsL s.data.toList)).1 = P := ⟨_, rfl⟩
  obtain ⟨n, hn⟩ : ∃ n, (parseW (wordsL s.data.toList)).2 = n := ⟨_, rfl⟩
  have HP := Lib.hid (And.intro hP hn)
  clear hP hn
  go_wp2_with fail
  refine (parse1_at (HG.out.below HB.out) (by omega) HP.out.1 HP.out.2).mono ?_
  rintro e w3 ⟨a3, c3, rfl, h3, hb⟩
  have HB3 := Lib.hid (chain HB.out hb)
  have H3 := Lib.hid h3
  clear h3 hb
  go_wp2_with fail
  refine (parse2_at (by omega) HP.out.1 HP.out.2).mono ?_
  rintro e w4 ⟨a4, c4, rfl, h4, hb⟩
  have HB4 := Lib.hid (chain HB3.out hb)
  have H4 := Lib.hid (And.intro (H3.out.below hb) h4)
  clear h4 hb
  go_wp2_with fail
  refine (same_at H4.out.1 H4.out.2 (sameL_iff.2 rfl)).mono ?_
  rintro e w5 ⟨rfl, hb⟩
  have HB5 := Lib.hid (chain HB4.out hb)
  clear hb
  go_wp2_with fail
  refine (lawRight_at (HL.out.below HB5.out) HR.out).mono ?_
  rintro e w6 ⟨rfl, hb⟩
  have HB6 := Lib.hid (chain HB5.out hb)
  clear hb
  cases r1 with
  | false =>
    go_wp2_with fail
    go_ret
    exact ⟨rfl, HB6.out⟩
  | true =>
  obtain ⟨T, hT⟩ : ∃ T : ByteArray, T = ⟨(textL l).toArray⟩ := ⟨_, rfl⟩
  have HT := Lib.hid hT
  clear hT
  go_wp2_with fail
  refine (text_at (HL.out.below HB6.out) (HG.out.below HB6.out) HF.out HT.out).mono ?_
  rintro e w7 ⟨rfl, hb⟩
  have HB7 := Lib.hid (chain HB6.out hb)
  clear hb
  go_wp2_with fail
  refine (refText_at (HL.out.below HB7.out) HR.out (few_len HF.out).1 HT.out).mono ?_
  rintro e w8 ⟨rfl, hb⟩
  have HB8 := Lib.hid (chain HB7.out hb)
  clear hb
  go_wp2_with fail
  go_ret
  exact ⟨rfl, HB8.out⟩
end Go.Proofs.YtlhnpaehhfimjaaDoor
