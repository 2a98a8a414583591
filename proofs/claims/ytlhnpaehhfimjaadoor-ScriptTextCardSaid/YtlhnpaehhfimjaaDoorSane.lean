/-
  The walk of the check that every law begins with.
-/
import Derived.Test.YtlhnpaehhfimjaaDoorText
import Derived.Test.YtlhnpaehhfimjaaDoorParse
import Derived.Test.YtlhnpaehhfimjaaDoorPlain
import Derived.Test.YtlhnpaehhfimjaaDoorNext
namespace Go.Proofs.YtlhnpaehhfimjaaDoor
open Go.RowKit
def longW : ByteArray := ⟨#[48, 120, 50, 32, 49, 126, 50, 32, 49, 32, 48, 32, 49, 32, 48, 32, 33, 51, 44, 51, 50, 32, 48]⟩
def shortW : ByteArray := ⟨#[48, 120]⟩
def longL : List Pick := [⟨1,0,0,[]⟩, ⟨1,0,0,[]⟩, ⟨2,1,2,[]⟩, ⟨1,1,0,[]⟩, ⟨1,0,0,[]⟩, ⟨1,1,0,[]⟩, ⟨1,0,0,[]⟩, ⟨3,0,0,[3,32]⟩, ⟨1,0,0,[]⟩]
theorem words_long : wordsOf longW = [[48, 120, 50], [49, 126, 50], [49], [48], [49], [48], [33, 51, 44, 51, 50], [48]] := by kernel_rfl
theorem words_short : wordsOf shortW = [[48, 120]] := by kernel_rfl
theorem parse_long : parseW [[48, 120, 50], [49, 126, 50], [49], [48], [49], [48], [33, 51, 44, 51, 50], [48]] = (longL, 0) := by kernel_rfl
theorem parse_short : (parseW [[48, 120]]).2 = 3 := by kernel_rfl
theorem plain_long : plainL 2 longL = [⟨1,0,0,[]⟩, ⟨1,0,0,[]⟩, ⟨1,0,0,[]⟩, ⟨1,1,0,[]⟩, ⟨1,0,0,[]⟩,⟨3,0,0,[3,32]⟩] := by kernel_rfl
theorem text_long : textL longL = [48, 120, 50, 32, 49, 126, 50, 32, 49, 32, 48, 32, 49, 32, 48, 32, 33, 51, 44, 51, 50, 32, 48] := by kernel_rfl
theorem text_plain : textL (plainL 2 longL) = [48, 120, 51, 32, 49, 32, 48, 32, 33, 51, 44, 51, 50] := by kernel_rfl
theorem next_a : nextB [true, false, true] 2 = 0 := by kernel_rfl
theorem next_b : nextB [false] 0 = -1 := by kernel_rfl
theorem sane1 (w : World) (hg : Good w) : Calls Tryd.prog 19 #[.string longW] w fun e w' => ∃ a cap, e = .returned (.tuple #[.slice a 9 cap, .int .i64 0]) ∧ LAt w' (.slice a 9 cap) longL ∧ Below w.heap.size w w' := by
  have h := parse_any longW w hg (by decide)
  rw [words_long, parse_long] at h
  refine h.mono ?_
  rintro e w' ⟨v, rfl, hl, hb⟩
  obtain ⟨a, cap, rfl, h1⟩ := hl
  exact ⟨a, cap, rfl, ⟨a, cap, rfl, h1⟩, hb⟩
theorem sane2 (w : World) (hg : Good w) : Calls Tryd.prog 19 #[.string shortW] w fun e w' => ∃ v, e = .returned (.tuple #[v, .int .i64 3]) ∧ Below w.heap.size w w' := by
  have h := parse_any shortW w hg (by decide)
  rw [words_short] at h
  refine h.mono ?_
  rintro e w' ⟨v, rfl, hl, hb⟩
  exact ⟨v, by rw [parse_short], hb⟩
theorem sane3 (w : World) (v : Value) (hl : LAt w v longL) : Calls Tryd.prog 15 #[.int .i64 2, v] w fun e w' => ∃ v', e = .returned v' ∧ LAt w' v' (plainL 2 longL) ∧ Below w.heap.size w w' :=
  plain_any 2 v longL w hl (by decide)
theorem sane4 (w : World) (v : Value) (hg : Good w) (hl : LAt w v longL) : Calls Tryd.prog 22 #[v] w fun e w' => e = .returned (.string longW) ∧ Below w.heap.size w w' := by
  have h := text_any v longL w hg hl (by decide) (by decide)
  rw [text_long] at h
  exact h
def plainW : ByteArray := ⟨#[48, 120, 51, 32, 49, 32, 48, 32, 33, 51, 44, 51, 50]⟩
theorem sane5 (w : World) (v : Value) (hg : Good w) (hl : LAt w v (plainL 2 longL)) : Calls Tryd.prog 22 #[v] w fun e w' => e = .returned (.string plainW) ∧ Below w.heap.size w w' := by
  have h := text_any v _ w hg hl (by rw [plain_long]; decide) (by rw [plain_long]; decide)
  rw [text_plain] at h
  exact h
theorem sane_any (w : World) (hg : Good w) : Calls Tryd.prog 10 #[] w fun e w' => e = .returned (.bool true) ∧ Below w.heap.size w w' := by
  have HG := Lib.hid hg
  clear hg
  go_enter Tryd.func10, Tryd.ntmps10
  go_wp2_with fail
  refine (sane1 w HG.out).mono ?_
  rintro e w1 ⟨a, cap, rfl, hl, hb⟩
  have HL := Lib.hid hl
  have HB := Lib.hid hb
  clear hl hb
  go_wp2_with fail
  refine (sane3 w1 _ HL.out).mono ?_
  rintro e w2 ⟨v, rfl, hl, hb⟩
  replace HL := Lib.hid (HL.out.below hb)
  have HP := Lib.hid hl
  replace HB := Lib.hid (chain HB.out hb)
  clear hl hb
  go_wp2_with fail
  refine (sane2 w2 (HG.out.below HB.out)).mono ?_
  rintro e w3 ⟨v', rfl, hb⟩
  replace HL := Lib.hid (HL.out.below hb)
  replace HP := Lib.hid (HP.out.below hb)
  replace HB := Lib.hid (chain HB.out hb)
  clear hb
  go_wp2_with fail
  refine (sane5 w3 v (HG.out.below HB.out) HP.out).mono ?_
  rintro e w4 ⟨rfl, hb⟩
  replace HL := Lib.hid (HL.out.below hb)
  replace HB := Lib.hid (chain HB.out hb)
  clear hb HP
  unfold plainW
  go_wp2_with fail
  refine (sane4 w4 _ (HG.out.below HB.out) HL.out).mono ?_
  rintro e w5 ⟨rfl, hb⟩
  replace HB := Lib.hid (chain HB.out hb)
  clear hb HL
  unfold longW
  go_wp2_with fail
  refine (next_any _ [true, false, true] 2 _ ⟨_, _, rfl, by decide, by decide, ?_⟩ (by unfold I64; decide)).mono ?_
  · intro i v hi
    match i, hi with
    | 0, hi => cases hi; exact ⟨_, _, rfl, by simp⟩
    | 1, hi => cases hi; exact ⟨_, _, rfl, by simp⟩
    | 2, hi => cases hi; exact ⟨_, _, rfl, by simp⟩
  rw [next_a]
  rintro e w6 ⟨rfl, rfl⟩
  replace HB := Lib.hid (alloc_below (o := .cells #[.bool true, .bool false, .bool true] 4) HB.out)
  go_wp2_with fail
  refine (next_any _ [false] 0 _ ⟨_, _, rfl, by decide, by decide, ?_⟩ (by unfold I64; decide)).mono ?_
  · intro i v hi
    match i, hi with
    | 0, hi => cases hi; exact ⟨_, _, rfl, by simp⟩
  rw [next_b]
  rintro e w6 ⟨rfl, rfl⟩
  replace HB := Lib.hid (alloc_below (o := .cells #[.bool false] 4) HB.out)
  go_wp2_with fail
  go_ret
  exact ⟨rfl, HB.out⟩
end Go.Proofs.YtlhnpaehhfimjaaDoor
