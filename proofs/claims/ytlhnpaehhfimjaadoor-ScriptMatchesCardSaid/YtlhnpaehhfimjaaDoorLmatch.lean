/-
  The walk of the law ScriptMatches.
-/
import Derived.Test.YtlhnpaehhfimjaaDoorSane
import Derived.Test.YtlhnpaehhfimjaaDoorRight
import Derived.Test.YtlhnpaehhfimjaaDoorSame
import Derived.Test.YtlhnpaehhfimjaaDoorPlref
import Derived.Test.YtlhnpaehhfimjaaDoorPleq
import Derived.Deep.RegionWith
namespace Go.Proofs.YtlhnpaehhfimjaaDoor
open Go.RowKit
theorem few_is {most : Int} {x : Value} {l : List Pick} {b : Bool} {w : World} (hl : LAt w x l) (hb : fewB most l = b) : Calls Tryd.prog 11 #[x, .int .i64 most] w fun e w' => e = .returned (.bool b) ∧ w = w' := by
  subst hb; exact few_any most x l w hl
theorem below_drew1' {W w : World} (h : Below W.heap.size W w) : Below W.heap.size W w.drew := Below.drew h
theorem same_yes {x y : Value} {l m : List Pick} {w : World} (hl : LAt w x l) (hm : LAt w y m) (he : l = m) : Calls Tryd.prog 14 #[x, y] w fun e w' => e = .returned (.bool true) ∧ Below w.heap.size w w' := by
  have h := same_any x y l m w hl hm
  rw [sameL_iff.2 he] at h
  exact h
theorem next_is {x : Value} {on : List Bool} {last b : Int} {w : World} (h : BAt w x on) (hlast : I64 last) (hb : nextB on last = b) : Calls Tryd.prog 17 #[x, .int .i64 last] w fun e w' => e = .returned (.int .i64 b) ∧ w = w' := by
  subst hb; exact next_any x on last w h hlast
theorem refNext_is {x : Value} {on : List Bool} {last b : Int} {w : World} (h : BAt w x on) (hlast : I64 last) (hb : nextB on last = b) : Calls Tryd.prog 18 #[x, .int .i64 last] w fun e w' => e = .returned (.int .i64 b) ∧ w = w' := by
  subst hb; exact refNext_any x on last w h hlast
set_option maxHeartbeats 4000000 in
theorem lawMatch_any (threads last : Int) (y z : Value) (q : Pick) (a : Option Addr) (cap : Nat) (l : List Pick) (on : List Bool) (w : World) (hg : Good w) (hla : I64 last) (hl : LAt w y l)
    (hq : PAt w (.agg #[.int .i64 q.k, .int .i64 q.a, .int .i64 q.b, .slice a q.c.length cap]) q) (hon : BAt w z on) :
    Calls Tryd.prog 3 #[.int .i64 threads, y, .agg #[.int .i64 q.k, .int .i64 q.a, .int .i64 q.b, .slice a q.c.length cap], z, .int .i64 last] w fun e w' => e = .returned (.bool true) ∧ Below w.heap.size w w' := by
  obtain ⟨ya, ycap, rfl, hy⟩ := hl
  obtain ⟨za, zcap, rfl, hz⟩ := hon
  have HL := Lib.hid (show LAt w (.slice ya l.length ycap) l from ⟨ya, ycap, rfl, hy⟩)
  have HO := Lib.hid (show BAt w (.slice za on.length zcap) on from ⟨za, zcap, rfl, hz⟩)
  have HQ := Lib.hid hq
  have HG := Lib.hid hg
  have hz2 := hz.2.1
  unfold big at hz2
  have hz1 := hz.1
  clear hq hg hy hz
  obtain ⟨k, pa, pb, pc⟩ := q
  have hcl : pc.length ≤ big := by obtain ⟨_, _, e, _, _, _, h, _⟩ := HQ.out; exact h
  unfold big at hcl
  obtain ⟨fw, hfw⟩ : ∃ b, fewB 250 l = b := ⟨_, rfl⟩
  have HF := Lib.hid hfw
  clear hfw
  go_enter Tryd.func3, Tryd.ntmps3
  go_wp2_with fail
  obtain ⟨w1, hw1⟩ : ∃ w1, w1 = w.alloc (.cells #[.int .i64 k, .int .i64 pa, .int .i64 pb, .slice a pc.length cap] 25) := ⟨_, rfl⟩
  have HB := Lib.hid (show Below w.heap.size w w1 by rw [hw1]; exact below_alloc _ _)
  have HC := Lib.hid (show w1.cell? ⟨w.heap.size, 0, none⟩ = some (.int .i64 k) ∧ w1.cell? ⟨w.heap.size, 1, none⟩ = some (.int .i64 pa) ∧ w1.cell? ⟨w.heap.size, 2, none⟩ = some (.int .i64 pb) ∧ w1.cell? ⟨w.heap.size, 3, none⟩ = some (.slice a pc.length cap) by
    rw [hw1]; exact ⟨by simp, by simp, by simp, by simp⟩)
  rw [← hw1]
  clear hw1
  refine (sane_any w1 (HG.out.below HB.out)).mono ?_
  rintro e w2 ⟨rfl, hb⟩
  replace HC := Lib.hid (And.intro (cell_on HC.out.1 hb) (And.intro (cell_on HC.out.2.1 hb) (And.intro (cell_on HC.out.2.2.1 hb) (cell_on HC.out.2.2.2 hb))))
  replace HB := Lib.hid (chain HB.out hb)
  clear hb
  go_wp2_with fail
  refine (few_is (HL.out.below HB.out) HF.out).mono ?_
  rintro e w3 ⟨rfl, rfl⟩
  obtain ⟨c0, c1, c2, c3⟩ := HC.out
  have refuse : True := trivial
  cases fw with
  | false =>
    clear c0 c1 c2 c3
    go_wp2_with fail
    go_ret
    exact ⟨rfl, HB.out⟩
  | true =>
  by_cases h80 : 80 < pc.length
  · go_wp2_with fail
    go_ret
    exact ⟨rfl, HB.out⟩
  by_cases h50 : 50 < on.length
  · go_wp2_with fail
    go_ret
    exact ⟨rfl, HB.out⟩
  have hll : l.length ≤ 1000000 := by
    have := HF.out
    simp only [fewB, Bool.and_eq_true, decide_eq_true_eq] at this
    omega
  obtain ⟨rb, hrb⟩ : ∃ b, rightB threads ⟨k, pa, pb, pc⟩ = b := ⟨_, rfl⟩
  have HR := Lib.hid hrb
  clear hrb
  obtain ⟨nb, hnb⟩ : ∃ b, nextB on last = b := ⟨_, rfl⟩
  have HN := Lib.hid hnb
  clear hnb
  go_wp2_with fail
  have HD := Lib.hid (below_drew1' HB.out)
  go_region_with (first
    | (go_at_call 12; refine (right_is (HQ.out.below HD.out) HR.out).mono ?_; rintro e w4 ⟨rfl, hb⟩; have d0 := cell_on (show w2.drew.cell? ⟨w.heap.size, 0, none⟩ = some (.int .i64 k) from c0) hb; have d1 := cell_on (show w2.drew.cell? ⟨w.heap.size, 1, none⟩ = some (.int .i64 pa) from c1) hb; have d2 := cell_on (show w2.drew.cell? ⟨w.heap.size, 2, none⟩ = some (.int .i64 pb) from c2) hb; have d3 := cell_on (show w2.drew.cell? ⟨w.heap.size, 3, none⟩ = some (.slice a pc.length cap) from c3) hb; have HE := Lib.hid (chain HD.out hb); clear hb)
    | (go_at_call 13; refine (refRight_is (HQ.out.below HE.out) HR.out).mono ?_; rintro e w5 ⟨rfl, hb⟩; have H5 := Lib.hid (chain HE.out hb); clear hb d0 d1 d2 d3)
    | (go_at_call 15; refine (plain_any threads _ l _ (HL.out.below H5.out) hll).mono ?_; rintro e w6 ⟨v, rfl, hv, hb⟩; have H6 := Lib.hid (chain H5.out hb); have V6 := Lib.hid hv; clear hv hb)
    | (go_at_call 16; refine (refPlain_any threads _ l _ (HL.out.below H6.out) hll).mono ?_; rintro e w7 ⟨u, rfl, hv, hb⟩; have H7 := Lib.hid (chain H6.out hb); have V7 := Lib.hid (V6.out.below hb); have U7 := Lib.hid hv; clear hv hb)
    | (go_at_call 14; refine (same_yes V7.out U7.out (plain_eq threads l)).mono ?_; rintro e w8 ⟨rfl, hb⟩; have H8 := Lib.hid (chain H7.out hb); clear hb)
    | (go_at_call 17; refine (next_is (HO.out.below H8.out) hla HN.out).mono ?_; rintro e w9 ⟨rfl, rfl⟩)
    | (go_at_call 18; refine (refNext_is (HO.out.below H8.out) hla HN.out).mono ?_; rintro e w9 ⟨rfl, rfl⟩))
  all_goals (go_wp2_with fail; go_ret; exact ⟨rfl, H8.out⟩)
end Go.Proofs.YtlhnpaehhfimjaaDoor
