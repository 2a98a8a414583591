/-
  Contracts in the forms that the laws' walks use.
-/
import Derived.Test.YtlhnpaehhfimjaaDoorPlaw
import Derived.Test.YtlhnpaehhfimjaaDoorNext
namespace Go.Proofs.YtlhnpaehhfimjaaDoor
open Go.RowKit
theorem few_at {most : Int} {x : Value} {l : List Pick} {b : Bool} {w : World} (hl : LAt w x l) (hb : fewB most l = b) : Calls Tryd.prog 11 #[x, .int .i64 most] w fun e w' => e = .returned (.bool b) ∧ w = w' := by
  subst hb; exact few_any most x l w hl
theorem next_at {x : Value} {on : List Bool} {last b : Int} {w : World} (h : BAt w x on) (hlast : I64 last) (hb : nextB on last = b) : Calls Tryd.prog 17 #[x, .int .i64 last] w fun e w' => e = .returned (.int .i64 b) ∧ w = w' := by
  subst hb; exact next_any x on last w h hlast
theorem same_at {x y : Value} {l m : List Pick} {b : Bool} {w : World} (hl : LAt w x l) (hm : LAt w y m) (he : sameL l m = b) : Calls Tryd.prog 14 #[x, y] w fun e w' => e = .returned (.bool b) ∧ Below w.heap.size w w' := by
  subst he; exact same_any x y l m w hl hm
theorem plain_at {threads : Int} {x : Value} {l m : List Pick} {w : World} (hl : LAt w x l) (hlen : l.length ≤ 1000000) (hm : plainL threads l = m) :
    Calls Tryd.prog 15 #[.int .i64 threads, x] w fun e w' => ∃ a cap, e = .returned (.slice a m.length cap) ∧ LAt w' (.slice a m.length cap) m ∧ Below w.heap.size w w' := by
  subst hm
  refine (plain_any threads x l w hl hlen).mono ?_
  rintro e w' ⟨v, rfl, hv, hb⟩
  obtain ⟨a, cap, rfl, h⟩ := hv
  exact ⟨a, cap, rfl, ⟨a, cap, rfl, h⟩, hb⟩
theorem few_len {l : List Pick} (h : fewB 250 l = true) : l.length ≤ 250 ∧ ∀ p ∈ l, p.c.length ≤ 80 := by
  simp only [fewB, Bool.and_eq_true, decide_eq_true_eq, List.all_eq_true] at h
  exact ⟨by omega, h.2⟩
end Go.Proofs.YtlhnpaehhfimjaaDoor
