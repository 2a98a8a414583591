/-
  A region that draws its order, whose operations read, and whose callees make new memory alone: one walk in the order of the text serves every order.
-/
import Derived.Test.YtlhnpaehhfimjaaDoorBase
import Derived.BigQuiet
namespace Go.Proofs.YtlhnpaehhfimjaaDoor
open Go.RowKit

/-- A later world: all that lay in W lies in it unturned. -/
def Later (W : World) : Type := { w' : World // Below W.heap.size W w' }
def Later.w {W : World} (t : Later W) : World := t.1
theorem Later.below {W : World} (t : Later W) : Below W.heap.size W t.w := t.2
def Later.of {W w' : World} (h : Below W.heap.size W w') : Later W := ⟨w', h⟩

instance (W : World) : Nonempty (Later W) := ⟨Later.of (Below.refl _ _)⟩

theorem wp_region_later {P : Program} {id : Nat} {Q : Exit → Act → World → Prop} {a : Act} {w : World} {l : List Oper} (hm : P.follows .mixedOrders = true) (hB : Region.lexB .any l.toArray = true)
    (h : wpQuiet P l.toArray (fun w' => ∃ t : Later w, w' = t.w) (fun a' => ∀ w', (∃ t : Later w, w' = t.w) → Q .normal a' w') l a) : (Code.region id l.toArray true).wp P Q a w :=
  wp_region_quiet (C := fun w' => ∃ t : Later w, w' = t.w) hm hB ⟨Later.of (Below.refl _ _).drew, rfl⟩ (by simpa using h)

theorem calls_later {P : Program} {f : FuncId} {args : Array Value} {W : World} {t : Later W} {v : Value}
    (h : Calls P f args t.w fun e w' => e = .returned v ∧ Below t.w.heap.size t.w w') : Calls P f args t.w fun e w'' => e = .returned v ∧ ∃ t' : Later W, w'' = t'.w :=
  h.mono fun _ _ ⟨he, hb⟩ => ⟨he, Later.of (t.below.trans (hb.mono t.below.size)), rfl⟩
theorem calls_later_same {P : Program} {f : FuncId} {args : Array Value} {W : World} {t : Later W} {v : Value}
    (h : Calls P f args t.w fun e w' => e = .returned v ∧ t.w = w') : Calls P f args t.w fun e w'' => e = .returned v ∧ ∃ t' : Later W, w'' = t'.w :=
  h.mono fun _ _ ⟨he, hb⟩ => ⟨he, t, hb.symm⟩
/-- A cell that lies in W lies in every later world. -/
theorem later_cell {W : World} {p : Addr} {v : Value} (h : W.cell? p = some v) (t : Later W) : t.w.cell? p = some v :=
  (t.below.cell (World.block_lt_of_cell? _ _ h)).trans h
end Go.Proofs.YtlhnpaehhfimjaaDoor
