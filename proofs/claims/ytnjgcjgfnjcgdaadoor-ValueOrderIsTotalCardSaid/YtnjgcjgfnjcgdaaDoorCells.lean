/-
  Small laws on cells: what a store leaves, and a box of four cells of the call's own in a later world.
-/
import Derived.Test.YtnjgcjgfnjcgdaaDoorBase
namespace Go.Proofs.YtnjgcjgfnjcgdaaDoor
open Go.RowKit
theorem cell_set_has {w : World} {p : Addr} {v : Value} (h : (w.cell? p).isSome = true) : (w.setCell p v).cell? p = some v := by
  obtain ⟨u, hu⟩ := Option.isSome_iff_exists.1 h
  exact World.cell?_setCell_same _ _ _ hu
theorem some_set {w : World} {p q : Addr} {v : Value} : ((w.setCell q v).cell? p).isSome = (w.cell? p).isSome := by
  by_cases h : q = p
  · subst h
    cases hc : w.cell? q with
    | none =>
      cases hs : (w.setCell q v).cell? q with
      | none => rfl
      | some u =>
        exfalso
        unfold World.cell? World.setCell at hs
        simp only [Array.getElem?_modify, if_true] at hs
        unfold World.cell? at hc
        cases hb : w.heap[q.block]? with
        | none => simp [hb] at hs
        | some o =>
          cases o <;> simp [hb] at hs hc
          obtain ⟨h1, h2⟩ := hs
          have := hc h1
          cases hq : q.spot with
          | some x => simp [hq] at h1
          | none =>
            simp only [hq, Option.isSome_none, Bool.false_eq_true, if_false] at h2
            rw [Array.getElem?_eq_none (by simpa using this)] at h2
            cases h2
    | some u => rw [World.cell?_setCell_same _ _ _ hc]; rfl
  · rw [World.cell?_setCell_other _ _ _ _ h]

/-- A box of cells that the call has laid at the end of w, seen in a later world. -/
theorem box_later {w w1 : World} {c : Array Value} {t : TypeId} {B : Nat} (hb : Below B (w.alloc (.cells c t)) w1) (hB : w.heap.size < B) :
    (∀ (j : Nat) (v : Value), c[j]? = some v → w1.cell? ⟨w.heap.size, j, none⟩ = some v) ∧ (∀ j, w1.frozen? ⟨w.heap.size, j, none⟩ = false) :=
  ⟨fun j v h => by rw [hb.cell (by simpa using hB), World.cell?_alloc_new, h], fun j => by rw [hb.frozen (by simpa using hB)]; simp⟩

/-- Four boxes of the call's own, one behind the other. -/
theorem boxes4 (w : World) (A B C D : Array Value) (t1 t2 t3 t4 : TypeId) :
    ((∀ j, ((((w.alloc (.cells A t1)).alloc (.cells B t2)).alloc (.cells C t3)).alloc (.cells D t4)).cell? ⟨w.heap.size, j, none⟩ = A[j]?) ∧
     (∀ j, ((((w.alloc (.cells A t1)).alloc (.cells B t2)).alloc (.cells C t3)).alloc (.cells D t4)).cell? ⟨w.heap.size + 1, j, none⟩ = B[j]?)) ∧
    ((∀ j, ((((w.alloc (.cells A t1)).alloc (.cells B t2)).alloc (.cells C t3)).alloc (.cells D t4)).cell? ⟨w.heap.size + 1 + 1, j, none⟩ = C[j]?) ∧
     (∀ j, ((((w.alloc (.cells A t1)).alloc (.cells B t2)).alloc (.cells C t3)).alloc (.cells D t4)).cell? ⟨w.heap.size + 1 + 1 + 1, j, none⟩ = D[j]?)) ∧
    (∀ j, ((((w.alloc (.cells A t1)).alloc (.cells B t2)).alloc (.cells C t3)).alloc (.cells D t4)).frozen? ⟨w.heap.size + 1 + 1, j, none⟩ = false) := by
  have n (w : World) (c : Array Value) (t : TypeId) (b j : Nat) (hb : b = w.heap.size) : (w.alloc (.cells c t)).cell? ⟨b, j, none⟩ = c[j]? := by subst hb; exact World.cell?_alloc_new _ _ _ _
  have o (w : World) (c : Array Value) (t : TypeId) (b j : Nat) (hb : b < w.heap.size) : (w.alloc (.cells c t)).cell? ⟨b, j, none⟩ = w.cell? ⟨b, j, none⟩ := World.cell?_alloc_lt _ _ _ hb
  have fn (w : World) (c : Array Value) (t : TypeId) (b j : Nat) (hb : b = w.heap.size) : (w.alloc (.cells c t)).frozen? ⟨b, j, none⟩ = false := by subst hb; exact World.frozen?_alloc_new _ _ _ _
  have fo (w : World) (c : Array Value) (t : TypeId) (b j : Nat) (hb : b < w.heap.size) : (w.alloc (.cells c t)).frozen? ⟨b, j, none⟩ = w.frozen? ⟨b, j, none⟩ := World.frozen?_alloc_old _ _ _ (Nat.ne_of_lt hb)
  refine ⟨⟨fun j => ?_, fun j => ?_⟩, ⟨fun j => ?_, fun j => ?_⟩, fun j => ?_⟩
  · rw [o _ _ _ _ _ (by simp only [World.size_alloc]; omega), o _ _ _ _ _ (by simp only [World.size_alloc]; omega), o _ _ _ _ _ (by simp only [World.size_alloc]; omega), n _ _ _ _ _ rfl]
  · rw [o _ _ _ _ _ (by simp only [World.size_alloc]; omega), o _ _ _ _ _ (by simp only [World.size_alloc]; omega), n _ _ _ _ _ (by simp only [World.size_alloc])]
  · rw [o _ _ _ _ _ (by simp only [World.size_alloc]; omega), n _ _ _ _ _ (by simp only [World.size_alloc])]
  · rw [n _ _ _ _ _ (by simp only [World.size_alloc])]
  · rw [fo _ _ _ _ _ (by simp only [World.size_alloc]; omega), fn _ _ _ _ _ (by simp only [World.size_alloc])]
end Go.Proofs.YtnjgcjgfnjcgdaaDoor
