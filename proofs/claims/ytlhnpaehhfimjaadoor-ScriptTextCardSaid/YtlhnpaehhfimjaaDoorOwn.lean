/-
  Rows of picks that a call itself makes by append, and what they read as.
-/
import Derived.Test.YtlhnpaehhfimjaaDoorSame
import Derived.Maps.OwnOps
namespace Go.Proofs.YtlhnpaehhfimjaaDoor
open Go.RowKit
theorem below_grown {w w' : World} (h : Below w.heap.size w w') (r : Option Nat) : w.grownBy w' r := ⟨h.os, h.tape, h.output, h.size, fun k hk _ => h.block k hk⟩
theorem owns_below {w w' : World} {base : Nat} {e : TypeId} {size : Nat} {v : Value} {n : Nat} {xs : List Value} (h : w.ownsRow base e size v n xs) (hb : Below w.heap.size w w') : w'.ownsRow base e size v n xs :=
  h.kept (below_grown hb none) (by cases hv : v.ownBlock <;> simp)
theorem map_below {w w' : World} {k : TypeId} {R : Value → Option (DataW Unit × List MemPlace)} {b n : Nat} {D : DataW Unit} (h : w.ownsMap Tryd.prog k R b n D) (hb : Below w.heap.size w w') : w'.ownsMap Tryd.prog k R b n D :=
  h.kept (below_grown hb none) (by simp)
/-- The cells xs read as the picks l, their cuts lying in w. -/
def RowOf (w : World) (l : List Pick) (xs : List Value) : Prop :=
  xs.length = l.length * 4 ∧ ∀ i p, l[i]? = some p → ∃ c cap, xs[i * 4]? = some (.int .i64 p.k) ∧ xs[i * 4 + 1]? = some (.int .i64 p.a) ∧ xs[i * 4 + 2]? = some (.int .i64 p.b) ∧ xs[i * 4 + 3]? = some (.slice c p.c.length cap) ∧
    PAt w (.agg #[.int .i64 p.k, .int .i64 p.a, .int .i64 p.b, .slice c p.c.length cap]) p
theorem RowOf.below {w w' : World} {l : List Pick} {xs : List Value} (h : RowOf w l xs) (hb : Below w.heap.size w w') : RowOf w' l xs :=
  ⟨h.1, fun i p hi => by obtain ⟨c, cap, h0, h1, h2, h3, h4⟩ := h.2 i p hi; exact ⟨c, cap, h0, h1, h2, h3, h4.below hb⟩⟩
theorem RowOf.nil (w : World) : RowOf w [] [] := ⟨rfl, fun i p h => by simp at h⟩
theorem RowOf.snoc {w : World} {l : List Pick} {xs : List Value} {p : Pick} {c : Option Addr} {cap : Nat} (h : RowOf w l xs) (hp : PAt w (.agg #[.int .i64 p.k, .int .i64 p.a, .int .i64 p.b, .slice c p.c.length cap]) p) :
    RowOf w (l ++ [p]) (xs ++ [.int .i64 p.k, .int .i64 p.a, .int .i64 p.b, .slice c p.c.length cap]) := by
  refine ⟨by simp [h.1]; omega, fun i q hi => ?_⟩
  by_cases hlt : i < l.length
  · rw [List.getElem?_append_left hlt] at hi
    obtain ⟨c', cap', h0, h1, h2, h3, h4⟩ := h.2 i q hi
    have hx := h.1
    exact ⟨c', cap', by rw [List.getElem?_append_left (by omega)]; exact h0, by rw [List.getElem?_append_left (by omega)]; exact h1, by rw [List.getElem?_append_left (by omega)]; exact h2, by rw [List.getElem?_append_left (by omega)]; exact h3, h4⟩
  · have hi2 := lt_of_get hi
    simp only [List.length_append, List.length_cons, List.length_nil] at hi2
    have : i = l.length := by omega
    subst this
    rw [List.getElem?_append_right (by omega), Nat.sub_self] at hi
    simp only [List.getElem?_cons_zero, Option.some.injEq] at hi
    subst hi
    have hx := h.1
    refine ⟨c, cap, ?_, ?_, ?_, ?_, hp⟩
    · rw [List.getElem?_append_right (by omega), show l.length * 4 - xs.length = 0 by omega]; rfl
    · rw [List.getElem?_append_right (by omega), show l.length * 4 + 1 - xs.length = 1 by omega]; rfl
    · rw [List.getElem?_append_right (by omega), show l.length * 4 + 2 - xs.length = 2 by omega]; rfl
    · rw [List.getElem?_append_right (by omega), show l.length * 4 + 3 - xs.length = 3 by omega]; rfl
/-- A row of the call's own reads as the script. -/
theorem lat_of_owns {w : World} {base : Nat} {v : Value} {l : List Pick} {xs : List Value} (h : w.ownsRow base 25 4 v l.length xs) (hr : RowOf w l xs) : LAt w v l := by
  rcases h.2 with ⟨rfl, hn⟩ | ⟨g, cap, cur, rfl, hb, hg, hnc, hcm, hs, ht⟩
  · have : l = [] := List.length_eq_zero_iff.1 hn
    subst this
    exact ⟨none, 0, rfl, Nat.le_refl _, by simp [huge], fun i p hi => by simp at hi⟩
  · refine ⟨some ⟨g, 0, none⟩, cap, rfl, hnc, by unfold huge; unfold maxLen at hcm; exact hcm, fun i p hi => ?_⟩
    obtain ⟨c, ccap, h0, h1, h2, h3, h4⟩ := hr.2 i p hi
    have hlt := lt_of_get hi
    have hc : ∀ j u, xs[j]? = some u → w.cell? ⟨g, 0 + j, none⟩ = some u := fun j u hu => by
      rw [Nat.zero_add]
      have := h.cells (g := g) rfl j u hu
      have hadd : (⟨g, 0, none⟩ : Addr).add j = ⟨g, j, none⟩ := by unfold Addr.add; split <;> simp_all
      rw [hadd] at this
      exact this
    exact ⟨g, 0, _, c, ccap, rfl, rfl, hc _ _ h0, hc _ _ h1, hc _ _ h2, hc _ _ h3, h4⟩
theorem pick_parts {w : World} {x : Value} {p : Pick} (h : PAt w x p) : ∃ a cap, x = .agg #[.int .i64 p.k, .int .i64 p.a, .int .i64 p.b, .slice a p.c.length cap] := by
  obtain ⟨a, cap, hx, _⟩ := h
  exact ⟨a, cap, hx⟩
theorem info25 : (Tryd.prog.info? 25).map (fun i => (i.zero, i.size, i.bytes)) = some (some (.agg #[.int .i64 0, .int .i64 0, .int .i64 0, .slice none 0 0]), 4, 48) := by kernel_rfl
/-- The four cells of a new block. -/
theorem four_new {w : World} {a b c d : Value} {t : TypeId} {N : Nat} (hN : w.heap.size = N) : ∀ j u, [a, b, c, d][j]? = some u → (w.alloc (.cells #[a, b, c, d] t)).cell? ((⟨N, 0, none⟩ : Addr).add j) = some u := by
  subst hN
  intro j u hu
  have hadd : (⟨w.heap.size, 0, none⟩ : Addr).add j = ⟨w.heap.size, j, none⟩ := by unfold Addr.add; split <;> simp_all
  rw [hadd, World.cell?_alloc_new]
  simpa using hu
theorem box_later {w w1 : World} {c : Array Value} {t : TypeId} {B : Nat} (hb : Below B (w.alloc (.cells c t)) w1) (hB : w.heap.size < B) :
    (∀ (j : Nat) (v : Value), c[j]? = some v → w1.cell? ⟨w.heap.size, j, none⟩ = some v) ∧ (∀ j, w1.frozen? ⟨w.heap.size, j, none⟩ = false) :=
  ⟨fun j v h => by rw [hb.cell (by simpa using hB), World.cell?_alloc_new, h], fun j => by rw [hb.frozen (by simpa using hB)]; simp⟩
/-- What a map of the call's own answers. -/
def MapIs (D : DataW Unit) (u : Int → Int) : Prop := Maps.IsMap D ∧ ∀ t, D.atKey (.int .i64 t) (.lit (.int .i64 0)) = .lit (.int .i64 (u t))
theorem MapIs.nil : MapIs (.map []) (fun _ => 0) := ⟨⟨_, rfl⟩, fun _ => rfl⟩
theorem MapIs.put {D : DataW Unit} {u : Int → Int} (h : MapIs D u) (k n : Int) : MapIs (D.put (.int .i64 k) (.lit (.int .i64 n))) (fun t => if t = k then n else u t) := by
  refine ⟨h.1.put _ _, fun t => ?_⟩
  by_cases e : t = k
  · subst e
    rw [Maps.atKey_put_same h.1 (by trivial)]
    simp
  · rw [Maps.atKey_put_other (by intro c; injection c with _ c2; exact e c2), h.2 t]
    simp [e]
theorem MapIs.get {D : DataW Unit} {u : Int → Int} (h : MapIs D u) {t c : Int} (hc : D.atKey (.int .i64 t) (.lit (.int .i64 0)) = .lit (.int .i64 c)) : c = u t := by
  rw [h.2 t] at hc
  simpa using hc.symm
theorem grown_below {B : Nat} {w w' w1 : World} {v : Value} {base : Nat} {e : TypeId} {size n : Nat} {xs : List Value} (h : Below B w w') (hg : w'.grownBy w1 v.ownBlock) (ho : w'.ownsRow base e size v n xs) (hB : B ≤ base) (hs : B ≤ w'.heap.size) : Below B w w1 :=
  h.grown hg hs (fun k hk => Nat.le_trans hB (ho.lt k hk).1)
end Go.Proofs.YtlhnpaehhfimjaaDoor
