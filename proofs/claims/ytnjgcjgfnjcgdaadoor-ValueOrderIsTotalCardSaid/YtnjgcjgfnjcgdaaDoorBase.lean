/-
  The values of the program as trees, how they lie in memory, and what 'count' returns.
-/
import Derived.Test.YtnjgcjgfnjcgdaaDoorRows
import Derived.WalkKit
import Derived.WalkSpells
import Derived.WalkLawsBesides
import Derived.Lib.Hide
namespace Go.Proofs.YtnjgcjgfnjcgdaaDoor
open Go.RowKit

/-- A value of the program's, as a tree. -/
inductive V where
  | mk (k n m : Int) (of : List V)

def I64 (n : Int) : Prop := -9223372036854775808 ≤ n ∧ n ≤ 9223372036854775807

/-- In world w the value x reads as the tree v, at most d deep. -/
def VAt (w : World) : Nat → Value → V → Prop
  | 0, _, _ => False
  | d + 1, x, .mk k n m of => ∃ a len cap, x = .agg #[.int .i64 k, .int .i64 n, .int .i64 m, .slice a len cap] ∧ I64 k ∧ I64 n ∧ I64 m ∧ len = of.length ∧ len ≤ 4611686018427387904 ∧
      ∀ i v, of[i]? = some v → ∃ b off c0 c1 c2 c3, a = some ⟨b, off, none⟩ ∧ w.cell? ⟨b, off + i * 4, none⟩ = some c0 ∧ w.cell? ⟨b, off + i * 4 + 1, none⟩ = some c1 ∧
        w.cell? ⟨b, off + i * 4 + 2, none⟩ = some c2 ∧ w.cell? ⟨b, off + i * 4 + 3, none⟩ = some c3 ∧ VAt w d (.agg #[c0, c1, c2, c3]) v

theorem VAt.below {w w' : World} (hb : Below w.heap.size w w') : ∀ {d x v}, VAt w d x v → VAt w' d x v := by
  intro d
  induction d with
  | zero => intro x v h; exact h.elim
  | succ d ih =>
    intro x v h
    obtain ⟨k, n, m, of⟩ := v
    obtain ⟨a, len, cap, hx, hk, hn, hm, hl, hl2, he⟩ := h
    refine ⟨a, len, cap, hx, hk, hn, hm, hl, hl2, fun i v hi => ?_⟩
    obtain ⟨b, off, c0, c1, c2, c3, ha, h0, h1, h2, h3, hv⟩ := he i v hi
    exact ⟨b, off, c0, c1, c2, c3, ha, (hb.cell (World.block_lt_of_cell? _ _ h0)).trans h0, (hb.cell (World.block_lt_of_cell? _ _ h1)).trans h1,
      (hb.cell (World.block_lt_of_cell? _ _ h2)).trans h2, (hb.cell (World.block_lt_of_cell? _ _ h3)).trans h3, ih hv⟩

/-- The elements of a slice at a read as the trees 'of', each at most d deep. -/
def ElAt (w : World) (d : Nat) (a : Option Addr) (of : List V) : Prop :=
  ∀ i v, of[i]? = some v → ∃ b off c0 c1 c2 c3, a = some ⟨b, off, none⟩ ∧ w.cell? ⟨b, off + i * 4, none⟩ = some c0 ∧ w.cell? ⟨b, off + i * 4 + 1, none⟩ = some c1 ∧
        w.cell? ⟨b, off + i * 4 + 2, none⟩ = some c2 ∧ w.cell? ⟨b, off + i * 4 + 3, none⟩ = some c3 ∧ VAt w d (.agg #[c0, c1, c2, c3]) v
theorem ElAt.below {w w' : World} (hb : Below w.heap.size w w') {d a of} (h : ElAt w d a of) : ElAt w' d a of := fun i v hi => by
  obtain ⟨b, off, c0, c1, c2, c3, ha, h0, h1, h2, h3, hv⟩ := h i v hi
  exact ⟨b, off, c0, c1, c2, c3, ha, (hb.cell (World.block_lt_of_cell? _ _ h0)).trans h0, (hb.cell (World.block_lt_of_cell? _ _ h1)).trans h1,
      (hb.cell (World.block_lt_of_cell? _ _ h2)).trans h2, (hb.cell (World.block_lt_of_cell? _ _ h3)).trans h3, hv.below hb⟩
theorem VAt.op {w : World} {d x k n m of} (h : VAt w d x (.mk k n m of)) : ∃ d' a cap, d = d' + 1 ∧ x = .agg #[.int .i64 k, .int .i64 n, .int .i64 m, .slice a of.length cap] ∧ I64 k ∧ I64 n ∧ I64 m ∧
    of.length ≤ 4611686018427387904 ∧ ElAt w d' a of := by
  cases d with
  | zero => exact h.elim
  | succ d =>
    obtain ⟨a, len, cap, hx, hk, hn, hm, hl, hl2, he⟩ := h
    exact ⟨d, a, cap, rfl, by rw [hx, hl], hk, hn, hm, by omega, he⟩
theorem VAt.mk' {w : World} {d a cap k n m of} (hk : I64 k) (hn : I64 n) (hm : I64 m) (hl : of.length ≤ 4611686018427387904) (he : ElAt w d a of) :
    VAt w (d + 1) (.agg #[.int .i64 k, .int .i64 n, .int .i64 m, .slice a of.length cap]) (.mk k n m of) :=
  ⟨a, of.length, cap, rfl, hk, hn, hm, rfl, hl, he⟩
/-- One element, its cells written out. -/
theorem ElAt.get {w : World} {d a of} (h : ElAt w d a of) {j : Nat} {v : V} (hj : of[j]? = some v) : ∃ b off k n m of' a' cap', v = .mk k n m of' ∧ a = some ⟨b, off, none⟩ ∧
    w.cell? ⟨b, off + j * 4, none⟩ = some (.int .i64 k) ∧ w.cell? ⟨b, off + j * 4 + 1, none⟩ = some (.int .i64 n) ∧ w.cell? ⟨b, off + j * 4 + 2, none⟩ = some (.int .i64 m) ∧
    w.cell? ⟨b, off + j * 4 + 3, none⟩ = some (.slice a' of'.length cap') ∧ VAt w d (.agg #[.int .i64 k, .int .i64 n, .int .i64 m, .slice a' of'.length cap']) v := by
  obtain ⟨b, off, c0, c1, c2, c3, ha, h0, h1, h2, h3, hv⟩ := h j v hj
  obtain ⟨k, n, m, of'⟩ := v
  obtain ⟨d', a', cap', _, hx, _⟩ := hv.op
  simp only [Value.agg.injEq] at hx
  have e0 : c0 = .int .i64 k := Option.some.inj (congrArg (fun s : Array Value => s[0]?) hx)
  have e1 : c1 = .int .i64 n := Option.some.inj (congrArg (fun s : Array Value => s[1]?) hx)
  have e2 : c2 = .int .i64 m := Option.some.inj (congrArg (fun s : Array Value => s[2]?) hx)
  have e3 : c3 = .slice a' of'.length cap' := Option.some.inj (congrArg (fun s : Array Value => s[3]?) hx)
  subst e0 e1 e2 e3
  exact ⟨b, off, k, n, m, of', a', cap', rfl, ha, h0, h1, h2, h3, hv⟩
theorem get_of_lt {of : List V} {j : Nat} (h : j < of.length) : ∃ v, of[j]? = some v := ⟨of[j], by simp [h]⟩

theorem VAt.up {w : World} {d x v} (h : VAt w d x v) : VAt w (d + 1) x v := by
  induction d generalizing x v with
  | zero => exact h.elim
  | succ d ih =>
    obtain ⟨k, n, m, of⟩ := v
    obtain ⟨a, len, cap, hx, hk, hn, hm, hl, hl2, he⟩ := h
    refine ⟨a, len, cap, hx, hk, hn, hm, hl, hl2, fun i v hi => ?_⟩
    obtain ⟨b, off, c0, c1, c2, c3, ha, h0, h1, h2, h3, hv⟩ := he i v hi
    exact ⟨b, off, c0, c1, c2, c3, ha, h0, h1, h2, h3, ih hv⟩

theorem ret_int {k : IntKind} {a b : Int} (h : a = b) : Ending.returned (.int k a) = .returned (.int k b) := by rw [h]

def cntList (f : V → Int) (most : Int) : List V → Int → Int
  | [], n => n
  | x :: xs, n => if n ≤ most then cntList f most xs (n + f x) else n
def cnt (most : Int) : Nat → V → Int
  | 0, _ => most + 1
  | l + 1, .mk _ _ _ of => cntList (cnt most l) most of 1

theorem cntList_bd (f : V → Int) (B : Int) (h : ∀ x, 0 ≤ f x ∧ f x ≤ B) (hB : 0 ≤ B) : ∀ (l : List V) (n : Int), 0 ≤ n → n ≤ 60 + B → 0 ≤ cntList f 60 l n ∧ cntList f 60 l n ≤ 60 + B
  | [], n, h0, h1 => ⟨h0, h1⟩
  | x :: xs, n, h0, h1 => by
    unfold cntList
    have := h x
    split
    · exact cntList_bd f B h hB xs _ (by omega) (by omega)
    · exact ⟨h0, h1⟩
theorem cnt_bd (l : Nat) (v : V) : 0 ≤ cnt 60 l v ∧ cnt 60 l v ≤ 61 + 60 * l := by
  induction l generalizing v with
  | zero => simp [cnt]
  | succ l ih =>
    obtain ⟨k, n, m, of⟩ := v
    have := cntList_bd (cnt 60 l) (61 + 60 * l) (fun x => by have := ih x; omega) (by omega) of 1 (by omega) (by omega)
    unfold cnt
    omega
theorem cntList_drop (f : V → Int) (l : List V) (i : Nat) (n : Int) (v : V) (hi : l[i]? = some v) : cntList f 60 (l.drop i) n = if n ≤ 60 then cntList f 60 (l.drop (i + 1)) (n + f v) else n := by
  have hlt : i < l.length := (List.getElem?_eq_some_iff.1 hi).1
  have : l[i] = v := (List.getElem?_eq_some_iff.1 hi).2
  rw [List.drop_eq_getElem_cons hlt, this, cntList]

theorem bcell {W w1 : World} (hb : Below W.heap.size W w1) : (∀ b o, b < W.heap.size → w1.cell? ⟨b, o, none⟩ = W.cell? ⟨b, o, none⟩) ∧ (∀ b o, b < W.heap.size → w1.frozen? ⟨b, o, none⟩ = W.frozen? ⟨b, o, none⟩) :=
  ⟨fun b o h => hb.cell (p := ⟨b, o, none⟩) h, fun b o h => hb.frozen (p := ⟨b, o, none⟩) h⟩
end Go.Proofs.YtnjgcjgfnjcgdaaDoor
