/-
  From the reading of ValueStaysValid's argument (type 49) to the numbers and trees that it holds.
-/
import Derived.Test.YtnjgcjgfnjcgdaaDoorLstay
import Derived.Test.YtnjgcjgfnjcgdaaDoorVat
namespace Go.Proofs.YtnjgcjgfnjcgdaaDoor
open Go.RowKit Go.ChangeShapes Go.WideShapes Go.ChangeAt
theorem cells49 : Tryd.prog.cellsOf 49 = 10 := by kernel_rfl
/-- What ValueStaysValid is called with. -/
def StayArg (W : World) (e1 e2 : Nat) (x : Value) : Prop := ∃ (op i k n m k' n' m' : Int) (a a' : Option Addr) (cap cap' : Nat) (of of' : List V),
  x = .agg #[.int .i64 op, .int .i64 k, .int .i64 n, .int .i64 m, .slice a of.length cap, .int .i64 k', .int .i64 n', .int .i64 m', .slice a' of'.length cap', .int .i64 i] ∧
  VAt W e1 (.agg #[.int .i64 k, .int .i64 n, .int .i64 m, .slice a of.length cap]) (.mk k n m of) ∧ VAt W e2 (.agg #[.int .i64 k', .int .i64 n', .int .i64 m', .slice a' of'.length cap']) (.mk k' n' m' of')
theorem lawStay_of (e1 e2 : Nat) (x : Value) (W : World) (hg : Good W) (h : StayArg W e1 e2 x) : Calls Tryd.prog 9 #[x] W fun e w' => e = .returned (.bool true) ∧ Below W.heap.size W w' := by
  obtain ⟨op, i, k, n, m, k', n', m', a, a', cap, cap', of, of', rfl, hv, hu⟩ := h
  exact lawStay_any op i k n m k' n' m' a a' cap cap' of of' e1 e2 W hg hv hu
theorem stay_of_arg {H : Type} {enc : TypeId × Value → H} {W : World} {r : Reach} {b : Nat} {v : Value} {d : DataW H} {p : List MemPlace} (hv : Value.okWide Tryd.prog W r b 49 v)
    (h : DataW.Trod enc Tryd.prog W 0 (fun _ => true) true 49 v d p) (hz : ∀ n ∈ d.weights Tryd.prog 49, n ≤ reachBytes) : ∃ e1 e2, StayArg W e1 e2 v := by
  obtain ⟨cs, rfl, _⟩ := okWide_struct Tryd.underlying49 hv
  obtain ⟨fuel, hd⟩ := h
  obtain ⟨xs, n, rfl, hx, hl, hn, hel⟩ := DataW.trod_struct Tryd.underlying49 hd
  rw [cells49] at hl
  obtain ⟨c0, c1, c2, c3, c4, c5, c6, c7, c8, c9, hc⟩ : ∃ c0 c1 c2 c3 c4 c5 c6 c7 c8 c9, (Value.agg cs).cells.toList = [c0, c1, c2, c3, c4, c5, c6, c7, c8, c9] := by
    match hq : (Value.agg cs).cells.toList, hl with
    | [c0, c1, c2, c3, c4, c5, c6, c7, c8, c9], _ => exact ⟨c0, c1, c2, c3, c4, c5, c6, c7, c8, c9, rfl⟩
  rw [hc] at hel
  obtain ⟨y0, y1, y2, y3, rfl⟩ : ∃ y0 y1 y2 y3, xs = [y0, y1, y2, y3] := by
    match xs, hn with
    | [y0, y1, y2, y3], _ => exact ⟨y0, y1, y2, y3, rfl⟩
  have e0 : DataW.trod enc Tryd.prog W 0 (fun _ => true) true n 3 ((([c0, c1, c2, c3, c4, c5, c6, c7, c8, c9] : List Value).drop 0).take (Tryd.prog.cellsOf 3)) = [y0, y1, y2, y3][0]? := hel 0 _ rfl
  have e1 : DataW.trod enc Tryd.prog W 0 (fun _ => true) true n 24 ((([c0, c1, c2, c3, c4, c5, c6, c7, c8, c9] : List Value).drop 1).take (Tryd.prog.cellsOf 24)) = [y0, y1, y2, y3][1]? := hel 1 _ rfl
  have e2 : DataW.trod enc Tryd.prog W 0 (fun _ => true) true n 24 ((([c0, c1, c2, c3, c4, c5, c6, c7, c8, c9] : List Value).drop 5).take (Tryd.prog.cellsOf 24)) = [y0, y1, y2, y3][2]? := hel 2 _ rfl
  have e3 : DataW.trod enc Tryd.prog W 0 (fun _ => true) true n 3 ((([c0, c1, c2, c3, c4, c5, c6, c7, c8, c9] : List Value).drop 9).take (Tryd.prog.cellsOf 3)) = [y0, y1, y2, y3][3]? := hel 3 _ rfl
  rw [cells3] at e0 e3
  rw [cells24] at e1 e2
  simp only [List.drop_zero, List.take_succ_cons, List.take_zero, List.getElem?_cons_zero, List.getElem?_cons_succ, List.drop_succ_cons] at e0 e1 e2 e3
  obtain ⟨op, hc0, _, _⟩ := DataW.trod_int Tryd.underlying3 e0
  obtain ⟨i, hc9, _, _⟩ := DataW.trod_int Tryd.underlying3 e3
  have hd0 : d = .agg [y0.1, y1.1, y2.1, y3.1] := by simpa using congrArg Prod.fst hx
  have hz1 : ∀ n ∈ y1.1.weights Tryd.prog 24, n ≤ reachBytes := fun n hn => hz n (by
    rw [hd0]
    simp only [DataW.weights, Tryd.underlying49]
    exact DataW.weights_mem_each (j := 1) rfl rfl n hn)
  have hz2 : ∀ n ∈ y2.1.weights Tryd.prog 24, n ≤ reachBytes := fun n hn => hz n (by
    rw [hd0]
    simp only [DataW.weights, Tryd.underlying49]
    exact DataW.weights_mem_each (j := 2) rfl rfl n hn)
  obtain ⟨_, _, _, _, u1, g1, hu1⟩ := vat_of_trod _ _ _ _ e1 hz1
  obtain ⟨_, _, _, _, u2, g2, hu2⟩ := vat_of_trod _ _ _ _ e2 hz2
  simp only [List.cons.injEq, and_true] at g1 g2 hc0 hc9
  obtain ⟨rfl, rfl, rfl, rfl⟩ := g1
  obtain ⟨rfl, rfl, rfl, rfl⟩ := g2
  obtain ⟨k, q, m, of⟩ := u1
  obtain ⟨k', q', m', of'⟩ := u2
  obtain ⟨_, a, cap, _, hx1, _⟩ := hu1.op
  obtain ⟨_, a', cap', _, hx2, _⟩ := hu2.op
  refine ⟨n, n, op, i, k, q, m, k', q', m', a, a', cap, cap', of, of', ?_, hx1 ▸ hu1, hx2 ▸ hu2⟩
  have p1 : [c1, c2, c3, c4] = [.int .i64 k, .int .i64 q, .int .i64 m, .slice a of.length cap] := congrArg Array.toList (Value.agg.inj hx1)
  have p2 : [c5, c6, c7, c8] = [.int .i64 k', .int .i64 q', .int .i64 m', .slice a' of'.length cap'] := congrArg Array.toList (Value.agg.inj hx2)
  simp only [List.cons.injEq, and_true] at p1 p2
  obtain ⟨rfl, rfl, rfl, rfl⟩ := p1
  obtain ⟨rfl, rfl, rfl, rfl⟩ := p2
  subst hc0 hc9
  congr 1
  apply Array.toList_inj.1
  simpa [Value.cells] using hc
end Go.Proofs.YtnjgcjgfnjcgdaaDoor
