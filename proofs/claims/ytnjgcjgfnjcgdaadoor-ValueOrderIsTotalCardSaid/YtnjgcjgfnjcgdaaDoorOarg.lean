/-
  From the reading of ValueOrderIsTotal's argument (type 44) to the numbers and bools that it holds.
-/
import Derived.Test.YtnjgcjgfnjcgdaaDoorLord
import Derived.Test.YtnjgcjgfnjcgdaaDoorVat
namespace Go.Proofs.YtnjgcjgfnjcgdaaDoor
open Go.RowKit Go.ChangeShapes Go.WideShapes Go.ChangeAt
theorem cells44 : Tryd.prog.cellsOf 44 = 5 := by kernel_rfl
theorem cells4 : Tryd.prog.cellsOf 4 = 1 := by kernel_rfl
/-- What ValueOrderIsTotal is called with. -/
def OrderArg (x : Value) : Prop := ∃ (a b c : Int) (p q : Bool), x = .agg #[.int .i64 a, .int .i64 b, .int .i64 c, .bool p, .bool q]
theorem lawOrder_of (x : Value) (W : World) (hg : Good W) (h : OrderArg x) : Calls Tryd.prog 7 #[x] W fun e w' => e = .returned (.bool true) ∧ Below W.heap.size W w' := by
  obtain ⟨a, b, c, p, q, rfl⟩ := h
  exact lawOrder_any a b c p q W hg
theorem order_of_arg {H : Type} {enc : TypeId × Value → H} {W : World} {r : Reach} {b : Nat} {v : Value} {d : DataW H} {p : List MemPlace} (hv : Value.okWide Tryd.prog W r b 44 v)
    (h : DataW.Trod enc Tryd.prog W 0 (fun _ => true) true 44 v d p) : OrderArg v := by
  obtain ⟨cs, rfl, _⟩ := okWide_struct Tryd.underlying44 hv
  obtain ⟨fuel, hd⟩ := h
  obtain ⟨xs, n, rfl, hx, hl, hn, hel⟩ := DataW.trod_struct Tryd.underlying44 hd
  rw [cells44] at hl
  obtain ⟨c0, c1, c2, c3, c4, hc⟩ : ∃ c0 c1 c2 c3 c4, (Value.agg cs).cells.toList = [c0, c1, c2, c3, c4] := by
    match hq : (Value.agg cs).cells.toList, hl with
    | [c0, c1, c2, c3, c4], _ => exact ⟨c0, c1, c2, c3, c4, rfl⟩
  rw [hc] at hel
  obtain ⟨y0, y1, y2, y3, y4, rfl⟩ : ∃ y0 y1 y2 y3 y4, xs = [y0, y1, y2, y3, y4] := by
    match xs, hn with
    | [y0, y1, y2, y3, y4], _ => exact ⟨y0, y1, y2, y3, y4, rfl⟩
  have e0 : DataW.trod enc Tryd.prog W 0 (fun _ => true) true n 3 ((([c0, c1, c2, c3, c4] : List Value).drop 0).take (Tryd.prog.cellsOf 3)) = [y0, y1, y2, y3, y4][0]? := hel 0 _ rfl
  have e1 : DataW.trod enc Tryd.prog W 0 (fun _ => true) true n 3 ((([c0, c1, c2, c3, c4] : List Value).drop 1).take (Tryd.prog.cellsOf 3)) = [y0, y1, y2, y3, y4][1]? := hel 1 _ rfl
  have e2 : DataW.trod enc Tryd.prog W 0 (fun _ => true) true n 3 ((([c0, c1, c2, c3, c4] : List Value).drop 2).take (Tryd.prog.cellsOf 3)) = [y0, y1, y2, y3, y4][2]? := hel 2 _ rfl
  have e3 : DataW.trod enc Tryd.prog W 0 (fun _ => true) true n 4 ((([c0, c1, c2, c3, c4] : List Value).drop 3).take (Tryd.prog.cellsOf 4)) = [y0, y1, y2, y3, y4][3]? := hel 3 _ rfl
  have e4 : DataW.trod enc Tryd.prog W 0 (fun _ => true) true n 4 ((([c0, c1, c2, c3, c4] : List Value).drop 4).take (Tryd.prog.cellsOf 4)) = [y0, y1, y2, y3, y4][4]? := hel 4 _ rfl
  rw [cells3] at e0 e1 e2
  rw [cells4] at e3 e4
  simp only [List.drop_zero, List.take_succ_cons, List.take_zero, List.getElem?_cons_zero, List.getElem?_cons_succ, List.drop_succ_cons] at e0 e1 e2 e3 e4
  obtain ⟨a, h0, _, _⟩ := DataW.trod_int Tryd.underlying3 e0
  obtain ⟨b, h1, _, _⟩ := DataW.trod_int Tryd.underlying3 e1
  obtain ⟨c, h2, _, _⟩ := DataW.trod_int Tryd.underlying3 e2
  obtain ⟨p, h3, _⟩ := DataW.trod_bool Tryd.underlying4 e3
  obtain ⟨q, h4, _⟩ := DataW.trod_bool Tryd.underlying4 e4
  simp only [List.cons.injEq, and_true] at h0 h1 h2 h3 h4
  subst h0 h1 h2 h3 h4
  refine ⟨a, b, c, p, q, ?_⟩
  congr 1
  apply Array.toList_inj.1
  simpa [Value.cells] using hc
end Go.Proofs.YtnjgcjgfnjcgdaaDoor
