/-
  From the reading of an argument (type 24) to the tree that it is.
-/
import Derived.Test.YtnjgcjgfnjcgdaaDoorOpen
import Derived.SizedLaws
import Derived.DataReads
import Derived.Carry
import Derived.ReadAgain
namespace Go.Proofs.YtnjgcjgfnjcgdaaDoor
open Go.RowKit Go.ChangeShapes Go.WideShapes Go.ChangeAt

theorem cells24 : Tryd.prog.cellsOf 24 = 4 := by kernel_rfl
theorem cells22 : Tryd.prog.cellsOf 22 = 1 := by kernel_rfl
theorem bytes24 : Tryd.prog.bytesOf 24 = 48 := by kernel_rfl
theorem laidOut : laidOutB Tryd.prog = true := by kernel_rfl
theorem weightsAll_at {H : Type} {P : Program} {e : TypeId} : ∀ {l : List (DataW H)} {i : Nat} {d : DataW H}, l[i]? = some d → ∀ n ∈ d.weights P e, n ∈ DataW.weightsAll P e l
  | [], _, _, h, _, _ => by simp at h
  | x :: r, 0, d, h, n, hn => by
    simp only [List.getElem?_cons_zero, Option.some.injEq] at h
    subst h
    simp only [DataW.weightsAll, List.mem_append]
    exact Or.inl hn
  | x :: r, i + 1, d, h, n, hn => by
    simp only [List.getElem?_cons_succ] at h
    simp only [DataW.weightsAll, List.mem_append]
    exact Or.inr (weightsAll_at h n hn)

/-- Four cells in a row. -/
theorem cells_four {W : World} {a : Addr} {cs : List Value} (h : W.cells? 0 a 4 = some cs) : ∃ c0 c1 c2 c3, cs = [c0, c1, c2, c3] ∧ W.cell? (a.add 0) = some c0 ∧ W.cell? (a.add 1) = some c1 ∧ W.cell? (a.add 2) = some c2 ∧ W.cell? (a.add 3) = some c3 := by
  unfold World.cells? at h
  rw [if_pos (Nat.zero_le _)] at h
  simp only [List.range_succ, List.range_zero, List.nil_append, List.cons_append, List.mapM_cons, List.mapM_nil, Option.bind_eq_bind, Option.bind_eq_some_iff, Option.pure_def, Option.some.injEq] at h
  obtain ⟨c0, h0, c1, ⟨c1', h1, c2, ⟨c2', h2, c3, ⟨c3', h3, c4, rfl, rfl⟩, rfl⟩, rfl⟩, rfl⟩ := h
  exact ⟨c0, c1', c2', c3', rfl, h0, h1, h2, h3⟩

theorem add_none (b off j : Nat) : (⟨b, off, none⟩ : Addr).add j = ⟨b, off + j, none⟩ := by
  unfold Addr.add
  split
  · rename_i h; subst h; rfl
  · rfl
theorem VAt.cast {W : World} {d n : Nat} {kk nn mm : Int} {a : Option Addr} {cap : Nat} {of : List V} (h : VAt W (d + 1) (.agg #[.int .i64 kk, .int .i64 nn, .int .i64 mm, .slice a of.length cap]) (.mk kk nn mm of)) (hl : of.length = n) :
    VAt W (d + 1 + 1) (.agg #[.int .i64 kk, .int .i64 nn, .int .i64 mm, .slice a n cap]) (.mk kk nn mm of) := by
  subst hl
  exact h.up
theorem vat_of_trod {H : Type} {enc : TypeId × Value → H} {W : World} {sp : Nat → Bool} {held : Bool} : ∀ (fuel : Nat) (cs : List Value) (d : DataW H) (p : List MemPlace),
    DataW.trod enc Tryd.prog W 0 sp held fuel 24 cs = some (d, p) → (∀ n ∈ d.weights Tryd.prog 24, n ≤ reachBytes) → ∃ c0 c1 c2 c3 v, cs = [c0, c1, c2, c3] ∧ VAt W fuel (.agg #[c0, c1, c2, c3]) v := by
  intro fuel
  induction fuel using Nat.strongRecOn with
  | ind fuel ih =>
    intro cs d p h hz
    obtain ⟨xs, n, rfl, hx, hl, hn, hel⟩ := DataW.trod_struct Tryd.underlying24 h
    rw [cells24] at hl
    obtain ⟨c0, c1, c2, c3, rfl⟩ : ∃ c0 c1 c2 c3, cs = [c0, c1, c2, c3] := by
      match cs, hl with
      | [c0, c1, c2, c3], _ => exact ⟨c0, c1, c2, c3, rfl⟩
    obtain ⟨y0, y1, y2, y3, rfl⟩ : ∃ y0 y1 y2 y3, xs = [y0, y1, y2, y3] := by
      match xs, hn with
      | [y0, y1, y2, y3], _ => exact ⟨y0, y1, y2, y3, rfl⟩
    have e0 : DataW.trod enc Tryd.prog W 0 sp held n 3 ((([c0, c1, c2, c3] : List Value).drop 0).take (Tryd.prog.cellsOf 3)) = [y0, y1, y2, y3][0]? := hel 0 _ rfl
    have e1 : DataW.trod enc Tryd.prog W 0 sp held n 3 ((([c0, c1, c2, c3] : List Value).drop 1).take (Tryd.prog.cellsOf 3)) = [y0, y1, y2, y3][1]? := hel 1 _ rfl
    have e2 : DataW.trod enc Tryd.prog W 0 sp held n 3 ((([c0, c1, c2, c3] : List Value).drop 2).take (Tryd.prog.cellsOf 3)) = [y0, y1, y2, y3][2]? := hel 2 _ rfl
    have e3 : DataW.trod enc Tryd.prog W 0 sp held n 22 ((([c0, c1, c2, c3] : List Value).drop 3).take (Tryd.prog.cellsOf 22)) = [y0, y1, y2, y3][3]? := hel 3 _ rfl
    rw [cells3] at e0 e1 e2
    rw [cells22] at e3
    simp only [List.drop_zero, List.take_succ_cons, List.take_zero, List.getElem?_cons_zero, List.getElem?_cons_succ, List.drop_succ_cons] at e0 e1 e2 e3
    obtain ⟨k, hc0, _, w0⟩ := DataW.trod_int Tryd.underlying3 e0
    obtain ⟨m, hc1, _, w1⟩ := DataW.trod_int Tryd.underlying3 e1
    obtain ⟨o, hc2, _, w2⟩ := DataW.trod_int Tryd.underlying3 e2
    simp only [List.cons.injEq, and_true] at hc0 hc1 hc2
    subst hc0 hc1 hc2
    simp only [Prod.mk.injEq, List.map_cons, List.map_nil] at hx
    obtain ⟨hx, _⟩ := hx
    subst hx
    have hz3 : ∀ n ∈ y3.1.weights Tryd.prog 22, n ≤ reachBytes := fun n hn => hz n (by
      show n ∈ DataW.weights Tryd.prog 24 (.agg [y0.1, y1.1, y2.1, y3.1])
      simp only [DataW.weights, Tryd.underlying24]
      exact DataW.weights_mem_each (j := 3) rfl rfl n hn)
    rcases DataW.trod_slice Tryd.underlying22 e3 with ⟨hc3, _⟩ | ⟨a, len, cap, elems, rest, n', rfl, hc3, hy3, _, _, _, hlen, hE, _⟩
    · simp only [List.cons.injEq, and_true] at hc3
      subst hc3
      exact ⟨_, _, _, _, .mk k m o [], rfl, VAt.mk' (of := []) (bounds_i64 w0) (bounds_i64 w1) (bounds_i64 w2) (Nat.zero_le _) (fun i v hi => by simp at hi)⟩
    · simp only [List.cons.injEq, and_true] at hc3
      subst hc3
      subst hy3
      have hz4 : (elems.length + rest.length) * 48 ≤ reachBytes := hz3 _ (by simp [DataW.weights, Tryd.underlying22, bytes24])
      have hr : reachBytes = 140737488351232 := rfl
      rw [cells24] at hE
      have each : ∀ i, i < len → ∃ c0 c1 c2 c3 v, W.cell? ((a.add (i * 4)).add 0) = some c0 ∧ W.cell? ((a.add (i * 4)).add 1) = some c1 ∧ W.cell? ((a.add (i * 4)).add 2) = some c2 ∧ W.cell? ((a.add (i * 4)).add 3) = some c3 ∧ VAt W n' (.agg #[c0, c1, c2, c3]) v := by
        intro i hi
        have hEi := hE i hi
        have : i < elems.length := by omega
        rw [List.getElem?_eq_getElem this] at hEi
        obtain ⟨cs', hcs, ht⟩ := Option.bind_eq_some_iff.1 hEi
        obtain ⟨b0, b1, b2, b3, rfl, g0, g1, g2, g3⟩ := cells_four hcs
        have hw : ∀ n ∈ (elems[i]).1.weights Tryd.prog 24, n ≤ reachBytes := fun n hn => hz3 n (by
          simp only [DataW.weights, Tryd.underlying22, List.mem_cons, List.mem_append]
          exact Or.inr (Or.inl (weightsAll_at (i := i) (by simp [this]) n hn)))
        obtain ⟨b0', b1', b2', b3', v, he, hv⟩ := ih n' (by omega) _ _ _ ht hw
        simp only [List.cons.injEq, and_true] at he
        obtain ⟨rfl, rfl, rfl, rfl⟩ := he
        exact ⟨_, _, _, _, v, g0, g1, g2, g3, hv⟩
      have each' : ∀ i, ∃ v, i < len → ∃ c0 c1 c2 c3, W.cell? ((a.add (i * 4)).add 0) = some c0 ∧ W.cell? ((a.add (i * 4)).add 1) = some c1 ∧ W.cell? ((a.add (i * 4)).add 2) = some c2 ∧ W.cell? ((a.add (i * 4)).add 3) = some c3 ∧ VAt W n' (.agg #[c0, c1, c2, c3]) v := by
        intro i
        by_cases hi : i < len
        · obtain ⟨b0, b1, b2, b3, v, h⟩ := each i hi
          exact ⟨v, fun _ => ⟨b0, b1, b2, b3, h⟩⟩
        · exact ⟨.mk 0 0 0 [], fun h => absurd h hi⟩
      obtain ⟨f, hf⟩ := Classical.axiomOfChoice each'
      have hof : ((List.range len).map f).length = len := by simp
      refine ⟨_, _, _, _, .mk k m o ((List.range len).map f), rfl, (VAt.mk' (d := n') (of := (List.range len).map f) (bounds_i64 w0) (bounds_i64 w1) (bounds_i64 w2) (by omega) (fun i v hi => ?_)).cast hof⟩
      have hlt : i < len := by
        have := (List.getElem?_eq_some_iff.1 hi).1
        omega
      have hv : f i = v := by
        rw [List.getElem?_map, List.getElem?_range hlt] at hi
        simpa using hi
      obtain ⟨b0, b1, b2, b3, g0, g1, g2, g3, hv'⟩ := hf i hlt
      rw [hv] at hv'
      obtain ⟨b, off, spot⟩ := a
      have hsp : spot = none := by
        obtain ⟨x0, _, _, _, hx0, _⟩ := hf 0 (by omega)
        simpa [Addr.add] using World.cell?_spot hx0
      subst hsp
      rw [add_none, add_none] at g0 g1 g2 g3
      exact ⟨b, off, b0, b1, b2, b3, rfl, g0, g1, g2, g3, hv'⟩

/-- An argument of the program's type Value is a tree. -/
theorem vat_of_arg {H : Type} {enc : TypeId × Value → H} {W : World} {r : Reach} {b : Nat} {v : Value} {d : DataW H} {p : List MemPlace} (hv : Value.okWide Tryd.prog W r b 24 v)
    (h : DataW.Trod enc Tryd.prog W 0 (fun _ => true) true 24 v d p) (hz : ∀ n ∈ d.weights Tryd.prog 24, n ≤ reachBytes) : ∃ e u, VAt W e v u := by
  obtain ⟨cs, rfl, _⟩ := okWide_struct Tryd.underlying24 hv
  obtain ⟨fuel, hd⟩ := h
  obtain ⟨c0, c1, c2, c3, u, he, hu⟩ := vat_of_trod fuel _ _ _ hd hz
  have : cs = #[c0, c1, c2, c3] := by
    apply Array.toList_inj.1
    simpa [Value.cells] using he
  subst this
  exact ⟨_, _, hu⟩

/-- The arguments read behind the call as they did before. -/
theorem again_all {H : Type} {enc : TypeId × Value → H} {W W' : World} (hb : Below W.heap.size W W') {sp : Nat → Bool} (ts : List TypeId) : ∀ {vs : List Value} {ds : List (DataW H)} {ps : List MemPlace},
    (ts.all fun t => Tryd.prog.readableRec t && decide (t < Tryd.prog.types.size)) = true → DataW.TrodAll enc Tryd.prog W 0 (fun _ => true) true ts vs ds ps → (∀ p ∈ ps, p.block < W.heap.size) → (∀ p ∈ ps, sp p.block = true) →
    DataW.TrodAll enc Tryd.prog W' 0 sp true ts vs ds ps := by
  induction ts with
  | nil =>
    intro vs ds ps _ h _ _
    obtain ⟨rfl, rfl, rfl⟩ := trodAll_nil h
    exact trodAll_mk0
  | cons t ts ih =>
    intro vs ds ps hr h hl hs
    obtain ⟨v, vs', d, ds', p, q, rfl, rfl, rfl, h1, h2⟩ := trodAll_cons h
    rw [List.all_cons, Bool.and_eq_true, Bool.and_eq_true] at hr
    exact trodAll_cons_mk (WideElems.Trod_stays laidOut hr.1.1 (of_decide_eq_true hr.1.2) h1 (fun x hx => hb.same (hl x (List.mem_append_left _ hx))) (fun x hx => hs x (List.mem_append_left _ hx)))
      (ih hr.2 h2 (fun x hx => hl x (List.mem_append_right _ hx)) (fun x hx => hs x (List.mem_append_right _ hx)))
end Go.Proofs.YtnjgcjgfnjcgdaaDoor
