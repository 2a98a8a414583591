/-
  From the reading of an argument to the row of bytes that it is.
-/
import Derived.Test.YtlhnpaehhfimjaaDoorArg
import Derived.Test.YtlhnpaehhfimjaaDoorLstall
namespace Go.Proofs.YtlhnpaehhfimjaaDoor
open Go.RowKit Go.ChangeShapes Go.WideShapes Go.ChangeAt
theorem cells5 : Tryd.prog.cellsOf 5 = 1 := by kernel_rfl
set_option maxRecDepth 100000
variable {H : Type} {enc : TypeId × Value → H} {W : World}
theorem bytes_of_trod {fuel : Nat} {cs : List Value} {y : DataW H × List MemPlace} (h : DataW.trod enc Tryd.prog W 0 (fun _ => true) true fuel 42 cs = some y) :
    ∃ v l, cs = [v] ∧ UAt W v l := by
  rcases DataW.trod_slice Tryd.underlying42 h with ⟨hc, _⟩ | ⟨a, len, cap, elems, rest, n', rfl, hc, hy, _, hle, hmx, hlen, hE, _⟩
  · exact ⟨_, [], hc, none, 0, rfl, Nat.le_refl _, Nat.zero_le _, fun i p hi => by simp at hi⟩
  · subst hy
    rw [cells5] at hE
    have each : ∀ i, ∃ n : Nat, i < len → n ≤ 255 ∧ W.cell? ((a.add (i * 1)).add 0) = some (.int .u8 (n : Int)) := by
      intro i
      by_cases hi : i < len
      · have hEi := hE i hi
        have : i < elems.length := by omega
        rw [List.getElem?_eq_getElem this] at hEi
        obtain ⟨cs', hcs, ht⟩ := Option.bind_eq_some_iff.1 hEi
        obtain ⟨c0, rfl, g0⟩ := cells_one hcs
        obtain ⟨m, hc0, _, w0⟩ := DataW.trod_int Tryd.underlying5 ht
        simp only [List.cons.injEq, and_true] at hc0
        subst hc0
        have hb := bounds_u8 w0
        exact ⟨m.toNat, fun _ => ⟨by omega, by rw [show ((m.toNat : Nat) : Int) = m by omega]; exact g0⟩⟩
      · exact ⟨0, fun h => absurd h hi⟩
    obtain ⟨f, hf⟩ := Classical.axiomOfChoice each
    have hof : ((List.range len).map f).length = len := by simp
    refine ⟨_, (List.range len).map f, hc, some a, cap, by rw [hof], by omega, by unfold huge; unfold maxLen at hmx; omega, fun i n hi => ?_⟩
    have hlt : i < len := by
      have := (List.getElem?_eq_some_iff.1 hi).1
      omega
    have hv : f i = n := by
      rw [List.getElem?_map, List.getElem?_range hlt] at hi
      simpa using hi
    have g := hf i hlt
    rw [hv] at g
    obtain ⟨b, off, rfl⟩ := spot_none ((hf 0 (by omega)).2)
    rw [add_none, add_none] at g
    exact ⟨g.1, b, off, rfl, by simpa using g.2⟩
theorem uat_of_arg {r : Reach} {b : Nat} {v : Value} {d : DataW H} {p : List MemPlace} (hv : Value.okWide Tryd.prog W r b 42 v) (h : DataW.Trod enc Tryd.prog W 0 (fun _ => true) true 42 v d p) : ∃ l, UAt W v l := by
  obtain ⟨a, len, cap, rfl⟩ := okWide_slice Tryd.underlying42 hv
  obtain ⟨fuel, hd⟩ := h
  obtain ⟨u, l, he, hl⟩ := bytes_of_trod hd
  simp only [Value.cells, List.cons.injEq, and_true] at he
  subst he
  exact ⟨l, hl⟩
end Go.Proofs.YtlhnpaehhfimjaaDoor
