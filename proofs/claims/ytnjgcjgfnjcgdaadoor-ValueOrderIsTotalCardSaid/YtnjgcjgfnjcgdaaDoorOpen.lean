/-
  What the rows' lists give the walks: the table of operators and the table of powers hold what the text lays.
-/
import Derived.Test.YtnjgcjgfnjcgdaaDoorNum
import Derived.LaidMore
import Derived.LaidSub
import Derived.OpenShut
import Derived.ProofKit
import Derived.Stop.Joined
import Derived.Lib.LaidTab
namespace Go.Proofs.YtnjgcjgfnjcgdaaDoor
open Go.RowKit Go.ChangeShapes Go.WideShapes Go.ChangeAt

def laidList : List (String × DataW Unit) := [("math/bits.deBruijn32tab", Rows.laid_math_bits_deBruijn32tab), ("math/bits.deBruijn64tab", Rows.laid_math_bits_deBruijn64tab), ("internal/strconv.uint64pow10", Rows.laid_internal_strconv_uint64pow10), ("hallmoot/value.operators", Rows.laid_hallmoot_value_operators)]
theorem gOps : Tryd.prog.globalNamed "hallmoot/value.operators" = some 0 := by kernel_rfl
theorem tOps : (Tryd.prog.globals[0]?).map (·.type) = some 63 := by kernel_rfl
theorem gPow : Tryd.prog.globalNamed "internal/strconv.uint64pow10" = some 3 := by kernel_rfl
theorem tPow : (Tryd.prog.globals[3]?).map (·.type) = some 83 := by kernel_rfl
theorem cells83 : Tryd.prog.cellsOf 83 = 20 := by kernel_rfl
theorem cells64 : Tryd.prog.cellsOf 64 = 1 := by kernel_rfl
theorem cells62 : Tryd.prog.cellsOf 62 = 2 := by kernel_rfl
theorem cells63 : Tryd.prog.cellsOf 63 = 16 := by kernel_rfl
theorem cells60 : Tryd.prog.cellsOf 60 = 1 := by kernel_rfl
theorem cells3 : Tryd.prog.cellsOf 3 = 1 := by kernel_rfl

/-- One entry of the table of operators. -/
theorem op_cell {W : World} {m : Nat} {cs : List Value} {kd : Int} {b : UInt8} {r : List UInt8} {F : FuncId} {q : List MemPlace}
    (hone : ((List.range Tryd.prog.funcs.size).filter fun f => (Tryd.prog.funcs[f]?).any (·.name.toUTF8.data.toList == b :: r)) = [F])
    (h : DataW.trod (funcToken Tryd.prog) Tryd.prog W 0 (fun _ => true) true m 62 cs = some (.agg [.lit (.int .i64 kd), .held (b :: r)], q)) :
    cs = [.int .i64 kd, .func (.func F) #[] #[]] := by
  obtain ⟨xs, n, rfl, hx, hl, hn, hel⟩ := DataW.trod_struct Tryd.underlying62 h
  rw [cells62] at hl
  obtain ⟨c0, c1, rfl⟩ : ∃ c0 c1, cs = [c0, c1] := by
    match cs, hl with
    | [c0, c1], _ => exact ⟨c0, c1, rfl⟩
  obtain ⟨y0, y1, rfl⟩ : ∃ y0 y1, xs = [y0, y1] := by
    match xs, hn with
    | [y0, y1], _ => exact ⟨y0, y1, rfl⟩
  have e0 : DataW.trod (funcToken Tryd.prog) Tryd.prog W 0 (fun _ => true) true n 3 ((([c0, c1] : List Value).drop 0).take (Tryd.prog.cellsOf 3)) = [y0, y1][0]? := hel 0 _ rfl
  have e1 : DataW.trod (funcToken Tryd.prog) Tryd.prog W 0 (fun _ => true) true n 60 ((([c0, c1] : List Value).drop 1).take (Tryd.prog.cellsOf 60)) = [y0, y1][1]? := hel 1 _ rfl
  rw [cells3] at e0
  rw [cells60] at e1
  simp only [List.drop_zero, List.take_succ_cons, List.take_zero, List.getElem?_cons_zero, List.getElem?_cons_succ, List.drop_succ_cons] at e0 e1
  simp only [List.map_cons, List.map_nil, Prod.mk.injEq, DataW.agg.injEq, List.cons.injEq, and_true] at hx
  obtain ⟨⟨h0, h1⟩, _⟩ := hx
  obtain ⟨n0, hc, hy, _⟩ := DataW.trod_int Tryd.underlying3 e0
  rw [hy] at h0
  simp only [DataW.lit.injEq, Lit.int.injEq, true_and] at h0
  subst h0
  obtain ⟨d1, q1⟩ := y1
  simp only at h1
  subst h1
  have := func_of_trod Tryd.underlying60 hone e1
  subst this
  simp only [List.cons.injEq, and_true] at hc
  subst hc
  rfl

theorem pow_of_laid {W : World} (h : laidMetH Tryd.prog laidList W) : TabAt W := by
  have h1 := (laidMetH_iff.1 (laidMetH.filter (fun x => x.1 == "internal/strconv.uint64pow10") h)).1
  have e : (laidList.filter (fun x => x.1 == "internal/strconv.uint64pow10")).filter (fun x => x.2.handleName?.isNone) = [("internal/strconv.uint64pow10", Rows.laid_internal_strconv_uint64pow10)] := by kernel_rfl
  rw [e] at h1
  exact Lib.tabIs_of_head (rest := []) gPow tPow Tryd.underlying83 Tryd.underlying64 cells64 cells83 h1

theorem get_of_pair {cs : List Value} {i : Nat} {u v : Value} (h : (cs.drop i).take 2 = [u, v]) : cs[i]? = some u ∧ cs[i + 1]? = some v := by
  have h0 : ((cs.drop i).take 2)[0]? = some u := by rw [h]; rfl
  have h1 : ((cs.drop i).take 2)[1]? = some v := by rw [h]; rfl
  simp only [List.getElem?_take, List.getElem?_drop] at h0 h1
  exact ⟨by simpa using h0, by simpa using h1⟩

def opName : List UInt8 := [97, 108, 108, 109, 111, 111, 116, 47, 118, 97, 108, 117, 101, 46, 111, 112, 101, 114, 97, 116, 111, 114, 115, 36]
theorem ops_of_laid {W : World} (h : laidMetH Tryd.prog laidList W) : OpsAt W := by
  obtain ⟨g, t, cs, fuel, p, hg, ht, hv, hd⟩ := h.funcs (n := "hallmoot/value.operators") (List.mem_cons_of_mem _ (List.mem_cons_of_mem _ (List.mem_cons_of_mem _ (List.mem_singleton.2 rfl))))
  obtain rfl := Option.some.inj (gOps.symm.trans hg)
  obtain rfl := Option.some.inj (tOps.symm.trans ht)
  obtain ⟨xs, m, rfl, hx, hl, hn, hel⟩ := DataW.trod_array Tryd.underlying63 hd
  rw [cells62] at hel
  have hx1 := congrArg Prod.fst hx
  have hm : ∀ j, j < 8 → (xs.map (·.1))[j]? = (xs[j]?).map (·.1) := fun j _ => by rw [List.getElem?_map]
  have at' : ∀ (j : Nat) (kd : Int) (b : UInt8) (r : List UInt8) (F : FuncId), j < 8 → ((List.range Tryd.prog.funcs.size).filter fun f => (Tryd.prog.funcs[f]?).any (·.name.toUTF8.data.toList == b :: r)) = [F] →
      (xs.map (·.1))[j]? = some (.agg [.lit (.int .i64 kd), .held (b :: r)]) → W.cell? ⟨0, j * 2, none⟩ = some (.int .i64 kd) ∧ W.cell? ⟨0, j * 2 + 1, none⟩ = some (.func (.func F) #[] #[]) := by
    intro j kd b r F hj hone hy
    have hE := hel j hj
    rw [hm j hj] at hy
    cases hq : xs[j]? with
    | none => rw [hq] at hy; cases hy
    | some y =>
      obtain ⟨d, q⟩ := y
      rw [hq] at hy hE
      simp only [Option.map_some, Option.some.injEq] at hy
      subst hy
      have hp := get_of_pair (op_cell hone hE)
      have v0 := World.var?_cell gOps hv (j * 2)
      have v1 := World.var?_cell gOps hv (j * 2 + 1)
      rw [← Array.getElem?_toList] at v0 v1
      exact ⟨v0.trans hp.1, v1.trans hp.2⟩
  have hl8 : xs.map (·.1) = [.agg [.lit (.int .i64 0), .nil], .agg [.lit (.int .i64 1), .held (104 :: (opName ++ [49]))], .agg [.lit (.int .i64 1), .held (104 :: (opName ++ [50]))], .agg [.lit (.int .i64 1), .held (104 :: (opName ++ [51]))], .agg [.lit (.int .i64 1), .held (104 :: (opName ++ [52]))], .agg [.lit (.int .i64 1), .held (104 :: (opName ++ [53]))], .agg [.lit (.int .i64 2), .held (104 :: (opName ++ [54]))], .agg [.lit (.int .i64 2), .held (104 :: (opName ++ [55]))]] := (DataW.agg.inj hx1).symm
  intro j h1 h7
  have hj : j = 1 ∨ j = 2 ∨ j = 3 ∨ j = 4 ∨ j = 5 ∨ j = 6 ∨ j = 7 := by omega
  rcases hj with rfl | rfl | rfl | rfl | rfl | rfl | rfl
  · exact at' 1 1 104 (opName ++ [49]) 80 (by omega) (by kernel_rfl) (by rw [hl8]; rfl)
  · exact at' 2 1 104 (opName ++ [50]) 81 (by omega) (by kernel_rfl) (by rw [hl8]; rfl)
  · exact at' 3 1 104 (opName ++ [51]) 82 (by omega) (by kernel_rfl) (by rw [hl8]; rfl)
  · exact at' 4 1 104 (opName ++ [52]) 83 (by omega) (by kernel_rfl) (by rw [hl8]; rfl)
  · exact at' 5 1 104 (opName ++ [53]) 84 (by omega) (by kernel_rfl) (by rw [hl8]; rfl)
  · exact at' 6 2 104 (opName ++ [54]) 85 (by omega) (by kernel_rfl) (by rw [hl8]; rfl)
  · exact at' 7 2 104 (opName ++ [55]) 86 (by omega) (by kernel_rfl) (by rw [hl8]; rfl)
theorem good_of_laid {W : World} (h : laidMetH Tryd.prog laidList W) : Good W := ⟨ops_of_laid h, pow_of_laid h⟩
end Go.Proofs.YtnjgcjgfnjcgdaaDoor
