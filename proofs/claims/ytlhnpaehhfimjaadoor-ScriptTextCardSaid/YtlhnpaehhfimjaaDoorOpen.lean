/-
  What the rows' lists give the walks: the table of powers and the two errors hold what the text lays.
-/
import Derived.Test.YtlhnpaehhfimjaaDoorNum
import Derived.LaidMore
import Derived.LaidSub
import Derived.OpenShut
import Derived.ProofKit
import Derived.Stop.Joined
import Derived.Lib.LaidTab
import Derived.Lay
import Derived.Deep.DeepHandedRow
namespace Go.Proofs.YtlhnpaehhfimjaaDoor
open Go.RowKit Go.ChangeShapes Go.WideShapes Go.ChangeAt

def laidList : List (String × DataW Unit) := Rows.scriptMatchesRow.laid
theorem gSyn : Tryd.prog.globalNamed "strconv.ErrSyntax" = some 2 := by kernel_rfl
theorem tSyn : (Tryd.prog.globals[2]?).map (·.type) = some 77 := by kernel_rfl
theorem gRan : Tryd.prog.globalNamed "strconv.ErrRange" = some 3 := by kernel_rfl
theorem tRan : (Tryd.prog.globals[3]?).map (·.type) = some 77 := by kernel_rfl
theorem gPow : Tryd.prog.globalNamed "internal/strconv.uint64pow10" = some 0 := by kernel_rfl
theorem tPow : (Tryd.prog.globals[0]?).map (·.type) = some 108 := by kernel_rfl
theorem cells108 : Tryd.prog.cellsOf 108 = 20 := by kernel_rfl
theorem cells89 : Tryd.prog.cellsOf 89 = 1 := by kernel_rfl

theorem err_of_met {W : World} {n name : String} {d : DataW Unit} {g : Nat} {ms : Array (String × TypeId)} (hg : Tryd.prog.globalNamed n = some g) (ht : (Tryd.prog.globals[g]?).map (·.type) = some 77) (hu : Tryd.prog.underlying 77 = some (.interface ms))
    (h : laidMet Tryd.prog [(n, .iface name d)] W) : ErrAt W n := by
  obtain ⟨ps, ⟨g', t', cs, fuel, p, q, hg', ht', hvar, hd, _, _⟩, _⟩ := h
  obtain rfl := Option.some.inj (hg.symm.trans hg')
  obtain rfl := Option.some.inj (ht.symm.trans ht')
  obtain ⟨_, u, v, hc, _, _⟩ := iface_of_trod hu hd
  refine ⟨u, v, ?_⟩
  rw [hvar]
  exact congrArg some (Array.toList_inj.1 (by simpa using hc))
theorem one_of_laid {W : World} {n : String} {d : DataW Unit} (h : laidMetH Tryd.prog laidList W) (e : (laidList.filter (fun x => x.1 == n)).filter (fun x => x.2.handleName?.isNone) = [(n, d)]) : laidMet Tryd.prog [(n, d)] W := by
  have h1 := (laidMetH_iff.1 (laidMetH.filter (fun x => x.1 == n) h)).1
  rw [e] at h1
  exact h1
set_option maxRecDepth 100000 in
theorem good_of_laid {W : World} (h : laidMetH Tryd.prog laidList W) (hs : W.ShapedOpen Tryd.prog) : Good W :=
  ⟨Lib.tabIs_of_head (rest := []) gPow tPow Tryd.underlying108 Tryd.underlying89 cells89 cells108 (one_of_laid (d := Rows.laid_internal_strconv_uint64pow10) h (by kernel_rfl)),
   err_of_met gSyn tSyn Tryd.underlying77 (one_of_laid (d := Rows.laid_strconv_ErrSyntax) h (by kernel_rfl)), err_of_met gRan tRan Tryd.underlying77 (one_of_laid (d := Rows.laid_strconv_ErrRange) h (by kernel_rfl)), hs⟩
set_option maxRecDepth 100000 in
theorem door_met (os : Os) (args : Array Value) : laidMetH Tryd.prog laidList ((World.laidAll Tryd.prog os laidList).forCall (fun _ _ => 0) ⟨#[], args, []⟩).memory := by
  rw [MakeChecks.laidMetH_plain _ _ _ (by kernel_rfl)]; exact laidMet_laidAll _ (by kernel_rfl) (by kernel_rfl)
end Go.Proofs.YtlhnpaehhfimjaaDoor
