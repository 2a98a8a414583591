/-
  The walk of value.Right: the panic of value.walk is recovered.
-/
import Derived.Test.YtnjgcjgfnjcgdaaDoorWalk
namespace Go.Proofs.YtnjgcjgfnjcgdaaDoor
open Go.RowKit

theorem catch_panicking (p : Addr) (x : Bool) (w : World) (hc : w.cell? p = some (.bool x)) (hz : w.frozen? p = false) (hp : p.block < w.heap.size) :
    CallsD Tryd.prog 33 #[.pointer (some p)] (.panicking [{ v := .iface 53 (.agg #[]), recovered := false }]) w fun e u' w' =>
      e = .returned (.tuple #[]) ∧ u' = .panicking [{ v := .iface 53 (.agg #[]), recovered := true }] ∧ w' = (w.alloc (.cells #[] 53)).setCell p (.bool false) := by
  have hc' : (w.alloc (.cells #[] 53)).cell? p = some (.bool x) := by rw [World.cell?_alloc_lt _ _ _ hp]; exact hc
  have hz' : (w.alloc (.cells #[] 53)).frozen? p = false := by rw [World.frozen?_alloc_old _ _ _ (by omega)]; exact hz
  refine callsD_of_wpS Tryd.func33 rfl fun c₀ cs hu => ?_
  apply wpS_seq
  apply wpS_region
  have hta : ∀ w, (Instr.typeAssert (.iface 53 (.agg #[])) 20 53 true).run Tryd.prog w = .ok (.tuple #[.agg #[], .bool true]) w := fun _ => by kernel_rfl
  simp [wpOpsS, go_sem, recoverD, hu, Tryd.ntmps33, Exit.thenS, hta]
  apply wpS_seq
  apply wpS_region
  simp [wpOpsS, go_sem, Exit.thenS]
  refine wpS_cond (t := true) (by simp [Act.eval, Array.replicate]) ?_
  simp only [if_true]
  apply wpS_region
  simp [wpOpsS, go_sem, hc', hz', bodyPostS, results, Tryd.results33]

theorem catch_idle (p : Addr) (w : World) :
    CallsD Tryd.prog 33 #[.pointer (some p)] .returning w fun e u' w' => e = .returned (.tuple #[]) ∧ u' = .returning ∧ w' = w.alloc (.cells #[] 53) := by
  refine callsD_of_wpS Tryd.func33 rfl fun c₀ cs hu => ?_
  apply wpS_seq
  apply wpS_region
  have hta : ∀ w, (Instr.typeAssert .nilIface 20 53 true).run Tryd.prog w = .ok (.tuple #[.agg #[], .bool false]) w := fun _ => by kernel_rfl
  simp [wpOpsS, go_sem, recoverD, hu, Tryd.ntmps33, Exit.thenS, hta]
  apply wpS_seq
  apply wpS_region
  simp [wpOpsS, go_sem, Exit.thenS]
  refine wpS_cond (t := false) (by simp [Act.eval, Array.replicate]) ?_
  simp only [Bool.false_eq_true, if_false]
  refine wpS_of_wp (wp_skip ?_)
  cases c₀
  simp_all [bodyPostS, results, Tryd.results33]

theorem right_any (d : Nat) (x : Value) (v : V) (w : World) (hv : VAt w d x v) :
    Calls Tryd.prog 14 #[x] w fun e w' => e = .returned (.bool (validP 40 v)) ∧ Below w.heap.size w w' := by
  have hmf : ∀ (fn : Fn) (first cap : Array Value) (w : World), (Instr.makeFunc fn first cap).run Tryd.prog w = .ok (.func fn first cap) w := fun _ _ _ _ => rfl
  obtain ⟨k, n, m, of⟩ := v
  obtain ⟨d, a, cap, rfl, rfl, hk, hn, hm, hl2, he⟩ := hv.op
  clear he hk hn hm
  cases hval : validP 40 (.mk k n m of)
  · have HVAL := Lib.hid hval; clear hval
    go_enter_defers Tryd.func14, Tryd.ntmps14
    go_wp2_with fail
    refine (walk_any 40 _ _ _ _ _ rfl (Nat.le_refl _) (hv.below ?_)).mono ?_
    · exact ((Below.refl _ _).alloc (Nat.le_refl _) _).alloc (by simp) _
    rintro e w1 ⟨he, hb1⟩
    rw [walkEnd_no HVAL.out] at he
    subst he
    have hsz := hb1.size
    simp only [World.size_alloc] at hsz
    have hc1 : w1.cell? ⟨w.heap.size + 1, 0, none⟩ = some (.bool false) := by
      rw [hb1.cell (by simp)]
      simp
    have hf1 : w1.frozen? ⟨w.heap.size + 1, 0, none⟩ = false := by
      rw [hb1.frozen (by simp)]
      simp
    refine leaves_cons (f := 33) (args := #[.pointer (some ⟨w.heap.size + 1, 0, none⟩)]) (by simp) (by simp [go_sem]) ?_
    refine (catch_panicking ⟨w.heap.size + 1, 0, none⟩ false _ hc1 hf1 (by simp; omega)).mono ?_
    rintro e u' w'' ⟨rfl, rfl, rfl⟩
    have hc2 : ((w1.alloc (.cells #[] 53)).setCell ⟨w.heap.size + 1, 0, none⟩ (.bool false)).cell? ⟨w.heap.size + 1, 0, none⟩ = some (.bool false) :=
      World.cell?_setCell_same _ _ _ (by rw [World.cell?_alloc_lt _ _ _ (by simp; omega)]; exact hc1)
    have hbb : Below w.heap.size w ((w1.alloc (.cells #[] 53)).setCell ⟨w.heap.size + 1, 0, none⟩ (.bool false)) :=
      ((((((Below.refl _ _).alloc (Nat.le_refl _) _).alloc (by simp) _).trans (hb1.mono (by simp; omega))).alloc (by omega) _).setCell (by simp) _)
    simp [Leaves, settle, results, Tryd.results14, go_sem, hc2, hbb]
  · have HVAL := Lib.hid hval; clear hval
    go_enter_defers Tryd.func14, Tryd.ntmps14
    go_wp2_with fail
    refine (walk_any 40 _ _ _ _ _ rfl (Nat.le_refl _) (hv.below ?_)).mono ?_
    · exact ((Below.refl _ _).alloc (Nat.le_refl _) _).alloc (by simp) _
    rintro e w1 ⟨he, hb1⟩
    rw [walkEnd_yes HVAL.out] at he
    subst he
    have hsz := hb1.size
    simp only [World.size_alloc] at hsz
    have hc1 : w1.cell? ⟨w.heap.size + 1, 0, none⟩ = some (.bool false) := by
      rw [hb1.cell (by simp)]
      simp
    have hf1 : w1.frozen? ⟨w.heap.size + 1, 0, none⟩ = false := by
      rw [hb1.frozen (by simp)]
      simp
    have hc2 : ((w1.setCell ⟨w.heap.size + 1, 0, none⟩ (.bool true)).alloc (.cells #[] 53)).cell? ⟨w.heap.size + 1, 0, none⟩ = some (.bool true) := by
      rw [World.cell?_alloc_lt _ _ _ (by simp; omega)]
      exact World.cell?_setCell_same _ _ _ hc1
    have hbb : Below w.heap.size w ((w1.setCell ⟨w.heap.size + 1, 0, none⟩ (.bool true)).alloc (.cells #[] 53)) :=
      ((((((Below.refl _ _).alloc (Nat.le_refl _) _).alloc (by simp) _).trans (hb1.mono (by simp; omega))).setCell (by simp) _).alloc (by simp; omega) _)
    have HC2 := Lib.hid hc2; clear hc2
    have HBB := Lib.hid hbb; clear hbb
    go_wp2_with fail
    refine leaves_cons (f := 33) (args := #[.pointer (some ⟨w.heap.size + 1, 0, none⟩)]) (by simp) (by simp [go_sem]) ?_
    refine (catch_idle ⟨w.heap.size + 1, 0, none⟩ _).mono ?_
    rintro e u' w'' ⟨rfl, rfl, rfl⟩
    simp [Leaves, settle, results, Tryd.results14, go_sem, HC2.out, HBB.out]
end Go.Proofs.YtnjgcjgfnjcgdaaDoor
