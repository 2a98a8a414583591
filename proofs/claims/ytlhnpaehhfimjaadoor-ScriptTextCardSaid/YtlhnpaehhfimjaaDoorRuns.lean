/-
  The iterator over maximal runs of equal steps: its contract.
-/
import Derived.RangeFuncNested
import Derived.RangeFuncBound
import Derived.RangeFuncCalls
import Derived.RangeFuncLeaves
import Derived.OwnWalkIn
import Derived.BigQuiet
import Derived.TacticsInMore
import Derived.LoopNIn
import Derived.LoopIn
import Derived.Test.YtlhnpaehhfimjaaDoorNum
import Derived.Test.YtlhnpaehhfimjaaDoorOwn
namespace Go.Proofs.YtlhnpaehhfimjaaDoor
open Go.RowKit
/-- How many of the picks behind p belong to its run. -/
def runTail (p : Pick) : List Pick → Nat
  | [] => 0
  | q :: qs => if p.k = 1 ∧ q.k = 1 ∧ q.a = p.a then runTail p qs + 1 else 0
def runsF : Nat → List Pick → List (Pick × Nat)
  | 0, _ => []
  | _ + 1, [] => []
  | f + 1, p :: ps => (p, runTail p ps + 1) :: runsF f (ps.drop (runTail p ps))
/-- The maximal runs of equal steps, with their lengths. -/
def runsL (l : List Pick) : List (Pick × Nat) := runsF l.length l
theorem runTail_le (p : Pick) : ∀ l : List Pick, runTail p l ≤ l.length
  | [] => Nat.le_refl _
  | q :: qs => by
    rw [runTail]
    split
    · have := runTail_le p qs; simp only [List.length_cons]; omega
    · omega
theorem runsF_nil (f : Nat) : runsF f [] = [] := by cases f <;> rfl
theorem runsF_enough : ∀ (f : Nat) (l : List Pick), l.length ≤ f → runsF f l = runsF l.length l := by
  intro f
  induction f using Nat.strongRecOn with
  | ind f ih =>
    intro l hl
    cases l with
    | nil => rw [runsF_nil, runsF_nil]
    | cons p ps =>
      cases f with
      | zero => simp at hl
      | succ f =>
        simp only [List.length_cons] at hl
        rw [List.length_cons, runsF, runsF]
        have hd : (ps.drop (runTail p ps)).length ≤ ps.length := by simp
        rw [ih f (Nat.lt_succ_self _) _ (by omega)]
        by_cases he : ps.length = f
        · rw [he, ih f (Nat.lt_succ_self _) _ (by omega)]
        · rw [ih ps.length (by omega) _ hd]
theorem runsL_cons (p : Pick) (ps : List Pick) : runsL (p :: ps) = (p, runTail p ps + 1) :: runsL (ps.drop (runTail p ps)) := by
  unfold runsL
  rw [List.length_cons, runsF, runsF_enough ps.length _ (by simp)]
theorem runsL_nil : runsL [] = [] := rfl
/-- One run, with the cells of its first pick. -/
def RunE (W0 : World) : Type := { x : (Pick × Option Addr × Nat) × Nat // PAt W0 (.agg #[.int .i64 x.1.1.k, .int .i64 x.1.1.a, .int .i64 x.1.1.b, .slice x.1.2.1 x.1.1.c.length x.1.2.2]) x.1.1 ∧ 1 ≤ x.2 ∧ x.2 ≤ 1000000 ∧ x.1.1.c.length ≤ 100 }
def RunE.view {W0 : World} (x : RunE W0) : Pick × Nat := (x.1.1.1, x.1.2)
def encsR {W0 : World} (x : RunE W0) : Array Value := #[.agg #[.int .i64 x.1.1.1.k, .int .i64 x.1.1.1.a, .int .i64 x.1.1.1.b, .slice x.1.1.2.1 x.1.1.1.c.length x.1.1.2.2], .int .i64 x.1.2]
/-- What a round of the loop over the iterator keeps: all below n, and the iterator's own box. -/
def KpR (n Bs : Nat) (W W' : World) : Prop := Below n W W' ∧ W'.heap[Bs]? = W.heap[Bs]?

theorem drew_grown (w : World) (n : Nat) : w.grownBy (w.drewN n) none := ⟨rfl, rfl, rfl, Nat.le_refl _, fun _ _ _ => rfl⟩
/-- What is at hand when a run is handed to the loop's body. -/
theorem leave_facts {n lp Bs m : Nat} {c : Option Addr} {ccap M N : Nat} {W0 wr wq : World} {p : Pick} {pre : List (RunE W0)} {J Jx : List (RunE W0) → World → Prop} {o : Obj} {L nn : Nat} (hwq : wq = (wr.drewN M).drewN N) (hJ : J pre wr) (hb : Below W0.heap.size W0 wr) (hbs : wr.heap[Bs]? = some o)
    (hAb : ∀ pre W1 W2, J pre W1 → W1.grownBy W2 none → J pre W2) (hp : PAt W0 (.agg #[.int .i64 p.k, .int .i64 p.a, .int .i64 p.b, .slice c p.c.length ccap]) p) (h1 : 1 ≤ m) (h2 : m ≤ 1000000) (h3 : p.c.length ≤ 100)
    (hY : ∀ pre x W1, J pre W1 → pre.length < L → YieldAt Fence.wide (n - 1) Tryd.prog lp (encsR x) W1 fun e W' =>
      (e = .returned (.bool true) ∧ J (pre ++ [x]) W' ∧ KpR nn Bs W1 W') ∨ (e = .returned (.bool false) ∧ Jx (pre ++ [x]) W')) (hl : pre.length < L) :
    (YieldAt Fence.wide (n - 1) Tryd.prog lp (encsR (W0 := W0) ⟨((p, c, ccap), m), hp, h1, h2, h3⟩) wq fun e W' => (e = .returned (.bool true) ∧ J (pre ++ [⟨((p, c, ccap), m), hp, h1, h2, h3⟩]) W' ∧ KpR nn Bs wq W') ∨ (e = .returned (.bool false) ∧ Jx (pre ++ [⟨((p, c, ccap), m), hp, h1, h2, h3⟩]) W')) ∧
    Below W0.heap.size W0 wq ∧ wq.heap[Bs]? = some o := by
  subst hwq
  exact ⟨hY pre _ _ (hAb _ _ _ (hAb _ _ _ hJ (drew_grown _ _)) (drew_grown _ _)) hl, hb.trans ⟨rfl, rfl, rfl, Nat.le_refl _, fun _ _ => rfl⟩, hbs⟩
set_option maxRecDepth 20000 in
set_option maxHeartbeats 3200000 in
theorem runs_in (n : Nat) (hn : 1 ≤ n) (lp n0 Bs cap : Nat) (a : Option Addr) (l : List Pick) (W0 : World) (hlen : l.length ≤ 1000000) (hcuts : ∀ p ∈ l, p.c.length ≤ 100) (hat : PicksAt W0 a l) (hn0 : W0.heap.size = n0) (J Jx : List (RunE W0) → World → Prop)
    (hY : ∀ pre x W1, J pre W1 → pre.length < l.length → YieldAt Fence.wide (n - 1) Tryd.prog lp (encsR x) W1 fun e W' =>
      (e = .returned (.bool true) ∧ J (pre ++ [x]) W' ∧ KpR n0 Bs W1 W') ∨ (e = .returned (.bool false) ∧ Jx (pre ++ [x]) W'))
    (W : World) (hAb : ∀ pre W1 W2, J pre W1 → W1.grownBy W2 none → J pre W2) (hW : Below n0 W0 W) (hBs : W.heap[Bs]? = some (.cells #[.slice a l.length cap] 22 (0, 0))) (h0 : J [] W) :
    Calls Tryd.prog 42 #[.func (.yield lp) #[] #[], .pointer (some ⟨Bs, 0, none⟩)] W fun e W' => (∃ v, e = .returned v) ∧ ((∃ xs : List (RunE W0), xs.map RunE.view = runsL l ∧ J xs W') ∨ (∃ pre : List (RunE W0), True ∧ Jx pre W')) := by
  subst hn0
  have HAT := Lib.hid hat
  have HCU := Lib.hid hcuts
  clear hcuts
  have HY := Lib.hid hY
  have H0 := Lib.hid (And.intro h0 (And.intro hW hBs))
  clear hat hY h0 hW hBs
  go_enter Tryd.func42, Tryd.ntmps42
  go_wp2_with fail
  go_loopw [3] (fun i wr => ∃ (j : Nat) (pre : List (RunE W0)), j ≤ l.length ∧ i = .int .i64 j ∧ pre.length ≤ j ∧ pre.map RunE.view ++ runsL (l.drop j) = runsL l ∧ J pre wr ∧ Below W0.heap.size W0 wr ∧ wr.heap[Bs]? = some (.cells #[.slice a l.length cap] 22 (0, 0))) (fun i _ => l.length - (intOf i).toNat)
  case atStart => exact ⟨0, [], Nat.zero_le _, rfl, Nat.le_refl _, by simp, H0.out.1, H0.out.2.1, H0.out.2.2⟩
  case round =>
    obtain ⟨j, pre, hj, rfl, hpl, hruns, hJ, hbw, hbs⟩ := hrel
    have HA := Lib.hid (And.intro hruns (And.intro hJ (And.intro hbw hbs)))
    have cb : wr.cell? ⟨Bs, 0, none⟩ = some (.slice a l.length cap) := by rw [cell_of_row wr Bs 0 _ _ _ hbs]; rfl
    clear hruns hJ hbw hbs H0
    by_cases hlt : j < l.length
    · obtain ⟨p, hp⟩ := get_of_lt hlt
      obtain ⟨b, off, x, c, ccap, rfl, rfl, h0, h1, h2, h3, hpp⟩ := HAT.out j p hp
      have HP := Lib.hid (And.intro hp hpp)
      have HH := Lib.hid (And.intro h0 (And.intro h1 (And.intro h2 h3)))
      obtain ⟨k, pa, pb, pc⟩ := p
      clear hp hpp h0 h1 h2 h3
      go_wp2_with fail
      go_loopw [4] (fun i wx => ∃ m : Nat, j + 1 ≤ m ∧ m ≤ l.length ∧ i = .int .i64 m ∧ (m - (j + 1)) + runTail ⟨k, pa, pb, pc⟩ (l.drop m) = runTail ⟨k, pa, pb, pc⟩ (l.drop (j + 1)) ∧ ∃ n, wx = wr.drewN n) (fun i _ => l.length - (intOf i).toNat)
      case atStart => exact ⟨j + 1, Nat.le_refl _, by omega, by go_num, by simp, 0, rfl⟩
      case round =>
        obtain ⟨m, hm1, hm2, rfl, hrt, nd, rfl⟩ := hrel
        have HR := Lib.hid hrt
        clear hrt
        have c0 : wr.cell? ⟨b, off + j * 4, none⟩ = some (.int .i64 k) := (HA.out.2.2.1.cell (World.block_lt_of_cell? _ _ HH.out.1)).trans HH.out.1
        have c1 : wr.cell? ⟨b, off + j * 4 + 1, none⟩ = some (.int .i64 pa) := (HA.out.2.2.1.cell (World.block_lt_of_cell? _ _ HH.out.2.1)).trans HH.out.2.1
        by_cases hml : m < l.length
        · obtain ⟨q, hq⟩ := get_of_lt hml
          obtain ⟨b', off', x', c', ccap', hbo, rfl, g0, g1, g2, g3, hqq⟩ := HAT.out m q hq
          simp only [Option.some.injEq, Addr.mk.injEq, and_true] at hbo
          obtain ⟨rfl, rfl⟩ := hbo
          obtain ⟨qk, qa, qb, qc⟩ := q
          have d0 : wr.cell? ⟨b, off + m * 4, none⟩ = some (.int .i64 qk) := (HA.out.2.2.1.cell (World.block_lt_of_cell? _ _ g0)).trans g0
          have d1 : wr.cell? ⟨b, off + m * 4 + 1, none⟩ = some (.int .i64 qa) := (HA.out.2.2.1.cell (World.block_lt_of_cell? _ _ g1)).trans g1
          have HQ := Lib.hid (drop_of_get hq)
          clear hq hqq g0 g1 g2 g3
          by_cases e1 : k = 1
          · subst e1
            by_cases e2 : qk = 1
            · subst e2
              by_cases e3 : qa = pa
              · subst e3
                go_wp2_with fail
                go_quiet (fail)
                go_wp2_with fail
                go_roundw
                case rel => exact ⟨m + 1, by omega, by omega, by go_num, by rw [← HR.out, HQ.out, runTail, if_pos ⟨rfl, rfl, rfl⟩]; omega, nd + nq, by simp⟩
                case measure => simp [intOf]; omega
              · have e3' : (qa == pa) = false := beq_eq_false_iff_ne.2 e3
                have HT := Lib.hid (show runTail ⟨1, pa, pb, pc⟩ (l.drop (j + 1)) = m - (j + 1) by rw [← HR.out, HQ.out, runTail, if_neg (by intro c; exact e3 c.2.2)]; omega)
                clear e3
                go_wp2_with fail
                go_quiet (fail)
                go_upto_region 5 with (fail)
                obtain ⟨wq, hwq⟩ : ∃ wq, wq = (wr.drewN nd).drewN nq := ⟨_, rfl⟩
                have HL := Lib.hid (leave_facts (p := ⟨1, pa, pb, pc⟩) (c := c) (ccap := ccap) (m := m - j) hwq HA.out.2.1 HA.out.2.2.1 HA.out.2.2.2 hAb HP.out.2 (show 1 ≤ m - j by omega) (show m - j ≤ 1000000 by omega) (HCU.out _ (mem_of_get HP.out.1)) HY.out (show pre.length < l.length by omega))
                have g0 : wq.cell? ⟨b, off + j * 4, none⟩ = some (.int .i64 1) := by rw [hwq]; exact c0
                have g1 : wq.cell? ⟨b, off + j * 4 + 1, none⟩ = some (.int .i64 pa) := by rw [hwq]; exact c1
                have g2 : wq.cell? ⟨b, off + j * 4 + 2, none⟩ = some (.int .i64 pb) := by rw [hwq]; exact (HA.out.2.2.1.cell (World.block_lt_of_cell? _ _ HH.out.2.2.1)).trans HH.out.2.2.1
                have g3 : wq.cell? ⟨b, off + j * 4 + 3, none⟩ = some (.slice c pc.length ccap) := by rw [hwq]; exact (HA.out.2.2.1.cell (World.block_lt_of_cell? _ _ HH.out.2.2.2)).trans HH.out.2.2.2
                have gb : wq.cell? ⟨Bs, 0, none⟩ = some (.slice (some ⟨b, off, none⟩) l.length cap) := by rw [hwq]; exact cb
                rw [← hwq]
                clear hwq c0 c1 cb
                have hmj : ((m - j : Nat) : Int) = (m : Int) - (j : Int) := by omega
                obtain ⟨fn, tmps, assign, body, hy, hR⟩ := HL.out.1
                simp only [encsR, hmj] at hy
                have HM := Lib.hid hmj
                clear hmj
                refine (wpIn_wide (n := n)).1 ?_
                gi_wp2
                refine hR.mono ?_
                rintro e W3 (⟨rfl, hJ3, hk3⟩ | ⟨rfl, hJx3⟩)
                · have HK := Lib.hid (And.intro hJ3 hk3)
                  clear hJ3 hk3 hR hy
                  gi_wp2
                  go_wp2_with fail
                  go_roundw
                  case rel =>
                    refine ⟨m, _, by omega, rfl, ?_, ?_, HK.out.1, HL.out.2.1.trans HK.out.2.1, HK.out.2.2.trans HL.out.2.2⟩
                    · rw [List.length_append]; exact Nat.le_trans (Nat.add_le_add_right hpl 1) (by omega)
                    · rw [← HA.out.1, drop_of_get HP.out.1, runsL_cons, HT.out, List.drop_drop, show j + 1 + (m - (j + 1)) = m by omega, show m - (j + 1) + 1 = m - j by omega, List.map_append, List.append_assoc]
                      rfl
                  case measure => simp [intOf]; omega
                · clear hR hy
                  gi_wp2
                  go_wp2_with fail
                  refine bodyPost_ret (results_none rfl _ _ _) rfl ?_
                  exact ⟨⟨_, rfl⟩, .inr ⟨_, trivial, hJx3⟩⟩
            · have e2' : (qk == 1) = false := beq_eq_false_iff_ne.2 e2
              have HT := Lib.hid (show runTail ⟨1, pa, pb, pc⟩ (l.drop (j + 1)) = m - (j + 1) by rw [← HR.out, HQ.out, runTail, if_neg (by intro c; exact e2 c.2.1)]; omega)
              clear e2
              go_wp2_with fail
              go_quiet (fail)
              go_upto_region 5 with (fail)
              obtain ⟨wq, hwq⟩ : ∃ wq, wq = (wr.drewN nd).drewN nq := ⟨_, rfl⟩
              have HL := Lib.hid (leave_facts (p := ⟨1, pa, pb, pc⟩) (c := c) (ccap := ccap) (m := m - j) hwq HA.out.2.1 HA.out.2.2.1 HA.out.2.2.2 hAb HP.out.2 (show 1 ≤ m - j by omega) (show m - j ≤ 1000000 by omega) (HCU.out _ (mem_of_get HP.out.1)) HY.out (show pre.length < l.length by omega))
              have g0 : wq.cell? ⟨b, off + j * 4, none⟩ = some (.int .i64 1) := by rw [hwq]; exact c0
              have g1 : wq.cell? ⟨b, off + j * 4 + 1, none⟩ = some (.int .i64 pa) := by rw [hwq]; exact c1
              have g2 : wq.cell? ⟨b, off + j * 4 + 2, none⟩ = some (.int .i64 pb) := by rw [hwq]; exact (HA.out.2.2.1.cell (World.block_lt_of_cell? _ _ HH.out.2.2.1)).trans HH.out.2.2.1
              have g3 : wq.cell? ⟨b, off + j * 4 + 3, none⟩ = some (.slice c pc.length ccap) := by rw [hwq]; exact (HA.out.2.2.1.cell (World.block_lt_of_cell? _ _ HH.out.2.2.2)).trans HH.out.2.2.2
              have gb : wq.cell? ⟨Bs, 0, none⟩ = some (.slice (some ⟨b, off, none⟩) l.length cap) := by rw [hwq]; exact cb
              rw [← hwq]
              clear hwq c0 c1 cb
              have hmj : ((m - j : Nat) : Int) = (m : Int) - (j : Int) := by omega
              obtain ⟨fn, tmps, assign, body, hy, hR⟩ := HL.out.1
              simp only [encsR, hmj] at hy
              have HM := Lib.hid hmj
              clear hmj
              refine (wpIn_wide (n := n)).1 ?_
              gi_wp2
              refine hR.mono ?_
              rintro e W3 (⟨rfl, hJ3, hk3⟩ | ⟨rfl, hJx3⟩)
              · have HK := Lib.hid (And.intro hJ3 hk3)
                clear hJ3 hk3 hR hy
                gi_wp2
                go_wp2_with fail
                go_roundw
                case rel =>
                  refine ⟨m, _, by omega, rfl, ?_, ?_, HK.out.1, HL.out.2.1.trans HK.out.2.1, HK.out.2.2.trans HL.out.2.2⟩
                  · rw [List.length_append]; exact Nat.le_trans (Nat.add_le_add_right hpl 1) (by omega)
                  · rw [← HA.out.1, drop_of_get HP.out.1, runsL_cons, HT.out, List.drop_drop, show j + 1 + (m - (j + 1)) = m by omega, show m - (j + 1) + 1 = m - j by omega, List.map_append, List.append_assoc]
                    rfl
                case measure => simp [intOf]; omega
              · clear hR hy
                gi_wp2
                go_wp2_with fail
                refine bodyPost_ret (results_none rfl _ _ _) rfl ?_
                exact ⟨⟨_, rfl⟩, .inr ⟨_, trivial, hJx3⟩⟩
          · have e1' : (k == 1) = false := beq_eq_false_iff_ne.2 e1
            have HT := Lib.hid (show runTail ⟨k, pa, pb, pc⟩ (l.drop (j + 1)) = m - (j + 1) by rw [← HR.out, HQ.out, runTail, if_neg (by intro c; exact e1 c.1)]; omega)
            clear e1
            go_wp2_with fail
            go_quiet (fail)
            go_upto_region 5 with (fail)
            obtain ⟨wq, hwq⟩ : ∃ wq, wq = (wr.drewN nd).drewN nq := ⟨_, rfl⟩
            have HL := Lib.hid (leave_facts (p := ⟨k, pa, pb, pc⟩) (c := c) (ccap := ccap) (m := m - j) hwq HA.out.2.1 HA.out.2.2.1 HA.out.2.2.2 hAb HP.out.2 (show 1 ≤ m - j by omega) (show m - j ≤ 1000000 by omega) (HCU.out _ (mem_of_get HP.out.1)) HY.out (show pre.length < l.length by omega))
            have g0 : wq.cell? ⟨b, off + j * 4, none⟩ = some (.int .i64 k) := by rw [hwq]; exact c0
            have g1 : wq.cell? ⟨b, off + j * 4 + 1, none⟩ = some (.int .i64 pa) := by rw [hwq]; exact c1
            have g2 : wq.cell? ⟨b, off + j * 4 + 2, none⟩ = some (.int .i64 pb) := by rw [hwq]; exact (HA.out.2.2.1.cell (World.block_lt_of_cell? _ _ HH.out.2.2.1)).trans HH.out.2.2.1
            have g3 : wq.cell? ⟨b, off + j * 4 + 3, none⟩ = some (.slice c pc.length ccap) := by rw [hwq]; exact (HA.out.2.2.1.cell (World.block_lt_of_cell? _ _ HH.out.2.2.2)).trans HH.out.2.2.2
            have gb : wq.cell? ⟨Bs, 0, none⟩ = some (.slice (some ⟨b, off, none⟩) l.length cap) := by rw [hwq]; exact cb
            rw [← hwq]
            clear hwq c0 c1 cb
            have hmj : ((m - j : Nat) : Int) = (m : Int) - (j : Int) := by omega
            obtain ⟨fn, tmps, assign, body, hy, hR⟩ := HL.out.1
            simp only [encsR, hmj] at hy
            have HM := Lib.hid hmj
            clear hmj
            refine (wpIn_wide (n := n)).1 ?_
            gi_wp2
            refine hR.mono ?_
            rintro e W3 (⟨rfl, hJ3, hk3⟩ | ⟨rfl, hJx3⟩)
            · have HK := Lib.hid (And.intro hJ3 hk3)
              clear hJ3 hk3 hR hy
              gi_wp2
              go_wp2_with fail
              go_roundw
              case rel =>
                refine ⟨m, _, by omega, rfl, ?_, ?_, HK.out.1, HL.out.2.1.trans HK.out.2.1, HK.out.2.2.trans HL.out.2.2⟩
                · rw [List.length_append]; exact Nat.le_trans (Nat.add_le_add_right hpl 1) (by omega)
                · rw [← HA.out.1, drop_of_get HP.out.1, runsL_cons, HT.out, List.drop_drop, show j + 1 + (m - (j + 1)) = m by omega, show m - (j + 1) + 1 = m - j by omega, List.map_append, List.append_assoc]
                  rfl
              case measure => simp [intOf]; omega
            · clear hR hy
              gi_wp2
              go_wp2_with fail
              refine bodyPost_ret (results_none rfl _ _ _) rfl ?_
              exact ⟨⟨_, rfl⟩, .inr ⟨_, trivial, hJx3⟩⟩
        · have hml' : decide ((m : Int) < l.length) = false := decide_eq_false (by omega)
          have HT := Lib.hid (show runTail ⟨k, pa, pb, pc⟩ (l.drop (j + 1)) = m - (j + 1) by rw [← HR.out, List.drop_eq_nil_of_le (by omega), runTail]; rfl)
          go_wp2_with fail
          go_quiet (fail)
          go_upto_region 5 with (fail)
          obtain ⟨wq, hwq⟩ : ∃ wq, wq = (wr.drewN nd).drewN nq := ⟨_, rfl⟩
          have HL := Lib.hid (leave_facts (p := ⟨k, pa, pb, pc⟩) (c := c) (ccap := ccap) (m := m - j) hwq HA.out.2.1 HA.out.2.2.1 HA.out.2.2.2 hAb HP.out.2 (show 1 ≤ m - j by omega) (show m - j ≤ 1000000 by omega) (HCU.out _ (mem_of_get HP.out.1)) HY.out (show pre.length < l.length by omega))
          have g0 : wq.cell? ⟨b, off + j * 4, none⟩ = some (.int .i64 k) := by rw [hwq]; exact c0
          have g1 : wq.cell? ⟨b, off + j * 4 + 1, none⟩ = some (.int .i64 pa) := by rw [hwq]; exact c1
          have g2 : wq.cell? ⟨b, off + j * 4 + 2, none⟩ = some (.int .i64 pb) := by rw [hwq]; exact (HA.out.2.2.1.cell (World.block_lt_of_cell? _ _ HH.out.2.2.1)).trans HH.out.2.2.1
          have g3 : wq.cell? ⟨b, off + j * 4 + 3, none⟩ = some (.slice c pc.length ccap) := by rw [hwq]; exact (HA.out.2.2.1.cell (World.block_lt_of_cell? _ _ HH.out.2.2.2)).trans HH.out.2.2.2
          have gb : wq.cell? ⟨Bs, 0, none⟩ = some (.slice (some ⟨b, off, none⟩) l.length cap) := by rw [hwq]; exact cb
          rw [← hwq]
          clear hwq c0 c1 cb
          have hmj : ((m - j : Nat) : Int) = (m : Int) - (j : Int) := by omega
          obtain ⟨fn, tmps, assign, body, hy, hR⟩ := HL.out.1
          simp only [encsR, hmj] at hy
          have HM := Lib.hid hmj
          clear hmj
          refine (wpIn_wide (n := n)).1 ?_
          gi_wp2
          refine hR.mono ?_
          rintro e W3 (⟨rfl, hJ3, hk3⟩ | ⟨rfl, hJx3⟩)
          · have HK := Lib.hid (And.intro hJ3 hk3)
            clear hJ3 hk3 hR hy
            gi_wp2
            go_wp2_with fail
            go_roundw
            case rel =>
              refine ⟨m, _, by omega, rfl, ?_, ?_, HK.out.1, HL.out.2.1.trans HK.out.2.1, HK.out.2.2.trans HL.out.2.2⟩
              · rw [List.length_append]; exact Nat.le_trans (Nat.add_le_add_right hpl 1) (by omega)
              · rw [← HA.out.1, drop_of_get HP.out.1, runsL_cons, HT.out, List.drop_drop, show j + 1 + (m - (j + 1)) = m by omega, show m - (j + 1) + 1 = m - j by omega, List.map_append, List.append_assoc]
                rfl
            case measure => simp [intOf]; omega
          · clear hR hy
            gi_wp2
            go_wp2_with fail
            refine bodyPost_ret (results_none rfl _ _ _) rfl ?_
            exact ⟨⟨_, rfl⟩, .inr ⟨_, trivial, hJx3⟩⟩
    · have : j = l.length := by omega
      subst this
      go_wp2_with fail
      go_end0
      exact ⟨⟨_, rfl⟩, .inl ⟨pre, by have := HA.out.1; rw [List.drop_length, runsL_nil, List.append_nil] at this; exact this, HA.out.2.1⟩⟩
end Go.Proofs.YtlhnpaehhfimjaaDoor
