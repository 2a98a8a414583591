/-
  The walk of the law ScriptFair.
-/
import Derived.Test.YtlhnpaehhfimjaaDoorRing
import Derived.Test.YtlhnpaehhfimjaaDoorIs
import Derived.Deep.OwnRows
import Derived.Test.YtlhnpaehhfimjaaDoorSane
namespace Go.Proofs.YtlhnpaehhfimjaaDoor
open Go.RowKit
theorem cnt_grow (on : List Bool) (a0 p : Nat) : ∀ d, cntTo on a0 p ≤ cntTo on a0 (p + d)
  | 0 => Nat.le_refl _
  | d + 1 => by rw [← Nat.add_assoc, cntTo]; have := cnt_grow on a0 p d; omega
theorem info4 : (Tryd.prog.info? 4).map (fun i => (i.zero, i.size, i.bytes)) = some (some (.bool false), 1, 1) := by kernel_rfl
theorem make_bools {w : World} {ops : Array Oper} {rest : List Oper} {o : Oper} {a : Act} {Q : Exit → Act → World → Prop}
    (hg : o.guard = none) (l c : Operand) (hop : o.op = Op.makeSlice 26 l c) (n : Nat) (hn : n ≤ 1000000) (hl : a.eval l = .int .i64 (n : Int)) (hc : a.eval c = .int .i64 (n : Int))
    (hK : ∀ W, Hid (W = w.alloc (.cells (madeCells #[.bool false] n) 4)) → wpList Tryd.prog ops Q rest (a.put o.dst (.slice (some ⟨w.heap.size, 0, none⟩) n n)) W) : wpList Tryd.prog ops Q (o :: rest) a w := by
  obtain ⟨i0, hi, hz0, hz1, hz2⟩ := info_parts info4
  exact wpList_make_row w hg l c 26 hop 4 i0 (.bool false) Tryd.underlying26 hi hz0 hz1 rfl .i64 .i64 n hl hc (by rw [hz2]; omega) (by omega) (hK _ (Lib.hid rfl))
theorem made_cell {n k : Nat} (h : k < n) : (madeCells #[.bool false] n)[k]? = some (.bool false) := by
  simp [madeCells, h, Nat.mod_one]
/-- What holds at the head of the second loop, when i of the live places have been met: at is place p, behind the p' places that were passed. -/
def FairAt (on : List Bool) (a0 live B i : Nat) (at' : Nat) (wr : World) : Prop :=
  (∃ p, i < live ∧ p < on.length ∧ liveAt on a0 p = true ∧ at' = spot on.length a0 p ∧ cntTo on a0 p = i ∧ ∀ q, q < on.length → wr.cell? ⟨B, spot on.length a0 q, none⟩ = some (.bool (decide (q < p) && liveAt on a0 q))) ∨ (i = live ∧ at' = a0)
theorem spot_lt {n a0 p : Nat} (h : 0 < n) : spot n a0 p < n := Nat.mod_lt _ h
theorem spot_onto {n a0 k : Nat} (ha : a0 < n) (hk : k < n) : ∃ q, q < n ∧ spot n a0 q = k := by
  by_cases h : a0 ≤ k
  · exact ⟨k - a0, by omega, by unfold spot; rw [Nat.add_sub_cancel' h, Nat.mod_eq_of_lt hk]⟩
  · refine ⟨n - a0 + k, by omega, ?_⟩
    unfold spot
    rw [show a0 + (n - a0 + k) = k + n by omega, Nat.add_mod_right, Nat.mod_eq_of_lt hk]
/-- One turn of the second loop. -/
theorem fair_step {on : List Bool} {a0 live B i p : Nat} {wr : World} (ha : a0 < on.length) (h0 : liveAt on a0 0 = true) (hL : cntTo on a0 on.length = live) (hp : p < on.length) (hl : liveAt on a0 p = true) (hc : cntTo on a0 p = i)
    (hm : ∀ q, q < on.length → wr.cell? ⟨B, spot on.length a0 q, none⟩ = some (.bool (decide (q < p) && liveAt on a0 q))) :
    ∃ k : Nat, nextB on (spot on.length a0 p : Nat) = (k : Int) ∧ k < on.length ∧ FairAt on a0 live B (i + 1) k (wr.setCell ⟨B, spot on.length a0 p, none⟩ (.bool true)) := by
  have hset : ∀ q, q < on.length → ∀ p', p < p' → (∀ r, p < r → r < p' → liveAt on a0 r = false) → (wr.setCell ⟨B, spot on.length a0 p, none⟩ (.bool true)).cell? ⟨B, spot on.length a0 q, none⟩ = some (.bool (decide (q < p') && liveAt on a0 q)) := by
    intro q hq p' h1 h2
    by_cases e : q = p
    · subst e
      rw [World.cell?_setCell_same _ _ _ (hm q hq), hl]
      simp [h1]
    · rw [World.cell?_setCell_other _ _ _ _ (fun c => e (spot_inj hq hp (by injection c with _ c; exact c.symm))), hm q hq]
      by_cases hlt : q < p
      · simp [hlt, show q < p' by omega]
      · by_cases hlt' : q < p'
        · simp [hlt, h2 q (by omega) hlt']
        · simp [hlt, hlt']
  rcases round_step ha h0 hp hl with ⟨p', h1, h2, h3, h4, h5, h6⟩ | ⟨h1, h2⟩
  · have hi' : i + 1 < live := by
      have := cnt_grow on a0 (p' + 1) (on.length - (p' + 1))
      rw [Nat.add_sub_cancel' h2, hL, cntTo, h3] at this
      simp at this
      omega
    exact ⟨_, h5, spot_lt (by omega), .inl ⟨p', hi', h2, h3, rfl, by omega, fun q hq => hset q hq p' h1 h4⟩⟩
  · exact ⟨a0, h1, ha, .inr ⟨by omega, rfl⟩⟩

set_option maxRecDepth 20000 in
set_option maxHeartbeats 3200000 in
theorem lawFair_any (last : Int) (z : Value) (on : List Bool) (w : World) (hg : Good w) (hla : I64 last) (hon : BAt w z on) :
    Calls Tryd.prog 9 #[z, .int .i64 last] w fun e w' => e = .returned (.bool true) ∧ Below w.heap.size w w' := by
  obtain ⟨za, zcap, rfl, hz⟩ := hon
  have HO := Lib.hid (show BAt w (.slice za on.length zcap) on from ⟨za, zcap, rfl, hz⟩)
  have HAT := Lib.hid hz.2.2
  have hz2 := hz.2.1
  unfold big at hz2
  have hz1 := hz.1
  have HG := Lib.hid hg
  clear hz hg
  by_cases h40 : 40 < on.length
  · go_enter Tryd.func9, Tryd.ntmps9
    go_wp2_with fail
    refine (sane_any w HG.out).mono ?_
    rintro e w2 ⟨rfl, hb⟩
    have HB := Lib.hid hb
    clear hb
    go_wp2_with fail
    go_ret
    exact ⟨rfl, HB.out⟩
  obtain ⟨n, hn⟩ : ∃ n, on.length = n := ⟨_, rfl⟩
  have HN := Lib.hid hn
  rw [hn] at hz1 h40 HO ⊢
  clear hn
  go_enter Tryd.func9, Tryd.ntmps9
  go_wp2_with fail
  refine (sane_any w HG.out).mono ?_
  rintro e w2 ⟨rfl, hb⟩
  have HB := Lib.hid hb
  clear hb
  go_wp2_with fail
  go_loop [6, 7] (fun v i => ∃ j : Nat, j ≤ n ∧ i = .int .i64 j ∧ v = .int .i64 (cntTo on 0 j : Nat) ∧ cntTo on 0 j ≤ j) (fun _ i => n - (intOf i).toNat)
  case atStart => exact ⟨0, Nat.zero_le _, rfl, rfl, Nat.le_refl _⟩
  case round =>
    obtain ⟨j, hj, rfl, rfl, hcj⟩ := hrel
    by_cases hlt : j < n
    · obtain ⟨v, hv⟩ := get_of_lt (of := on) (j := j) (by rw [HN.out]; exact hlt)
      obtain ⟨b, off, rfl, hc⟩ := HAT.out j v hv
      have g0 := cell_on hc HB.out
      have HV := Lib.hid (live_zero hv)
      clear hv hc
      obtain ⟨c, hcc⟩ : ∃ c, cntTo on 0 j = c := ⟨_, rfl⟩
      have HC := Lib.hid hcc
      rw [hcc] at hcj ⊢
      clear hcc
      cases v with
      | true =>
        go_wp2_with fail
        go_round
        case rel =>
          refine ⟨j + 1, by omega, by go_num, ?_, ?_⟩
          · rw [cntTo, HV.out, HC.out]; go_num
          · rw [cntTo, HV.out, HC.out]; simp; omega
        case measure => simp [intOf]; omega
      | false =>
        go_wp2_with fail
        go_round
        case rel =>
          refine ⟨j + 1, by omega, by go_num, ?_, ?_⟩
          · rw [cntTo, HV.out, HC.out]; rfl
          · rw [cntTo, HV.out, HC.out]; simp; omega
        case measure => simp [intOf]; omega
    · obtain rfl : j = n := by omega
      obtain ⟨live, hlv⟩ : ∃ c, cntTo on 0 j = c := ⟨_, rfl⟩
      rw [hlv] at hcj ⊢
      have HL := Lib.hid (show cntTo on 0 on.length = live by rw [HN.out]; exact hlv)
      clear hlv
      by_cases hl0 : live = 0
      · subst hl0
        have HX := Lib.hid (cnt_none HL.out last)
        go_wp2_with (at_make; refine make_bools rfl _ _ rfl j (by omega) rfl rfl ?_; intro W HW)
        refine (next_at (HO.out.below (show Below w.heap.size w W by rw [HW.out]; exact alloc_below HB.out)) hla HX.out).mono ?_
        rintro e w3 ⟨rfl, rfl⟩
        go_wp2_with fail
        go_ret
        exact ⟨rfl, by rw [HW.out]; exact alloc_below HB.out⟩
      · obtain ⟨a0, ha0, hnx, hlv0⟩ := next_live (on := on) (by rw [HL.out]; exact hl0) last
        have HX := Lib.hid (And.intro ha0 (And.intro hnx hlv0))
        rw [HN.out] at ha0
        have hl0' : ((live : Int) == 0) = false := beq_eq_false_iff_ne.2 (by omega)
        clear hnx hlv0
        go_wp2_with (at_make; refine make_bools rfl _ _ rfl j (by omega) rfl rfl ?_; intro W HW)
        have hW := HW.out
        have HWB := Lib.hid (show Below w.heap.size w W by rw [hW]; exact alloc_below HB.out)
        have HW0 := Lib.hid (show FairAt on a0 live w2.heap.size 0 a0 W from .inl ⟨0, by omega, by have := HX.out.1; omega, HX.out.2.2, by unfold spot; rw [Nat.add_zero, Nat.mod_eq_of_lt HX.out.1], rfl, fun q hq => by
          have hk := spot_lt (n := on.length) (a0 := a0) (p := q) (by omega)
          rw [hW, World.cell?_alloc_new, made_cell (by rw [← HN.out]; exact hk)]
          simp⟩)
        have HWF := Lib.hid (show ∀ q, W.frozen? ⟨w2.heap.size, q, none⟩ = false from fun q => by rw [hW]; simp)
        clear hW
        refine (next_at (HO.out.below HWB.out) hla HX.out.2.1).mono ?_
        rintro e w3 ⟨rfl, rfl⟩
        go_wp2_with fail
        go_loopw [4, 9, 11] (fun _ v i wr => ∃ r k : Nat, r ≤ live ∧ k < j ∧ i = .int .i64 r ∧ v = .int .i64 k ∧ FairAt on a0 live w2.heap.size r k wr ∧ Below w.heap.size w wr ∧ (∀ q, wr.frozen? ⟨w2.heap.size, q, none⟩ = false)) (fun _ _ i _ => live - (intOf i).toNat)
        case atStart => exact ⟨0, a0, Nat.zero_le _, ha0, rfl, rfl, HW0.out, HWB.out, HWF.out⟩
        case round =>
          obtain ⟨r, k, hr, hk, rfl, rfl, hf, hb, hfz⟩ := hrel
          by_cases hrl : r < live
          · rcases hf with ⟨p, hi, hp, hl, rfl, hc, hm⟩ | ⟨he, _⟩
            · obtain ⟨k2, hnx, hk2, hf2⟩ := fair_step HX.out.1 HX.out.2.2 ((cnt_any on a0).trans HL.out) hp hl hc hm
              have hm0 := hm p hp
              rw [show (decide (p < p) && liveAt on a0 p) = false by simp] at hm0
              obtain ⟨v, hv⟩ := get_of_lt (of := on) (j := spot on.length a0 p) (by have := HN.out; omega)
              have hv1 : v = true := by rw [← onB_of hv]; exact hl
              subst hv1
              obtain ⟨b, off, rfl, hcc⟩ := HAT.out _ _ hv
              have g0 := cell_on hcc hb
              have hf0 := hfz (spot on.length a0 p)
              obtain ⟨s, hs⟩ : ∃ s, spot on.length a0 p = s := ⟨_, rfl⟩
              rw [hs] at hk hnx hf2 hm0 g0 hf0 ⊢
              have HF2 := Lib.hid (And.intro hf2 (And.intro hfz (And.intro hnx (And.intro hk2 hb))))
              clear hv hl hc hm hs hf2 hfz hnx hk2 hb hcc
              have d0 : decide ((s : Int) < 0) = false := decide_eq_false (by omega)
              have d1 : decide ((j : Int) ≤ (s : Int)) = false := decide_eq_false (by omega)
              go_wp2_with fail
              have HSB := Lib.hid (HF2.out.2.2.2.2.setCell (p := ⟨w2.heap.size, s, none⟩) HB.out.size (.bool true))
              clear hm0 g0 hf0
              refine (next_at (HO.out.below HSB.out) (by unfold I64; omega) HF2.out.2.2.1).mono ?_
              rintro e w4 ⟨rfl, rfl⟩
              go_wp2_with fail
              go_roundw
              case rel => exact ⟨r + 1, k2, by omega, by have := HF2.out.2.2.2.1; have := HN.out; omega, by go_num, rfl, HF2.out.1, HSB.out, fun q => by rw [World.frozen?_setCell]; exact HF2.out.2.1 q⟩
              case measure => simp [intOf]; omega
            · omega
          · obtain rfl : r = live := by omega
            rcases hf with ⟨p, hi, _⟩ | ⟨_, rfl⟩
            · omega
            · have HB3 := Lib.hid hb
              clear hb hfz
              go_wp2_with fail
              go_ret
              exact ⟨rfl, HB3.out⟩
end Go.Proofs.YtlhnpaehhfimjaaDoor

