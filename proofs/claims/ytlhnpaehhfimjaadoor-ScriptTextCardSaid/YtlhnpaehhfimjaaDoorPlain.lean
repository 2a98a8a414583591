/-
  The walk of script.Plain.
-/
import Derived.Test.YtlhnpaehhfimjaaDoorOwn
namespace Go.Proofs.YtlhnpaehhfimjaaDoor
open Go.RowKit Go.Maps
/-- What is left of a script without its stalls, from the number of picks so far and until when each thread is stalled. -/
def plainGo (threads : Int) : List Pick → Int → (Int → Int) → List Pick
  | [], _, _ => []
  | p :: ps, t, u =>
    if rightB threads p then
      if p.k = 2 then plainGo threads ps (t + 1) (fun s => if s = p.a then max (u p.a) (t + 1 + p.b) else u s)
      else if p.k = 1 then (if u p.a < t + 1 then p :: plainGo threads ps (t + 1) u else plainGo threads ps (t + 1) u)
      else [p]
    else plainGo threads ps t u
def plainL (threads : Int) (l : List Pick) : List Pick := plainGo threads l 0 (fun _ => 0)
/-- The call returns a slice that reads as l; what lay in w lies as it lay. -/
def GivesL (l : List Pick) (w : World) (e : Ending) (w' : World) : Prop := ∃ v, e = .returned v ∧ LAt w' v l ∧ Below w.heap.size w w'
theorem right_kinds {threads : Int} {p : Pick} (h : rightB threads p = true) : p.k = 1 ∨ p.k = 2 ∧ 0 ≤ p.b ∧ p.b ≤ 1048576 ∨ p.k = 3 := by
  unfold rightB at h
  by_cases h1 : p.k = 1
  · exact .inl h1
  · rw [if_neg h1] at h
    by_cases h2 : p.k = 2
    · rw [if_pos h2] at h
      simp only [Bool.and_eq_true, decide_eq_true_eq] at h
      exact .inr (.inl ⟨h2, h.1.2.1, h.1.2.2⟩)
    · rw [if_neg h2] at h
      by_cases h3 : p.k = 3
      · exact .inr (.inr h3)
      · rw [if_neg h3] at h; cases h
/-- What holds at the head of Plain's loop. -/
def PlainAt (threads : Int) (l : List Pick) (w : World) (out : Value) (j t : Nat) (wr : World) : Prop :=
  ∃ (acc : List Pick) (xs : List Value) (D : DataW Unit) (u : Int → Int), plainL threads l = acc ++ plainGo threads (l.drop j) t u ∧ acc.length ≤ j ∧ wr.ownsRow (w.heap.size + 1) 25 4 out acc.length xs ∧ RowOf w acc xs ∧
    wr.ownsMap Tryd.prog 3 (plainElem (H := Unit) Tryd.prog 3) w.heap.size j D ∧ MapIs D u ∧ (∀ s, 0 ≤ u s ∧ u s ≤ j + 1048576) ∧ Below w.heap.size w wr
theorem pick_a {w : World} {x : Value} {p : Pick} (h : PAt w x p) : I64 p.a := by obtain ⟨_, _, _, _, h, _⟩ := h; exact h
theorem pick_b {w : World} {x : Value} {p : Pick} (h : PAt w x p) : I64 p.b := by obtain ⟨_, _, _, _, _, h, _⟩ := h; exact h
theorem own_ne {w : World} {N : Nat} {e : TypeId} {size : Nat} {v : Value} {n : Nat} {xs : List Value} (h : w.ownsRow (N + 1) e size v n xs) : v.ownBlock = none ∨ v.ownBlock ≠ some N := by
  cases hv : v.ownBlock with
  | none => exact .inl rfl
  | some k => exact .inr (fun e => by have := (h.lt k hv).1; injection e with e; omega)
theorem own_ne' {w : World} {N : Nat} {e : TypeId} {size : Nat} {v : Value} {n : Nat} {xs : List Value} (h : w.ownsRow (N + 1) e size v n xs) : some N ≠ v.ownBlock := fun e => by have := (h.lt N e.symm).1; omega
theorem law3 : Keyed Tryd.prog 3 := int_keyed Tryd.underlying3
theorem wf_i64 {n : Int} (h : I64 n) : (Lit.int .i64 n).wf = true := by
  unfold I64 at h
  rw [← IntWalk.wrap64_in n h]; exact wrap64_wf n
theorem zero3 (w : World) : (zeroValue 3).run Tryd.prog w = .ok (.int .i64 0) w := by kernel_rfl

set_option maxRecDepth 20000 in
set_option maxHeartbeats 3200000 in
theorem plain_any (threads : Int) (x : Value) (l : List Pick) (w : World) (hl : LAt w x l) (hlen : l.length ≤ 1000000) :
    Calls Tryd.prog 15 #[.int .i64 threads, x] w (GivesL (plainL threads l) w) := by
  obtain ⟨a, cap, rfl, hlc, hcb, hat⟩ := hl
  unfold huge at hcb
  have HAT := Lib.hid hat
  clear hat
  obtain ⟨i0, hi, hz0, hz1, hz2⟩ := info_parts info25
  have HINFO := Lib.hid (And.intro hi (And.intro hz0 (And.intro hz1 hz2)))
  clear hi hz0 hz1 hz2
  have hmm := @run_makeMap Tryd.prog
  go_enter Tryd.func15, Tryd.ntmps15
  go_wp2_with fail
  go_loopw [5, 7, 13] (fun v t i wr => ∃ j t' : Nat, j ≤ l.length ∧ t' ≤ j ∧ i = .int .i64 j ∧ t = .int .i64 t' ∧ PlainAt threads l w v j t' wr) (fun _ _ i _ => l.length - (intOf i).toNat)
  case atStart =>
    exact ⟨0, 0, Nat.zero_le _, Nat.le_refl _, rfl, rfl, [], [], .map [], fun _ => 0, by simp [plainL], Nat.le_refl _, World.ownsRow_nil _ _ _ _, RowOf.nil _, World.ownsMap_made _ _ _ _, MapIs.nil, fun _ => by simp, below_alloc _ _⟩
  case round =>
    obtain ⟨j, t, hj, htj, rfl, rfl, acc, xs, D, u, hspec, hacc, hrow, hrd, hmap, hD, hu, hb⟩ := hrel
    have HS := Lib.hid (And.intro hspec (And.intro hrd (And.intro hD hu)))
    have HB := Lib.hid hb
    have HO := Lib.hid (And.intro hrow hmap)
    clear hspec hrow hrd hmap hD hu hb hmm
    by_cases hlt : j < l.length
    · obtain ⟨p, hp⟩ := get_of_lt hlt
      obtain ⟨b, off, x, c, ccap, rfl, rfl, h0, h1, h2, h3, hpp⟩ := HAT.out j p hp
      have g0 := cell_on h0 HB.out
      have g1 := cell_on h1 HB.out
      have g2 := cell_on h2 HB.out
      have g3 := cell_on h3 HB.out
      have HP := Lib.hid (And.intro hp hpp)
      clear hp hpp h0 h1 h2 h3
      obtain ⟨k, pa, pb, pc⟩ := p
      obtain ⟨r, hr⟩ : ∃ r, rightB threads ⟨k, pa, pb, pc⟩ = r := ⟨_, rfl⟩
      have HR := Lib.hid hr
      clear hr
      go_wp2_with fail
      refine (right_is (HP.out.2.below (alloc_below HB.out)) HR.out).mono ?_
      rintro e w1 ⟨rfl, hb⟩
      have hc := (box_later hb (by simp)).1
      have c0 : w1.cell? ⟨wr.heap.size, 0, none⟩ = some (.int .i64 k) := hc 0 _ rfl
      have c1 : w1.cell? ⟨wr.heap.size, 1, none⟩ = some (.int .i64 pa) := hc 1 _ rfl
      have c2 : w1.cell? ⟨wr.heap.size, 2, none⟩ = some (.int .i64 pb) := hc 2 _ rfl
      have c3 : w1.cell? ⟨wr.heap.size, 3, none⟩ = some (.slice c pc.length ccap) := hc 3 _ rfl
      have HB1 := Lib.hid (chain_alloc HB.out hb)
      have hba := below_of_alloc' hb
      have HO1 := Lib.hid (And.intro (owns_below HO.out.1 hba) (map_below HO.out.2 hba))
      clear hb hc hba g0 g1 g2 g3
      cases r with
      | false =>
        go_wp2_with fail
        go_roundw
        case rel =>
          refine ⟨j + 1, t, by omega, by omega, by go_num, rfl, acc, xs, D, u, ?_, by omega, HO1.out.1, HS.out.2.1, HO1.out.2.mono (Nat.le_succ j), HS.out.2.2.1, fun s => by have := HS.out.2.2.2 s; omega, HB1.out⟩
          rw [HS.out.1, drop_of_get HP.out.1, plainGo, HR.out]
          rfl
        case measure => simp [intOf]; omega
      | true =>
        rcases right_kinds HR.out with hk | ⟨hk, hb0, hb1⟩ | hk
        · simp only at hk
          subst hk
          obtain ⟨q, hq⟩ : ∃ q, u pa = q := ⟨_, rfl⟩
          have hq0 := HS.out.2.2.2 pa
          rw [hq] at hq0
          obtain ⟨hq1, hq2⟩ := hq0
          have HQ := Lib.hid hq
          clear hq
          have HW := Lib.hid (wf_i64 (pick_a HP.out.2))
          by_cases hd : q < (t : Int) + 1
          · go_wp2_with (first
              | (at_lookup; refine wpList_lookup_own_int _ rfl _ _ 46 rfl 3 3 .i64 law3 Tryd.underlying46 Tryd.underlying3 (zero3 _) w.heap.size j D rfl HO1.out.2 _ _ rfl (keyOf_int_mk Tryd.underlying3 HW.out) ?_; intro cc hat hwc; obtain rfl : q = cc := HQ.out.symm.trans (HS.out.2.2.1.get hat).symm; clear hat hwc)
              | (at_builtin; refine wpList_append_own _ rfl _ _ 22 rfl (w.heap.size + 1) 25 i0 _ 4 48 Tryd.underlying22 HINFO.out.1 HINFO.out.2.1 HINFO.out.2.2.1 HINFO.out.2.2.2 rfl (by decide) _ _ xs rfl (HO1.out.1.alloc _) ⟨w1.heap.size, 0, none⟩ 1 1 [.int .i64 1, .int .i64 pa, .int .i64 pb, .slice c pc.length ccap] rfl rfl (four_new rfl) (by simp [Value.oneCell']) (by unfold maxLen; omega) (by omega) (by have := HB1.out.size; simp; omega) ?_; intro v' w2 hown2 hgrow2 _))
            have HB2 := Lib.hid (grown_below (alloc_below HB1.out) hgrow2 (HO1.out.1.alloc _) (Nat.le_succ _) (alloc_below HB1.out).size)
            have HR2 := Lib.hid hown2
            have HM2 := Lib.hid ((HO1.out.2.alloc _).kept hgrow2 (own_ne' (HO1.out.1)))
            clear hown2 hgrow2
            go_wp2_with fail
            go_roundw
            case rel =>
              refine ⟨j + 1, t + 1, by omega, by omega, by go_num, by go_num, acc ++ [⟨1, pa, pb, pc⟩], _, D, u, ?_, by simp; omega, by simpa using HR2.out, HS.out.2.1.snoc HP.out.2, HM2.out.mono (Nat.le_succ j), HS.out.2.2.1, fun s => by have := HS.out.2.2.2 s; omega, HB2.out⟩
              rw [HS.out.1, drop_of_get HP.out.1, plainGo, HR.out]
              simp only [if_true, HQ.out]
              rw [if_neg (by decide), if_pos hd, List.append_assoc]
              rfl
            case measure => simp [intOf]; omega
          · have hd' : decide (q < (t : Int) + 1) = false := decide_eq_false hd
            go_wp2_with (first
              | (at_lookup; refine wpList_lookup_own_int _ rfl _ _ 46 rfl 3 3 .i64 law3 Tryd.underlying46 Tryd.underlying3 (zero3 _) w.heap.size j D rfl HO1.out.2 _ _ rfl (keyOf_int_mk Tryd.underlying3 HW.out) ?_; intro cc hat hwc; obtain rfl : q = cc := HQ.out.symm.trans (HS.out.2.2.1.get hat).symm; clear hat hwc))
            go_wp2_with fail
            go_roundw
            case rel =>
              refine ⟨j + 1, t + 1, by omega, by omega, by go_num, by go_num, acc, xs, D, u, ?_, by omega, HO1.out.1, HS.out.2.1, HO1.out.2.mono (Nat.le_succ j), HS.out.2.2.1, fun s => by have := HS.out.2.2.2 s; omega, HB1.out⟩
              rw [HS.out.1, drop_of_get HP.out.1, plainGo, HR.out]
              simp only [if_true, HQ.out]
              rw [if_neg (by decide), if_neg (by omega)]
              rfl
            case measure => simp [intOf]; omega
        · simp only at hk hb0 hb1
          subst hk
          obtain ⟨q, hq⟩ : ∃ q, u pa = q := ⟨_, rfl⟩
          have hq0 := HS.out.2.2.2 pa
          rw [hq] at hq0
          obtain ⟨hq1, hq2⟩ := hq0
          have HQ := Lib.hid hq
          clear hq
          have HW := Lib.hid (wf_i64 (pick_a HP.out.2))
          by_cases hmx : q < (t : Int) + 1 + pb
          · go_wp2_with (first
              | (at_lookup; refine wpList_lookup_own_int _ rfl _ _ 46 rfl 3 3 .i64 law3 Tryd.underlying46 Tryd.underlying3 (zero3 _) w.heap.size j D rfl HO1.out.2 _ _ rfl (keyOf_int_mk Tryd.underlying3 HW.out) ?_; intro cc hat hwc; obtain rfl : q = cc := HQ.out.symm.trans (HS.out.2.2.1.get hat).symm; clear hat hwc)
              | (at_mapUpdate; refine wpList_mapUpdate_own _ rfl _ _ _ 46 rfl 3 3 law3 Tryd.underlying46 _ w.heap.size j D rfl HO1.out.2 (by unfold maxLen; omega) _ _ _ rfl rfl (keyOf_int_mk Tryd.underlying3 HW.out) (.lit (.int .i64 ((t : Int) + 1 + pb))) [] (plainElem_int Tryd.underlying3 (wf_i64 (by unfold I64; omega))) ?_; intro w2 hown2 hgrow2))
            have HB2 := Lib.hid (HB1.out.grown hgrow2 HB1.out.size (fun k hk => by cases hk; exact Nat.le_refl _))
            have HM2 := Lib.hid hown2
            have HR2 := Lib.hid (HO1.out.1.kept hgrow2 (own_ne HO1.out.1))
            clear hown2 hgrow2
            go_wp2_with fail
            go_roundw
            case rel =>
              refine ⟨j + 1, t + 1, by omega, by omega, by go_num, by go_num, acc, xs, _, _, ?_, by omega, HR2.out, HS.out.2.1, HM2.out, HS.out.2.2.1.put pa ((t : Int) + 1 + pb), ?_, HB2.out⟩
              · rw [HS.out.1, drop_of_get HP.out.1, plainGo, HR.out]
                simp only [if_true, HQ.out]
                rw [show max q ((t : Int) + 1 + pb) = ((t : Int) + 1 + pb) by omega]
                rfl
              · intro s
                have := HS.out.2.2.2 s
                split <;> omega
            case measure => simp [intOf]; omega
          · go_wp2_with (first
              | (at_lookup; refine wpList_lookup_own_int _ rfl _ _ 46 rfl 3 3 .i64 law3 Tryd.underlying46 Tryd.underlying3 (zero3 _) w.heap.size j D rfl HO1.out.2 _ _ rfl (keyOf_int_mk Tryd.underlying3 HW.out) ?_; intro cc hat hwc; obtain rfl : q = cc := HQ.out.symm.trans (HS.out.2.2.1.get hat).symm; clear hat hwc)
              | (at_mapUpdate; refine wpList_mapUpdate_own _ rfl _ _ _ 46 rfl 3 3 law3 Tryd.underlying46 _ w.heap.size j D rfl HO1.out.2 (by unfold maxLen; omega) _ _ _ rfl rfl (keyOf_int_mk Tryd.underlying3 HW.out) (.lit (.int .i64 q)) [] (plainElem_int Tryd.underlying3 (wf_i64 (by unfold I64; omega))) ?_; intro w2 hown2 hgrow2))
            have HB2 := Lib.hid (HB1.out.grown hgrow2 HB1.out.size (fun k hk => by cases hk; exact Nat.le_refl _))
            have HM2 := Lib.hid hown2
            have HR2 := Lib.hid (HO1.out.1.kept hgrow2 (own_ne HO1.out.1))
            clear hown2 hgrow2
            go_wp2_with fail
            go_roundw
            case rel =>
              refine ⟨j + 1, t + 1, by omega, by omega, by go_num, by go_num, acc, xs, _, _, ?_, by omega, HR2.out, HS.out.2.1, HM2.out, HS.out.2.2.1.put pa q, ?_, HB2.out⟩
              · rw [HS.out.1, drop_of_get HP.out.1, plainGo, HR.out]
                simp only [if_true, HQ.out]
                rw [show max q ((t : Int) + 1 + pb) = q by omega]
                rfl
              · intro s
                have := HS.out.2.2.2 s
                split <;> omega
            case measure => simp [intOf]; omega
        · simp only at hk
          subst hk
          go_wp2_with (first
            | (at_builtin; refine wpList_append_own _ rfl _ _ 22 rfl (w.heap.size + 1) 25 i0 _ 4 48 Tryd.underlying22 HINFO.out.1 HINFO.out.2.1 HINFO.out.2.2.1 HINFO.out.2.2.2 rfl (by decide) _ _ xs rfl (HO1.out.1.alloc _) ⟨w1.heap.size, 0, none⟩ 1 1 [.int .i64 3, .int .i64 pa, .int .i64 pb, .slice c pc.length ccap] rfl rfl (four_new rfl) (by simp [Value.oneCell']) (by unfold maxLen; omega) (by omega) (by have := HB1.out.size; simp; omega) ?_; intro v' w2 hown2 hgrow2 _))
          have HB2 := Lib.hid (grown_below (alloc_below HB1.out) hgrow2 (HO1.out.1.alloc _) (Nat.le_succ _) (alloc_below HB1.out).size)
          have HR2 := Lib.hid hown2
          have HM2 := Lib.hid ((HO1.out.2.alloc _).kept hgrow2 (own_ne' (HO1.out.1)))
          clear hown2 hgrow2
          go_wp2_with fail
          go_ret
          refine ⟨_, rfl, ?_, HB2.out⟩
          rw [HS.out.1, drop_of_get HP.out.1, plainGo, HR.out]
          simp only [if_true]
          rw [if_neg (by decide), if_neg (by decide)]
          exact lat_of_owns (by simpa using HR2.out) ((HS.out.2.1.snoc HP.out.2).below HB2.out)
    · have : j = l.length := by omega
      subst this
      go_wp2_with fail
      go_ret
      exact ⟨_, rfl, by rw [HS.out.1, List.drop_length, plainGo, List.append_nil]; exact lat_of_owns HO.out.1 (HS.out.2.1.below HB.out), HB.out⟩
end Go.Proofs.YtlhnpaehhfimjaaDoor
