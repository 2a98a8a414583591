/-
  The walks of hallmootref27.Same, hallmootref27.Few and the law's own right.
-/
import Derived.Test.YtlhnpaehhfimjaaDoorRight
namespace Go.Proofs.YtlhnpaehhfimjaaDoor
open Go.RowKit
def sameC : List Int → List Int → Bool
  | [], [] => true
  | x :: xs, y :: ys => (x == y) && sameC xs ys
  | _, _ => false
def sameP (p q : Pick) : Bool := (p.k == q.k) && (p.a == q.a) && (p.b == q.b) && sameC p.c q.c
def sameL : List Pick → List Pick → Bool
  | [], [] => true
  | x :: xs, y :: ys => sameP x y && sameL xs ys
  | _, _ => false
theorem sameC_len : ∀ {l m : List Int}, l.length ≠ m.length → sameC l m = false
  | [], [], h => by simp at h
  | [], _ :: _, _ => rfl
  | _ :: _, [], _ => rfl
  | x :: xs, y :: ys, h => by rw [sameC, sameC_len (by simpa using h)]; simp
theorem sameL_len : ∀ {l m : List Pick}, l.length ≠ m.length → sameL l m = false
  | [], [], h => by simp at h
  | [], _ :: _, _ => rfl
  | _ :: _, [], _ => rfl
  | x :: xs, y :: ys, h => by rw [sameL, sameL_len (by simpa using h)]; simp
theorem sameC_iff : ∀ {l m : List Int}, sameC l m = true ↔ l = m
  | [], [] => by simp [sameC]
  | [], _ :: _ => by simp [sameC]
  | _ :: _, [] => by simp [sameC]
  | x :: xs, y :: ys => by rw [sameC, Bool.and_eq_true, sameC_iff, beq_iff_eq, List.cons.injEq]
theorem sameP_iff {p q : Pick} : sameP p q = true ↔ p = q := by
  obtain ⟨k, a, b, c⟩ := p
  obtain ⟨k', a', b', c'⟩ := q
  simp only [sameP, Bool.and_eq_true, beq_iff_eq, sameC_iff, Pick.mk.injEq, and_assoc]
theorem sameL_iff : ∀ {l m : List Pick}, sameL l m = true ↔ l = m
  | [], [] => by simp [sameL]
  | [], _ :: _ => by simp [sameL]
  | _ :: _, [] => by simp [sameL]
  | x :: xs, y :: ys => by rw [sameL, Bool.and_eq_true, sameL_iff, sameP_iff, List.cons.injEq]
theorem sameL_drop {l m : List Pick} {j : Nat} {p q : Pick} (h1 : l[j]? = some p) (h2 : m[j]? = some q) : sameL (l.drop j) (m.drop j) = (sameP p q && sameL (l.drop (j + 1)) (m.drop (j + 1))) := by
  rw [drop_of_get h1, drop_of_get h2, sameL]
theorem sameC_drop {l m : List Int} {j : Nat} {p q : Int} (h1 : l[j]? = some p) (h2 : m[j]? = some q) : sameC (l.drop j) (m.drop j) = ((p == q) && sameC (l.drop (j + 1)) (m.drop (j + 1))) := by
  rw [drop_of_get h1, drop_of_get h2, sameC]
theorem below_drew {B : Nat} {a w : World} (h : Below B a w) (n : Nat) : Below B a (w.drewN n) := h.trans ⟨rfl, rfl, rfl, Nat.le_refl _, fun _ _ => rfl⟩

set_option maxRecDepth 20000 in
set_option maxHeartbeats 3200000 in
theorem same_any (x y : Value) (l m : List Pick) (w : World) (hl : LAt w x l) (hm : LAt w y m) :
    Calls Tryd.prog 14 #[x, y] w fun e w' => e = .returned (.bool (sameL l m)) ∧ Below w.heap.size w w' := by
  obtain ⟨a, cap, rfl, hlc, hcb, hat⟩ := hl
  obtain ⟨a', cap', rfl, hlc', hcb', hat'⟩ := hm
  unfold huge at hcb hcb'
  have HAT := Lib.hid (And.intro hat hat')
  clear hat hat'
  by_cases hne : l.length = m.length
  rotate_left
  · have hne' : ((l.length : Int) != (m.length : Int)) = true := by simpa using (show ¬ (l.length : Int) = (m.length : Int) by omega)
    have HS := Lib.hid (sameL_len hne)
    clear hne
    go_enter Tryd.func14, Tryd.ntmps14
    go_wp2_with fail
    go_ret
    exact ⟨ret_bool HS.out.symm, Below.refl _ _⟩
  have hne' : ((l.length : Int) != (m.length : Int)) = false := by simpa using (show (l.length : Int) = (m.length : Int) by omega)
  have HL := Lib.hid hne
  clear hne
  go_enter Tryd.func14, Tryd.ntmps14
  go_wp2_with fail
  go_loopw [5] (fun i wr => ∃ j : Nat, j ≤ l.length ∧ i = .int .i64 j ∧ sameL (l.drop j) (m.drop j) = sameL l m ∧ Below w.heap.size w wr) (fun i _ => l.length - (intOf i).toNat)
  case atStart => exact ⟨0, Nat.zero_le _, rfl, by simp, Below.refl _ _⟩
  case round =>
    obtain ⟨j, hj, rfl, hs, hb⟩ := hrel
    have HS := Lib.hid hs
    have HB := Lib.hid hb
    clear hs hb hne'
    by_cases hlt : j < l.length
    · have hlt' : j < m.length := by have := HL.out; omega
      obtain ⟨p, hp⟩ := get_of_lt hlt
      obtain ⟨q, hq⟩ := get_of_lt hlt'
      obtain ⟨b, off, x, c, ccap, rfl, rfl, h0, h1, h2, h3, hpp⟩ := (HAT.out.1.below HB.out) j p hp
      obtain ⟨b', off', x', c', ccap', rfl, rfl, g0, g1, g2, g3, hqq⟩ := (HAT.out.2.below HB.out) j q hq
      obtain ⟨ac, acap, hx, _, _, _, hcl, _, hci⟩ := hpp
      obtain ⟨ac', acap', hx', _, _, _, hcl', _, hci'⟩ := hqq
      obtain ⟨k, pa, pb, pc⟩ := p
      obtain ⟨k', pa', pb', pc'⟩ := q
      simp only at h0 h1 h2 h3 g0 g1 g2 g3 hx hx' hcl hcl' hci hci'
      have e1 : c = ac ∧ ccap = acap := by
        have := congrArg (fun v : Array Value => v[3]?) (Value.agg.inj hx)
        simp only [List.getElem?_toArray, List.getElem?_cons_succ, List.getElem?_cons_zero, Option.some.injEq, Value.slice.injEq, true_and] at this
        exact this
      have e2 : c' = ac' ∧ ccap' = acap' := by
        have := congrArg (fun v : Array Value => v[3]?) (Value.agg.inj hx')
        simp only [List.getElem?_toArray, List.getElem?_cons_succ, List.getElem?_cons_zero, Option.some.injEq, Value.slice.injEq, true_and] at this
        exact this
      obtain ⟨rfl, rfl⟩ := e1
      obtain ⟨rfl, rfl⟩ := e2
      have HPQ := Lib.hid (And.intro hp hq)
      have HC := Lib.hid (And.intro hci hci')
      clear hp hq hx hx' hci hci'
      unfold big at hcl hcl'
      by_cases d1 : k = k'
      rotate_left
      · have d1' : (k != k') = true := by simpa using d1
        have HD := Lib.hid d1
        clear d1
        go_wp2_with fail
        go_quiet (fail)
        go_wp2_with fail
        go_ret
        exact ⟨ret_bool (by rw [← HS.out, sameL_drop HPQ.out.1 HPQ.out.2]; simp [sameP, HD.out]), below_drew HB.out _⟩
      subst d1
      by_cases d2 : pa = pa'
      rotate_left
      · have d2' : (pa != pa') = true := by simpa using d2
        have HD := Lib.hid d2
        clear d2
        go_wp2_with fail
        go_quiet (fail)
        go_wp2_with fail
        go_ret
        exact ⟨ret_bool (by rw [← HS.out, sameL_drop HPQ.out.1 HPQ.out.2]; simp [sameP, HD.out]), below_drew HB.out _⟩
      subst d2
      by_cases d3 : pb = pb'
      rotate_left
      · have d3' : (pb != pb') = true := by simpa using d3
        have HD := Lib.hid d3
        clear d3
        go_wp2_with fail
        go_quiet (fail)
        go_wp2_with fail
        go_ret
        exact ⟨ret_bool (by rw [← HS.out, sameL_drop HPQ.out.1 HPQ.out.2]; simp [sameP, HD.out]), below_drew HB.out _⟩
      subst d3
      by_cases d4 : pc.length = pc'.length
      rotate_left
      · have d4' : ((pc.length : Int) != (pc'.length : Int)) = true := by simpa using (show ¬ (pc.length : Int) = (pc'.length : Int) by omega)
        have HD := Lib.hid (sameC_len d4)
        clear d4
        go_wp2_with fail
        go_quiet (fail)
        go_wp2_with fail
        go_ret
        exact ⟨ret_bool (by rw [← HS.out, sameL_drop HPQ.out.1 HPQ.out.2]; simp [sameP, HD.out]), below_drew HB.out _⟩
      have d4' : ((pc.length : Int) != (pc'.length : Int)) = false := by simpa using (show (pc.length : Int) = (pc'.length : Int) by omega)
      have HD := Lib.hid d4
      clear d4
      go_wp2_with fail
      go_quiet (fail)
      obtain ⟨wq, hwq⟩ : ∃ wq, wq = wr.drewN nq := ⟨_, rfl⟩
      have HQ := Lib.hid (show Below wr.heap.size wr wq by rw [hwq]; exact below_drew (Below.refl _ _) _)
      rw [← hwq]
      clear hwq d4'
      have HH := Lib.hid (And.intro (And.intro h0 (And.intro h1 (And.intro h2 h3))) (And.intro g0 (And.intro g1 (And.intro g2 g3))))
      clear h0 h1 h2 h3 g0 g1 g2 g3
      go_wp2_with fail
      go_loopw [6] (fun i wx => ∃ n : Nat, n ≤ pc.length ∧ i = .int .i64 n ∧ sameC (pc.drop n) (pc'.drop n) = sameC pc pc' ∧ Below wr.heap.size wr wx) (fun i _ => pc.length - (intOf i).toNat)
      case atStart => exact ⟨0, Nat.zero_le _, rfl, by simp, HQ.out⟩
      case round =>
        obtain ⟨n, hn, rfl, hsc, hbx⟩ := hrel
        have HSC := Lib.hid hsc
        have HX := Lib.hid hbx
        clear hsc hbx HQ
        have h3 := cell_on HH.out.1.2.2.2 HX.out
        have g3 := cell_on HH.out.2.2.2.2 HX.out
        by_cases hnl : n < pc.length
        · have hnl' : n < pc'.length := by have := HD.out; omega
          obtain ⟨u, hu⟩ := get_of_lt hnl
          obtain ⟨u', hu'⟩ := get_of_lt hnl'
          obtain ⟨cb, coff, rfl, hcu⟩ := (HC.out.1.below HX.out) n u hu
          obtain ⟨cb', coff', rfl, hcu'⟩ := (HC.out.2.below HX.out) n u' hu'
          have HU := Lib.hid (And.intro hu hu')
          clear hu hu'
          by_cases du : u = u'
          · subst du
            go_wp2_with fail
            go_quiet (fail)
            go_wp2_with fail
            go_roundw
            case rel => exact ⟨n + 1, by omega, by go_num, by rw [← HSC.out, sameC_drop HU.out.1 HU.out.2]; simp, below_drew HX.out _⟩
            case measure => simp [intOf]; omega
          · have du' : (u != u') = true := by simpa using du
            have HDU := Lib.hid du
            clear du
            go_wp2_with fail
            go_quiet (fail)
            go_wp2_with fail
            go_ret
            exact ⟨ret_bool (by rw [← HS.out, sameL_drop HPQ.out.1 HPQ.out.2, sameP]; simp only []; rw [← HSC.out, sameC_drop HU.out.1 HU.out.2]; simp [HDU.out]), below_drew (chain HB.out HX.out) _⟩
        · have : n = pc.length := by omega
          subst this
          go_wp2_with fail
          go_roundw
          case rel =>
            refine ⟨j + 1, by omega, by go_num, ?_, chain HB.out HX.out⟩
            rw [← HS.out, sameL_drop HPQ.out.1 HPQ.out.2, sameP]
            simp only []
            have hd : pc'.drop pc.length = [] := List.drop_eq_nil_of_le (by have := HD.out; omega)
            rw [← HSC.out, List.drop_length, hd]
            simp [sameC]
          case measure => simp [intOf]; omega
    · have : j = l.length := by omega
      subst this
      go_wp2_with fail
      go_ret
      exact ⟨ret_bool (by rw [← HS.out, List.drop_length, List.drop_eq_nil_of_le (by have := HL.out; omega)]; rfl), HB.out⟩
def fewB (most : Int) (l : List Pick) : Bool := decide ((l.length : Int) ≤ most) && l.all fun p => decide (p.c.length ≤ 80)
theorem few_drop {l : List Pick} {j : Nat} {p : Pick} (h : l[j]? = some p) : ((l.drop j).all fun p => decide (p.c.length ≤ 80)) = (decide (p.c.length ≤ 80) && (l.drop (j + 1)).all fun p => decide (p.c.length ≤ 80)) := by
  rw [drop_of_get h, List.all_cons]
set_option maxHeartbeats 800000 in
theorem few_any (most : Int) (x : Value) (l : List Pick) (w : World) (hl : LAt w x l) :
    Calls Tryd.prog 11 #[x, .int .i64 most] w fun e w' => e = .returned (.bool (fewB most l)) ∧ w = w' := by
  obtain ⟨a, cap, rfl, hlc, hcb, hat⟩ := hl
  unfold huge at hcb
  by_cases hmost : most < (l.length : Int)
  · go_enter Tryd.func11, Tryd.ntmps11
    go_wp2_with fail
    go_ret
    exact ⟨ret_bool (by simp [fewB, show ¬ (l.length : Int) ≤ most by omega]), rfl⟩
  have hmost' : decide (most < (l.length : Int)) = false := decide_eq_false hmost
  go_enter Tryd.func11, Tryd.ntmps11
  go_wp2_with fail
  go_loop [5] (fun i => ∃ j : Nat, j ≤ l.length ∧ i = .int .i64 j ∧ ((l.drop j).all fun p => decide (p.c.length ≤ 80)) = l.all fun p => decide (p.c.length ≤ 80)) (fun i => l.length - (intOf i).toNat)
  case atStart => exact ⟨0, Nat.zero_le _, rfl, by simp⟩
  case round =>
    obtain ⟨j, hj, rfl, hw⟩ := hrel
    have HW := Lib.hid hw
    clear hw hmost'
    by_cases hlt : j < l.length
    · obtain ⟨p, hp⟩ := get_of_lt hlt
      obtain ⟨b, off, x, c, ccap, rfl, rfl, h0, h1, h2, h3, hpp⟩ := hat j p hp
      obtain ⟨_, _, _, _, _, _, hcl, _, _⟩ := hpp
      unfold big at hcl
      have HP := Lib.hid hp
      clear hp h0 h1 h2
      by_cases h80 : 80 < (p.c.length : Int)
      · go_wp2_with fail
        go_ret
        exact ⟨ret_bool (by rw [fewB, ← HW.out, few_drop HP.out]; simp [show ¬ p.c.length ≤ 80 by omega]), rfl⟩
      · have h80' : decide (80 < (p.c.length : Int)) = false := decide_eq_false h80
        go_wp2_with fail
        go_round
        case rel => exact ⟨j + 1, by omega, by go_num, by rw [← HW.out, few_drop HP.out]; simp [show p.c.length ≤ 80 by omega]⟩
        case measure => simp [intOf]; omega
    · have : j = l.length := by omega
      subst this
      go_wp2_with fail
      go_ret
      exact ⟨ret_bool (by rw [fewB, ← HW.out]; simp; omega), rfl⟩

def rightAll (l : List Pick) : Bool := l.all (rightB 4)
theorem refRight_is {threads : Int} {x : Value} {p : Pick} {b : Bool} {w : World} (h : PAt w x p) (hb : rightB threads p = b) : Calls Tryd.prog 13 #[.int .i64 threads, x] w fun e w' => e = .returned (.bool b) ∧ Below w.heap.size w w' := by
  subst hb; exact refRight_any threads x p w h
theorem right_is {threads : Int} {x : Value} {p : Pick} {b : Bool} {w : World} (h : PAt w x p) (hb : rightB threads p = b) : Calls Tryd.prog 12 #[.int .i64 threads, x] w fun e w' => e = .returned (.bool b) ∧ Below w.heap.size w w' := by
  subst hb; exact right_any threads x p w h
set_option maxHeartbeats 800000 in
theorem lawRight_any (x : Value) (l : List Pick) (w : World) (hl : LAt w x l) :
    Calls Tryd.prog 21 #[x] w fun e w' => e = .returned (.bool (rightAll l)) ∧ Below w.heap.size w w' := by
  obtain ⟨a, cap, rfl, hlc, hcb, hat⟩ := hl
  unfold huge at hcb
  go_enter Tryd.func21, Tryd.ntmps21
  go_wp2_with fail
  go_loopw [3] (fun i wr => ∃ j : Nat, j ≤ l.length ∧ i = .int .i64 j ∧ rightAll (l.drop j) = rightAll l ∧ Below w.heap.size w wr) (fun i _ => l.length - (intOf i).toNat)
  case atStart => exact ⟨0, Nat.zero_le _, rfl, by simp, Below.refl _ _⟩
  case round =>
    obtain ⟨j, hj, rfl, hw, hb⟩ := hrel
    have HW := Lib.hid hw
    have HB := Lib.hid hb
    clear hw hb
    by_cases hlt : j < l.length
    · obtain ⟨p, hp⟩ := get_of_lt hlt
      obtain ⟨b, off, x, c, ccap, rfl, rfl, h0, h1, h2, h3, hpp⟩ := (hat.below HB.out) j p hp
      have HP := Lib.hid hp
      have HPP := Lib.hid hpp
      clear hp hpp
      obtain ⟨r, hr⟩ : ∃ r, rightB 4 p = r := ⟨_, rfl⟩
      have HR := Lib.hid hr
      clear hr
      go_wp2_with fail
      refine (refRight_is HPP.out HR.out).mono ?_
      rintro e w1 ⟨rfl, hb⟩
      have HB1 := Lib.hid (chain HB.out hb)
      clear hb
      cases r with
      | false =>
        go_wp2_with fail
        go_ret
        exact ⟨ret_bool (by rw [← HW.out, rightAll, drop_of_get HP.out]; simp [HR.out]), HB1.out⟩
      | true =>
        go_wp2_with fail
        go_roundw
        case rel => exact ⟨j + 1, by omega, by go_num, by rw [← HW.out, rightAll, rightAll, drop_of_get HP.out]; simp [HR.out], HB1.out⟩
        case measure => simp [intOf]; omega
    · have : j = l.length := by omega
      subst this
      go_wp2_with fail
      go_ret
      exact ⟨ret_bool (by rw [← HW.out]; simp [rightAll]), HB.out⟩
end Go.Proofs.YtlhnpaehhfimjaaDoor
