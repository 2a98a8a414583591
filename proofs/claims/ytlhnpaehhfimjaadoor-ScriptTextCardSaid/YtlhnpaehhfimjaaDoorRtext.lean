/-
  The walk of hallmootref27.Text.
-/
import Derived.Test.YtlhnpaehhfimjaaDoorRdig
import Derived.Test.YtlhnpaehhfimjaaDoorLtrip
import Derived.Deep.DeepCutAuto
import Derived.Test.YtlhnpaehhfimjaaDoorLater
namespace Go.Proofs.YtlhnpaehhfimjaaDoor
open Go.RowKit
theorem digits_at {x : Int} {T : ByteArray} {w : World} (h0 : 0 ≤ x) (h9 : x ≤ 9999999) (hT : num x = T) : Calls Tryd.prog 35 #[.int .i64 x] w fun e w' => e = .returned (.string T) ∧ Below w.heap.size w w' := by
  obtain ⟨n, rfl⟩ : ∃ n : Nat, x = n := ⟨x.toNat, by omega⟩
  subst hT
  exact digits_any n w (by omega)
theorem join_snoc (c : UInt8) (x : List UInt8) : ∀ (xs : List (List UInt8)), Lib.join (xs ++ [x]) [c] = if xs = [] then x else Lib.join xs [c] ++ c :: x
  | [] => by rw [List.nil_append, Lib.join_one]; rfl
  | [y] => by
    show Lib.join (y :: x :: []) [c] = _
    rw [join_two, Lib.join_one, Lib.join_one]
    simp
  | y :: z :: r => by
    have ih := join_snoc c x (z :: r)
    show Lib.join (y :: z :: (r ++ [x])) [c] = _
    rw [join_two, join_two, show z :: (r ++ [x]) = (z :: r) ++ [x] from rfl, ih]
    simp
/-- What holds at the head of Text's loop. -/
def TextAt (l : List Pick) (w : World) (S : ByteArray) (j : Nat) (wr : World) : Prop :=
  ∃ done : List (Pick × Nat), runsL l = done ++ runsL (l.drop j) ∧ S.data.toList = Lib.join (done.map textOf) [32] ∧ (done = [] ↔ j = 0) ∧ S.size ≤ j * 1501 ∧ Below w.heap.size w wr
def sepOf (j : Nat) : List UInt8 := if j = 0 then [] else [32]
theorem text_next {l : List Pick} {w wr wr' : World} {S S' : ByteArray} {j : Nat} {p : Pick} {T : Nat} (h : TextAt l w S j wr) (hp : l.drop j = p :: l.drop (j + 1)) (hT : runTail p (l.drop (j + 1)) = T) (hr : rightB 4 p = true) (hl : l.length ≤ 250)
    (hS : S'.data.toList = S.data.toList ++ (sepOf j ++ textOf (p, T + 1))) (hb : Below w.heap.size w wr') : TextAt l w S' (j + (T + 1)) wr' := by
  obtain ⟨done, h1, h2, h3, h4, h5⟩ := h
  have hTl : T ≤ (l.drop (j + 1)).length := by rw [← hT]; exact runTail_le _ _
  rw [List.length_drop] at hTl
  refine ⟨done ++ [(p, T + 1)], ?_, ?_, by simp, ?_, hb⟩
  · rw [h1, hp, runsL_cons, hT, List.drop_drop, List.append_assoc]
    rw [show j + 1 + T = j + (T + 1) by omega]
    rfl
  · rw [hS, List.map_append, List.map_cons, List.map_nil, join_snoc, h2]
    unfold sepOf
    by_cases hd : done = []
    · rw [if_pos (h3.1 hd), if_pos (by rw [hd]; rfl), hd]; rfl
    · rw [if_neg (fun e => hd (h3.2 e)), if_neg (by simpa using hd)]; rfl
  · have hw := word_len (p := p) (m := T + 1) hr (by omega)
    have hs : S'.size = S.size + ((sepOf j).length + (textOf (p, T + 1)).length) := by rw [← size_eq, hS, List.length_append, List.length_append, size_eq]
    have : (sepOf j).length ≤ 1 := by unfold sepOf; split <;> simp
    omega
/-- The runs' tail, place by place. -/
theorem tail_at {p : Pick} (hk : p.k = 1) : ∀ (l : List Pick) (i : Nat), (i < runTail p l → ∃ q, l[i]? = some q ∧ q.k = 1 ∧ q.a = p.a) ∧ (i = runTail p l → ∀ q, l[i]? = some q → ¬ (q.k = 1 ∧ q.a = p.a))
  | [], i => ⟨fun h => by simp [runTail] at h, fun _ q h => by simp at h⟩
  | q :: qs, i => by
    rw [runTail]
    by_cases hc : p.k = 1 ∧ q.k = 1 ∧ q.a = p.a
    · rw [if_pos hc]
      cases i with
      | zero => exact ⟨fun _ => ⟨q, rfl, hc.2⟩, fun h => by omega⟩
      | succ i =>
        have ih := tail_at hk qs i
        exact ⟨fun h => by simpa using ih.1 (by omega), fun h q' hq => ih.2 (by omega) q' (by simpa using hq)⟩
    · rw [if_neg hc]
      cases i with
      | zero =>
        refine ⟨fun h => by omega, fun _ q' hq => ?_⟩
        simp only [List.getElem?_cons_zero, Option.some.injEq] at hq
        subst hq
        exact fun c => hc ⟨hk, c⟩
      | succ i => exact ⟨fun h => by omega, fun h => by omega⟩
theorem ret_str' {a b : ByteArray} (h : a = b) : Ending.returned (.string a) = .returned (.string b) := by rw [h]
theorem cut_len {c : List Int} (h : ∀ x ∈ c, 0 ≤ x ∧ x ≤ 32) (hl : c.length ≤ 64) (k : Nat) : (Lib.join ((c.take k).map Lib.itoa) [44]).length ≤ 1408 := by
  have lc := join_len 21 [44] ((c.take k).map Lib.itoa) (by
    intro x hx
    obtain ⟨n, hn, rfl⟩ := List.mem_map.1 hx
    have := h n (List.mem_of_mem_take hn)
    exact Lib.itoa_length_le n (by omega) (by omega))
  simp only [List.length_map, List.length_take, List.length_cons, List.length_nil, Nat.reduceAdd] at lc
  have : min k c.length ≤ 64 := by omega
  have := Nat.mul_le_mul_right 22 this
  omega

theorem ints_of_pat {w : World} {p : Pick} {c : Option Addr} {cap : Nat} (h : PAt w (.agg #[.int .i64 p.k, .int .i64 p.a, .int .i64 p.b, .slice c p.c.length cap]) p) : IntsAt w c p.c := by
  obtain ⟨c', cap', hx, _, _, _, _, _, hat⟩ := h
  have e : c = c' := by
    have := congrArg (fun v : Array Value => v[3]?) (Value.agg.inj hx)
    simp only [List.getElem?_toArray, List.getElem?_cons_succ, List.getElem?_cons_zero, Option.some.injEq, Value.slice.injEq, true_and] at this
    exact this.1
  subst e
  exact hat
theorem text_three {a b : Int} {c : List Int} {m : Nat} : textOf (⟨3, a, b, c⟩, m) = 33 :: Lib.join (c.map Lib.itoa) [44] := by
  unfold textOf
  simp
theorem text_many {a b : Int} {c : List Int} {m : Nat} {TA TM : ByteArray} (hA : num a = TA) (hM : num (m : Int) = TM) (h : 1 < m) : textOf (⟨1, a, b, c⟩, m) = TA.data.toList ++ 120 :: TM.data.toList := by
  subst hA hM
  unfold textOf
  simp [num, h]
theorem text_once {a b : Int} {c : List Int} {m : Nat} {TA : ByteArray} (hA : num a = TA) (h : ¬ 1 < m) : textOf (⟨1, a, b, c⟩, m) = TA.data.toList := by
  subst hA
  unfold textOf
  simp [num, h]
theorem cuts_take {c : List Int} {k : Nat} {n : Int} (h : c[k]? = some n) : Lib.join ((c.take (k + 1)).map Lib.itoa) [44] = if k = 0 then Lib.itoa n else Lib.join ((c.take k).map Lib.itoa) [44] ++ 44 :: Lib.itoa n := by
  rw [take_of_get h, List.map_append, List.map_cons, List.map_nil, join_snoc]
  have hl := lt_of_get h
  by_cases hk : k = 0
  · subst hk; rw [if_pos (by simp), if_pos rfl]
  · rw [if_neg (by simp; exact ⟨hk, fun e => by rw [e] at hl; simp at hl⟩), if_neg hk]
theorem text_two {a b : Int} {c : List Int} {TA TB : ByteArray} {m : Nat} (hA : num a = TA) (hB : num b = TB) : textOf (⟨2, a, b, c⟩, m) = TA.data.toList ++ 126 :: TB.data.toList := by
  subst hA hB
  unfold textOf
  simp [num]
set_option maxRecDepth 20000 in
set_option maxHeartbeats 6400000 in
theorem refText_any (x : Value) (l : List Pick) (w : World) (hl : LAt w x l) (hr : rightAll l = true) (hlen : l.length ≤ 250) :
    Calls Tryd.prog 23 #[x] w fun e w' => e = .returned (.string ⟨(textL l).toArray⟩) ∧ Below w.heap.size w w' := by
  obtain ⟨a, cap, rfl, hlc, hcb, hat⟩ := hl
  unfold huge at hcb
  have HAT := Lib.hid hat
  have HR := Lib.hid hr
  clear hat hr
  go_enter Tryd.func23, Tryd.ntmps23
  go_wp2_with fail
  go_loopw [3, 4] (fun v i wr => ∃ (j : Nat) (S : ByteArray), j ≤ l.length ∧ i = .int .i64 j ∧ v = .string S ∧ TextAt l w S j wr) (fun _ i _ => l.length - (intOf i).toNat)
  case atStart => exact ⟨0, ⟨#[]⟩, Nat.zero_le _, rfl, rfl, [], rfl, rfl, by simp, Nat.le_refl _, Below.refl _ _⟩
  case round =>
    obtain ⟨j, S, hj, rfl, rfl, htx⟩ := hrel
    have HTX := Lib.hid htx
    have HB := Lib.hid (show Below w.heap.size w wr from by obtain ⟨_, _, _, _, _, h⟩ := htx; exact h)
    have hSz : S.size ≤ 400000 := by obtain ⟨_, _, _, _, h, _⟩ := htx; omega
    clear htx
    by_cases hlt : j < l.length
    · obtain ⟨p, hp⟩ := get_of_lt hlt
      obtain ⟨b, off, x, c, ccap, rfl, rfl, h0, h1, h2, h3, hpp⟩ := HAT.out j p hp
      have g0 := cell_on h0 HB.out
      have g1 := cell_on h1 HB.out
      have g2 := cell_on h2 HB.out
      have g3 := cell_on h3 HB.out
      have hpr : rightB 4 p = true := List.all_eq_true.1 HR.out p (mem_of_get hp)
      obtain ⟨T, hT⟩ : ∃ T, runTail p (l.drop (j + 1)) = T := ⟨_, rfl⟩
      have HTL := Lib.hid (show j + (T + 1) ≤ l.length by have := runTail_le p (l.drop (j + 1)); rw [hT, List.length_drop] at this; omega)
      have HX := Lib.hid (drop_of_get hp)
      have HPP := Lib.hid hpp
      have HT := Lib.hid hT
      have HRT := Lib.hid hpr
      clear hp h0 h1 h2 h3 hpp hT hpr
      obtain ⟨W, hW⟩ : ∃ W, W = wr.alloc (.cells #[.int .i64 p.k, .int .i64 p.a, .int .i64 p.b, .slice c p.c.length ccap] 25) := ⟨_, rfl⟩
      have HW := Lib.hid (show Below w.heap.size w W ∧ W.cell? ⟨wr.heap.size, 0, none⟩ = some (.int .i64 p.k) ∧ W.cell? ⟨wr.heap.size, 1, none⟩ = some (.int .i64 p.a) ∧ W.cell? ⟨wr.heap.size, 2, none⟩ = some (.int .i64 p.b) ∧ W.cell? ⟨wr.heap.size, 3, none⟩ = some (.slice c p.c.length ccap) by
        rw [hW]; exact ⟨alloc_below HB.out, by simp, by simp, by simp, by simp⟩)
      have HWE := Lib.hid hW
      clear hW
      obtain ⟨k, pa, pb, pc⟩ := p
      rcases right_kinds HRT.out with hk | ⟨hk, _⟩ | hk
      · simp only at hk
        subst hk
        have ra : 0 ≤ pa := (right_one HRT.out rfl).1
        have ra4 : pa < 4 := (right_one HRT.out rfl).2.1
        obtain ⟨TA, hTA⟩ : ∃ TA, num pa = TA := ⟨_, rfl⟩
        have sA : TA.size ≤ 21 := by rw [← hTA]; exact num_le (by unfold I64; omega)
        have HA := Lib.hid (And.intro ra (And.intro (show pa ≤ 9999999 by omega) hTA))
        obtain ⟨R, hR⟩ : ∃ R, R = T + 1 := ⟨_, rfl⟩
        have HRR := Lib.hid (show R = T + 1 ∧ j + R ≤ l.length from ⟨hR, by have := HTL.out; omega⟩)
        have hR250 : R ≤ 250 := by have := HTL.out; omega
        have hRp : 1 ≤ R := by omega
        obtain ⟨TM, hTM⟩ : ∃ TM, num (R : Int) = TM := ⟨_, rfl⟩
        have sM : TM.size ≤ 21 := by rw [← hTM]; exact num_le (by unfold I64; omega)
        have HM := Lib.hid hTM
        clear ra ra4 hTA hTM hR
        go_upto_block 2 with (fail)
        rw [← HWE.out]
        go_cut [6] (fun s6 wx => s6 = .int .i64 R ∧ ∃ n, wx = W.drewN n)
        case first =>
          have HATW := Lib.hid (HAT.out.below HW.out.1)
          have c0 := HW.out.2.1
          have c1 := HW.out.2.2.1
          go_wp2_with fail
          go_loopw [6] (fun nv wx => ∃ r m : Nat, 1 ≤ r ∧ r ≤ R ∧ nv = .int .i64 r ∧ j + r = m ∧ ∃ n, wx = W.drewN n) (fun nv _ => R - (intOf nv).toNat)
          case atStart => exact ⟨1, j + 1, Nat.le_refl _, hRp, rfl, rfl, 0, rfl⟩
          case round =>
            obtain ⟨r, m, hr1, hrR, rfl, hjm, nd, rfl⟩ := hrel
            have hjm' : (j : Int) + (r : Int) = (m : Int) := by omega
            have HJM := Lib.hid hjm
            have hta := tail_at (p := ⟨1, pa, pb, pc⟩) rfl (l.drop (j + 1)) (r - 1)
            rw [HT.out, List.getElem?_drop, show j + 1 + (r - 1) = m by omega] at hta
            have HTA := Lib.hid hta
            clear hta hjm
            by_cases hrT : r < R
            · obtain ⟨q, hq, hqk, hqa⟩ := HTA.out.1 (by have := HRR.out.1; omega)
              have hml := lt_of_get hq
              obtain ⟨b', off', x', c', ccap', hbo, rfl, d0, d1, d2, d3, hqq⟩ := HATW.out m q hq
              simp only [Option.some.injEq, Addr.mk.injEq, and_true] at hbo
              obtain ⟨rfl, rfl⟩ := hbo
              obtain ⟨qk, qa, qb, qc⟩ := q
              simp only at hqk hqa
              subst hqk hqa
              clear hq hqq
              go_wp2_with fail
              go_quiet (fail)
              go_wp2_with fail
              go_roundw
              case rel => exact ⟨r + 1, m + 1, by omega, by omega, by go_num, by have := HJM.out; omega, nd + nq, by simp⟩
              case measure => simp [intOf]; omega
            · obtain rfl : r = R := by omega
              by_cases hml : m < l.length
              · obtain ⟨q, hq⟩ := get_of_lt hml
                have hno := HTA.out.2 (by have := HRR.out.1; omega) q hq
                obtain ⟨b', off', x', c', ccap', hbo, rfl, d0, d1, d2, d3, hqq⟩ := HATW.out m q hq
                simp only [Option.some.injEq, Addr.mk.injEq, and_true] at hbo
                obtain ⟨rfl, rfl⟩ := hbo
                obtain ⟨qk, qa, qb, qc⟩ := q
                simp only at hno
                clear hq hqq
                by_cases hqk : qk = 1
                · subst hqk
                  have e3 : (qa == pa) = false := beq_eq_false_iff_ne.2 fun e => hno ⟨rfl, e⟩
                  have e4 : (qa != pa) = true := by rw [bne, e3]; rfl
                  clear hno
                  go_wp2_with fail
                  go_quiet (fail)
                  go_wp2_with fail
                  go_meet
                  exact ⟨rfl, nd + nq, by simp⟩
                · have e3 : (qk == 1) = false := beq_eq_false_iff_ne.2 hqk
                  have e4 : (qk != 1) = true := by rw [bne, e3]; rfl
                  clear hno hqk
                  go_wp2_with fail
                  go_quiet (fail)
                  go_wp2_with fail
                  go_meet
                  exact ⟨rfl, nd + nq, by simp⟩
              · go_wp2_with fail
                go_meet
                exact ⟨rfl, nd, rfl⟩
        case rest =>
          obtain ⟨rfl, n0, hwc⟩ := hcut
          have HC := Lib.hid (show Below w.heap.size w wc ∧ wc.cell? ⟨wr.heap.size, 0, none⟩ = some (.int .i64 1) ∧ wc.cell? ⟨wr.heap.size, 1, none⟩ = some (.int .i64 pa) from by
            rw [hwc]; exact ⟨below_drew HW.out.1 _, HW.out.2.1, HW.out.2.2.1⟩)
          have c0 := HC.out.2.1
          have c1 := HC.out.2.2
          clear hwc
          by_cases hj0 : j = 0
          · have HSE := Lib.hid (show sepOf j = [] by unfold sepOf; rw [if_pos hj0])
            have dj : ¬ 0 < j := by omega
            clear hj0
            obtain ⟨S0, hS0⟩ : ∃ S0 : ByteArray, S = S0 := ⟨_, rfl⟩
            have HS0 := Lib.hid (show S0.data.toList = S.data.toList ++ sepOf j by rw [← hS0, HSE.out]; simp)
            have hS0z : S0.size ≤ 400001 := by rw [← size_eq, HS0.out, HSE.out, List.length_append, size_eq]; simp; omega
            by_cases hR1 : 1 < R
            · go_wp2_with fail
              refine (digits_at HA.out.1 HA.out.2.1 HA.out.2.2).mono ?_
              rintro e w4 ⟨rfl, hb⟩
              have H4 := Lib.hid (chain HC.out.1 hb)
              clear hb c0 c1
              go_wp2_with fail
              refine (digits_at (by omega) (by have := HRR.out.2; omega) HM.out).mono ?_
              rintro e w5 ⟨rfl, hb⟩
              have H5 := Lib.hid (chain H4.out hb)
              have HR1 := Lib.hid hR1
              clear hb hR1
              go_wp2_with fail
              go_roundw
              case rel => exact ⟨j + R, ((S0 ++ TA) ++ (⟨#[120]⟩ : ByteArray)) ++ TM, HRR.out.2, by go_num, rfl, by rw [HRR.out.1]; exact text_next HTX.out HX.out HT.out HRT.out hlen (by rw [← HRR.out.1, text_many HA.out.2.2 HM.out HR1.out]; simp only [ByteArray.data_append, Array.toList_append, HS0.out]; simp) H5.out⟩
              case measure => simp [intOf]; have := HRR.out; omega
            · go_wp2_with fail
              refine (digits_at HA.out.1 HA.out.2.1 HA.out.2.2).mono ?_
              rintro e w4 ⟨rfl, hb⟩
              have H4 := Lib.hid (chain HC.out.1 hb)
              clear hb c0 c1
              have HR1 := Lib.hid hR1
              go_wp2_with fail
              go_roundw
              case rel => exact ⟨j + R, S0 ++ TA, HRR.out.2, by go_num, rfl, by rw [HRR.out.1]; exact text_next HTX.out HX.out HT.out HRT.out hlen (by rw [← HRR.out.1, text_once HA.out.2.2 HR1.out]; simp only [ByteArray.data_append, Array.toList_append, HS0.out]; simp) H4.out⟩
              case measure => simp [intOf]; have := HRR.out; omega
          · have HSE := Lib.hid (show sepOf j = [32] by unfold sepOf; rw [if_neg hj0])
            have dj : 0 < j := by omega
            clear hj0
            obtain ⟨S0, hS0⟩ : ∃ S0 : ByteArray, S ++ (⟨#[32]⟩ : ByteArray) = S0 := ⟨_, rfl⟩
            have HS0 := Lib.hid (show S0.data.toList = S.data.toList ++ sepOf j by rw [← hS0, HSE.out]; simp)
            have hS0z : S0.size ≤ 400001 := by rw [← size_eq, HS0.out, HSE.out, List.length_append, size_eq]; simp; omega
            by_cases hR1 : 1 < R
            · go_wp2_with fail
              refine (digits_at HA.out.1 HA.out.2.1 HA.out.2.2).mono ?_
              rintro e w4 ⟨rfl, hb⟩
              have H4 := Lib.hid (chain HC.out.1 hb)
              clear hb c0 c1
              go_wp2_with fail
              refine (digits_at (by omega) (by have := HRR.out.2; omega) HM.out).mono ?_
              rintro e w5 ⟨rfl, hb⟩
              have H5 := Lib.hid (chain H4.out hb)
              have HR1 := Lib.hid hR1
              clear hb hR1
              go_wp2_with fail
              go_roundw
              case rel => exact ⟨j + R, ((S0 ++ TA) ++ (⟨#[120]⟩ : ByteArray)) ++ TM, HRR.out.2, by go_num, rfl, by rw [HRR.out.1]; exact text_next HTX.out HX.out HT.out HRT.out hlen (by rw [← HRR.out.1, text_many HA.out.2.2 HM.out HR1.out]; simp only [ByteArray.data_append, Array.toList_append, HS0.out]; simp) H5.out⟩
              case measure => simp [intOf]; have := HRR.out; omega
            · go_wp2_with fail
              refine (digits_at HA.out.1 HA.out.2.1 HA.out.2.2).mono ?_
              rintro e w4 ⟨rfl, hb⟩
              have H4 := Lib.hid (chain HC.out.1 hb)
              clear hb c0 c1
              have HR1 := Lib.hid hR1
              go_wp2_with fail
              go_roundw
              case rel => exact ⟨j + R, S0 ++ TA, HRR.out.2, by go_num, rfl, by rw [HRR.out.1]; exact text_next HTX.out HX.out HT.out HRT.out hlen (by rw [← HRR.out.1, text_once HA.out.2.2 HR1.out]; simp only [ByteArray.data_append, Array.toList_append, HS0.out]; simp) H4.out⟩
              case measure => simp [intOf]; have := HRR.out; omega
      · simp only at hk
        subst hk
        obtain ⟨ra, ra4, rb, rb9, rc⟩ := right_two HRT.out rfl
        simp only at ra ra4 rb rb9 rc
        obtain rfl : T = 0 := by rw [← HT.out]; exact tail_zero (by simp) _
        obtain ⟨TA, hTA⟩ : ∃ TA, num pa = TA := ⟨_, rfl⟩
        obtain ⟨TB, hTB⟩ : ∃ TB, num pb = TB := ⟨_, rfl⟩
        have sA : TA.size ≤ 21 := by rw [← hTA]; exact num_le (by unfold I64; omega)
        have sB : TB.size ≤ 21 := by rw [← hTB]; exact num_le (by unfold I64; omega)
        have HA := Lib.hid (And.intro ra (And.intro (show pa ≤ 9999999 by omega) hTA))
        have HBB := Lib.hid (And.intro rb (And.intro (show pb ≤ 9999999 by omega) hTB))
        clear ra ra4 rb rb9 rc hTA hTB
        by_cases hj0 : j = 0
        · have HSE := Lib.hid (show sepOf j = [] by unfold sepOf; rw [if_pos hj0])
          have dj : ¬ 0 < j := by omega
          clear hj0
          go_wp2_with fail
          rw [← HWE.out]
          have l1 := later_cell HW.out.2.2.1
          have l2 := later_cell HW.out.2.2.2.1
          refine wp_region_later (by kernel_rfl) (by kernel_rfl) ?_
          repeat (go_big_quiet_step (first | with_reducible refine calls_later (digits_at HA.out.1 HA.out.2.1 HA.out.2.2) | with_reducible refine calls_later (digits_at HBB.out.1 HBB.out.2.1 HBB.out.2.2)))
          refine wpQuiet_nil ?_
          rintro _ ⟨t, rfl⟩
          have HQ := Lib.hid (chain HW.out.1 t.below)
          clear l1 l2
          go_wp2_with fail
          go_roundw
          case rel => exact ⟨j + (0 + 1), ((S ++ TA) ++ (⟨#[126]⟩ : ByteArray)) ++ TB, by have := HTL.out; omega, by go_num, rfl, text_next HTX.out HX.out HT.out HRT.out hlen (by rw [HSE.out, text_two HA.out.2.2 HBB.out.2.2]; simp) HQ.out⟩
          case measure => simp [intOf]; omega
        · have HSE := Lib.hid (show sepOf j = [32] by unfold sepOf; rw [if_neg hj0])
          have dj : 0 < j := by omega
          clear hj0
          go_wp2_with fail
          rw [← HWE.out]
          have l1 := later_cell HW.out.2.2.1
          have l2 := later_cell HW.out.2.2.2.1
          refine wp_region_later (by kernel_rfl) (by kernel_rfl) ?_
          repeat (go_big_quiet_step (first | with_reducible refine calls_later (digits_at HA.out.1 HA.out.2.1 HA.out.2.2) | with_reducible refine calls_later (digits_at HBB.out.1 HBB.out.2.1 HBB.out.2.2)))
          refine wpQuiet_nil ?_
          rintro _ ⟨t, rfl⟩
          have HQ := Lib.hid (chain HW.out.1 t.below)
          clear l1 l2
          go_wp2_with fail
          go_roundw
          case rel => exact ⟨j + (0 + 1), ((S ++ (⟨#[32]⟩ : ByteArray) ++ TA) ++ (⟨#[126]⟩ : ByteArray)) ++ TB, by have := HTL.out; omega, by go_num, rfl, text_next HTX.out HX.out HT.out HRT.out hlen (by rw [HSE.out, text_two HA.out.2.2 HBB.out.2.2]; simp) HQ.out⟩
          case measure => simp [intOf]; omega
      · simp only at hk
        subst hk
        have hl64 : pc.length ≤ 64 := (right_three HRT.out rfl).2.2.1
        have hc32 : ∀ x ∈ pc, 0 ≤ x ∧ x ≤ 32 := (right_three HRT.out rfl).2.2.2
        obtain rfl : T = 0 := by rw [← HT.out]; exact tail_zero (by simp) _
        have HCC := Lib.hid (show (∀ x ∈ pc, 0 ≤ x ∧ x ≤ 32) ∧ pc.length ≤ 64 ∧ IntsAt w c pc from ⟨hc32, hl64, ints_of_pat HPP.out⟩)
        clear hc32
        by_cases hj0 : j = 0
        · have HSE := Lib.hid (show sepOf j = [] by unfold sepOf; rw [if_pos hj0])
          have dj : ¬ 0 < j := by omega
          clear hj0
          obtain ⟨S0, hS0⟩ : ∃ S0 : ByteArray, S = S0 := ⟨_, rfl⟩
          have HS0 := Lib.hid (show S0.data.toList = S.data.toList ++ sepOf j by rw [← hS0, HSE.out]; simp)
          have hS0z : S0.size ≤ 400001 := by rw [← size_eq, HS0.out, HSE.out, List.length_append, size_eq]; simp; omega
          go_wp2_with fail
          rw [← HWE.out]
          go_loopw [3, 7] (fun v kv wx => ∃ (k : Nat) (V : ByteArray), k ≤ pc.length ∧ kv = .int .i64 k ∧ v = .string V ∧ V.data.toList = S0.data.toList ++ (33 :: Lib.join ((pc.take k).map Lib.itoa) [44]) ∧ Below W.heap.size W wx) (fun _ kv _ => pc.length - (intOf kv).toNat)
          case atStart => exact ⟨0, S0 ++ (⟨#[33]⟩ : ByteArray), Nat.zero_le _, rfl, rfl, by simp [Lib.join_nil], Below.refl _ _⟩
          case round =>
            obtain ⟨k, V, hk, rfl, rfl, hV, hbx⟩ := hrel
            have HV := Lib.hid (And.intro hV hbx)
            have hVz : V.size ≤ 402000 := by
              rw [← size_eq, hV, List.length_append, List.length_cons, size_eq]
              have := cut_len HCC.out.1 HCC.out.2.1 k
              omega
            have x3 := cell_on HW.out.2.2.2.2 hbx
            clear hV hbx
            by_cases hkl : k < pc.length
            · obtain ⟨n, hn⟩ := get_of_lt hkl
              obtain ⟨b2, off2, rfl, hcn⟩ := HCC.out.2.2 k n hn
              have y0 := cell_on hcn (chain HW.out.1 HV.out.2)
              have hn32 := HCC.out.1 n (mem_of_get hn)
              obtain ⟨TN, hTN⟩ : ∃ TN, num n = TN := ⟨_, rfl⟩
              have sN : TN.size ≤ 21 := by rw [← hTN]; exact num_le (by unfold I64; omega)
              have HNX := Lib.hid (And.intro (cuts_take hn) (show Lib.itoa n = TN.data.toList by rw [← hTN, num_list]))
              have HTN := Lib.hid hTN
              clear hn hcn hTN
              by_cases hk0 : k = 0
              · have dk : ¬ 0 < k := by omega
                have HK := Lib.hid hk0
                clear hk0
                go_wp2_with fail
                refine (digits_at hn32.1 (by omega) HTN.out).mono ?_
                rintro e wy ⟨rfl, hb⟩
                have HY := Lib.hid (chain HV.out.2 hb)
                clear hb x3 y0
                go_wp2_with fail
                go_roundw
                case rel => exact ⟨k + 1, V ++ TN, by omega, by go_num, rfl, by rw [HNX.out.1, if_pos HK.out, HNX.out.2]; rw [ByteArray.data_append, Array.toList_append, HV.out.1, HK.out]; simp [Lib.join_nil], HY.out⟩
                case measure => simp [intOf]; omega
              · have dk : 0 < k := by omega
                have HK := Lib.hid hk0
                clear hk0
                go_wp2_with fail
                refine (digits_at hn32.1 (by omega) HTN.out).mono ?_
                rintro e wy ⟨rfl, hb⟩
                have HY := Lib.hid (chain HV.out.2 hb)
                clear hb x3 y0
                go_wp2_with fail
                go_roundw
                case rel => exact ⟨k + 1, (V ++ (⟨#[44]⟩ : ByteArray)) ++ TN, by omega, by go_num, rfl, by rw [HNX.out.1, if_neg HK.out, HNX.out.2]; rw [ByteArray.data_append, Array.toList_append, ByteArray.data_append, Array.toList_append, HV.out.1]; simp, HY.out⟩
                case measure => simp [intOf]; omega
            · obtain rfl : k = pc.length := by omega
              go_wp2_with fail
              go_roundw
              case rel => exact ⟨j + (0 + 1), V, by have := HTL.out; omega, by go_num, rfl, text_next HTX.out HX.out HT.out HRT.out hlen (by rw [HV.out.1, HS0.out, text_three, List.take_length, List.append_assoc]) (chain HW.out.1 HV.out.2)⟩
              case measure => simp [intOf]; omega
        · have HSE := Lib.hid (show sepOf j = [32] by unfold sepOf; rw [if_neg hj0])
          have dj : 0 < j := by omega
          clear hj0
          obtain ⟨S0, hS0⟩ : ∃ S0 : ByteArray, S ++ (⟨#[32]⟩ : ByteArray) = S0 := ⟨_, rfl⟩
          have HS0 := Lib.hid (show S0.data.toList = S.data.toList ++ sepOf j by rw [← hS0, HSE.out]; simp)
          have hS0z : S0.size ≤ 400001 := by rw [← size_eq, HS0.out, HSE.out, List.length_append, size_eq]; simp; omega
          go_wp2_with fail
          rw [← HWE.out]
          go_loopw [3, 7] (fun v kv wx => ∃ (k : Nat) (V : ByteArray), k ≤ pc.length ∧ kv = .int .i64 k ∧ v = .string V ∧ V.data.toList = S0.data.toList ++ (33 :: Lib.join ((pc.take k).map Lib.itoa) [44]) ∧ Below W.heap.size W wx) (fun _ kv _ => pc.length - (intOf kv).toNat)
          case atStart => exact ⟨0, S0 ++ (⟨#[33]⟩ : ByteArray), Nat.zero_le _, rfl, rfl, by simp [Lib.join_nil], Below.refl _ _⟩
          case round =>
            obtain ⟨k, V, hk, rfl, rfl, hV, hbx⟩ := hrel
            have HV := Lib.hid (And.intro hV hbx)
            have hVz : V.size ≤ 402000 := by
              rw [← size_eq, hV, List.length_append, List.length_cons, size_eq]
              have := cut_len HCC.out.1 HCC.out.2.1 k
              omega
            have x3 := cell_on HW.out.2.2.2.2 hbx
            clear hV hbx
            by_cases hkl : k < pc.length
            · obtain ⟨n, hn⟩ := get_of_lt hkl
              obtain ⟨b2, off2, rfl, hcn⟩ := HCC.out.2.2 k n hn
              have y0 := cell_on hcn (chain HW.out.1 HV.out.2)
              have hn32 := HCC.out.1 n (mem_of_get hn)
              obtain ⟨TN, hTN⟩ : ∃ TN, num n = TN := ⟨_, rfl⟩
              have sN : TN.size ≤ 21 := by rw [← hTN]; exact num_le (by unfold I64; omega)
              have HNX := Lib.hid (And.intro (cuts_take hn) (show Lib.itoa n = TN.data.toList by rw [← hTN, num_list]))
              have HTN := Lib.hid hTN
              clear hn hcn hTN
              by_cases hk0 : k = 0
              · have dk : ¬ 0 < k := by omega
                have HK := Lib.hid hk0
                clear hk0
                go_wp2_with fail
                refine (digits_at hn32.1 (by omega) HTN.out).mono ?_
                rintro e wy ⟨rfl, hb⟩
                have HY := Lib.hid (chain HV.out.2 hb)
                clear hb x3 y0
                go_wp2_with fail
                go_roundw
                case rel => exact ⟨k + 1, V ++ TN, by omega, by go_num, rfl, by rw [HNX.out.1, if_pos HK.out, HNX.out.2]; rw [ByteArray.data_append, Array.toList_append, HV.out.1, HK.out]; simp [Lib.join_nil], HY.out⟩
                case measure => simp [intOf]; omega
              · have dk : 0 < k := by omega
                have HK := Lib.hid hk0
                clear hk0
                go_wp2_with fail
                refine (digits_at hn32.1 (by omega) HTN.out).mono ?_
                rintro e wy ⟨rfl, hb⟩
                have HY := Lib.hid (chain HV.out.2 hb)
                clear hb x3 y0
                go_wp2_with fail
                go_roundw
                case rel => exact ⟨k + 1, (V ++ (⟨#[44]⟩ : ByteArray)) ++ TN, by omega, by go_num, rfl, by rw [HNX.out.1, if_neg HK.out, HNX.out.2]; rw [ByteArray.data_append, Array.toList_append, ByteArray.data_append, Array.toList_append, HV.out.1]; simp, HY.out⟩
                case measure => simp [intOf]; omega
            · obtain rfl : k = pc.length := by omega
              go_wp2_with fail
              go_roundw
              case rel => exact ⟨j + (0 + 1), V, by have := HTL.out; omega, by go_num, rfl, text_next HTX.out HX.out HT.out HRT.out hlen (by rw [HV.out.1, HS0.out, text_three, List.take_length, List.append_assoc]) (chain HW.out.1 HV.out.2)⟩
              case measure => simp [intOf]; omega
    · obtain rfl : j = l.length := by omega
      have HE := Lib.hid (show (⟨(textL l).toArray⟩ : ByteArray) = S by
        obtain ⟨done, h1, h2, _⟩ := HTX.out
        rw [List.drop_length, runsL_nil, List.append_nil] at h1
        apply ByteArray.ext
        apply Array.ext'
        unfold textL
        rw [h2, h1])
      go_wp2_with fail
      go_ret
      exact ⟨ret_str' HE.out.symm, HB.out⟩
end Go.Proofs.YtlhnpaehhfimjaaDoor

