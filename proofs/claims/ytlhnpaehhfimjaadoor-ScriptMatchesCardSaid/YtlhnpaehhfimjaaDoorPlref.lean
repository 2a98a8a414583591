/-
  The walk of hallmootref27.Plain.
-/
import Derived.Test.YtlhnpaehhfimjaaDoorPlain
namespace Go.Proofs.YtlhnpaehhfimjaaDoor
open Go.RowKit Go.Maps
def stillC (p q : Pick) (i k : Nat) : Bool := (q.k == 2) && (q.a == p.a) && decide ((i : Int) - k ≤ q.b)
def stillB (rs : List Pick) (p : Pick) (i n : Nat) : Bool := (List.range n).any fun k => match rs[k]? with | some q => stillC p q i k | none => false
theorem still_succ {rs : List Pick} {p q : Pick} {i n : Nat} (h : rs[n]? = some q) : stillB rs p i (n + 1) = (stillB rs p i n || stillC p q i n) := by
  unfold stillB
  rw [List.range_succ, List.any_append]
  simp [h]
def refGo (rs : List Pick) : List Pick → Nat → List Pick
  | [], _ => []
  | p :: ps, i => if p.k = 3 then [p] else if p.k = 1 ∧ stillB rs p i i = false then p :: refGo rs ps (i + 1) else refGo rs ps (i + 1)
def refPlainL (threads : Int) (l : List Pick) : List Pick := refGo (l.filter (rightB threads)) (l.filter (rightB threads)) 0
theorem filter_snoc {f : Pick → Bool} {l : List Pick} {j : Nat} {p : Pick} (h : l[j]? = some p) : (l.take (j + 1)).filter f = (l.take j).filter f ++ if f p then [p] else [] := by
  rw [take_of_get h, List.filter_append]
  cases hf : f p <;> simp [hf]
theorem filter_len {f : Pick → Bool} {l : List Pick} {j : Nat} : ((l.take j).filter f).length ≤ j := Nat.le_trans (List.length_filter_le _ _) (by simp; omega)

set_option maxRecDepth 20000 in
set_option maxHeartbeats 6400000 in
theorem refPlain_any (threads : Int) (x : Value) (l : List Pick) (w : World) (hl : LAt w x l) (hlen : l.length ≤ 1000000) :
    Calls Tryd.prog 16 #[.int .i64 threads, x] w (GivesL (refPlainL threads l) w) := by
  obtain ⟨a, cap, rfl, hlc, hcb, hat⟩ := hl
  unfold huge at hcb
  have HAT := Lib.hid hat
  clear hat
  obtain ⟨i0, hi, hz0, hz1, hz2⟩ := info_parts info25
  have HINFO := Lib.hid (And.intro hi (And.intro hz0 (And.intro hz1 hz2)))
  clear hi hz0 hz1 hz2
  go_enter Tryd.func16, Tryd.ntmps16
  go_wp2_with fail
  go_loopw [5, 6] (fun v i wr => ∃ (j : Nat) (xs : List Value), j ≤ l.length ∧ i = .int .i64 j ∧ wr.ownsRow w.heap.size 25 4 v ((l.take j).filter (rightB threads)).length xs ∧ RowOf w ((l.take j).filter (rightB threads)) xs ∧ Below w.heap.size w wr) (fun _ i _ => l.length - (intOf i).toNat)
  case atStart => exact ⟨0, [], Nat.zero_le _, rfl, World.ownsRow_nil _ _ _ _, RowOf.nil _, Below.refl _ _⟩
  case round =>
    obtain ⟨j, xs, hj, rfl, hrow, hrd, hb⟩ := hrel
    have HB := Lib.hid hb
    have HO := Lib.hid (And.intro hrow hrd)
    clear hrow hrd hb
    by_cases hlt : j < l.length
    · obtain ⟨p, hp⟩ := get_of_lt hlt
      obtain ⟨b, off, x, c, ccap, rfl, rfl, h0, h1, h2, h3, hpp⟩ := HAT.out j p hp
      have g0 := cell_on h0 HB.out
      have g1 := cell_on h1 HB.out
      have g2 := cell_on h2 HB.out
      have g3 := cell_on h3 HB.out
      have HP := Lib.hid (And.intro hp hpp)
      have HH := Lib.hid (And.intro h0 (And.intro h1 (And.intro h2 h3)))
      clear hp hpp h0 h1 h2 h3
      obtain ⟨r, hr⟩ : ∃ r, rightB threads p = r := ⟨_, rfl⟩
      have HR := Lib.hid hr
      clear hr
      go_wp2_with fail
      refine (refRight_is (HP.out.2.below HB.out) HR.out).mono ?_
      rintro e w1 ⟨rfl, hb⟩
      have HB1 := Lib.hid (chain HB.out hb)
      have HO1 := Lib.hid (owns_below HO.out.1 hb)
      clear hb g0 g1 g2 g3
      have g0 := cell_on HH.out.1 HB1.out
      have g1 := cell_on HH.out.2.1 HB1.out
      have g2 := cell_on HH.out.2.2.1 HB1.out
      have g3 := cell_on HH.out.2.2.2 HB1.out
      have hfl := filter_len (f := rightB threads) (l := l) (j := j)
      cases r with
      | false =>
        go_wp2_with fail
        go_roundw
        case rel =>
          have hf : (l.take (j + 1)).filter (rightB threads) = (l.take j).filter (rightB threads) := by rw [filter_snoc HP.out.1, HR.out]; simp
          exact ⟨j + 1, xs, by omega, by go_num, by rw [hf]; exact HO1.out, by rw [hf]; exact HO.out.2, HB1.out⟩
        case measure => simp [intOf]; omega
      | true =>
        go_wp2_with (first
          | (at_builtin; refine wpList_append_own _ rfl _ _ 22 rfl w.heap.size 25 i0 _ 4 48 Tryd.underlying22 HINFO.out.1 HINFO.out.2.1 HINFO.out.2.2.1 HINFO.out.2.2.2 rfl (by decide) _ _ xs rfl (HO1.out.alloc _) ⟨w1.heap.size, 0, none⟩ 1 1 [.int .i64 p.k, .int .i64 p.a, .int .i64 p.b, .slice c p.c.length ccap] rfl rfl (four_new rfl) (by simp [Value.oneCell']) (by unfold maxLen; omega) (by omega) (by have := HB1.out.size; simp; omega) ?_; intro v' w2 hown2 hgrow2 _))
        have HB2 := Lib.hid (grown_below (alloc_below HB1.out) hgrow2 (HO1.out.alloc _) (Nat.le_refl _) (alloc_below HB1.out).size)
        have HR2 := Lib.hid hown2
        clear hown2 hgrow2
        go_wp2_with fail
        go_roundw
        case rel =>
          have hf : (l.take (j + 1)).filter (rightB threads) = (l.take j).filter (rightB threads) ++ [p] := by rw [filter_snoc HP.out.1, HR.out]; simp
          exact ⟨j + 1, _, by omega, by go_num, by rw [hf]; simpa using HR2.out, by rw [hf]; exact HO.out.2.snoc HP.out.2, HB2.out⟩
        case measure => simp [intOf]; omega
    · have : j = l.length := by omega
      subst this
      obtain ⟨rs, hrs⟩ : ∃ rs, l.filter (rightB threads) = rs := ⟨_, rfl⟩
      have hrl : rs.length ≤ 1000000 := by rw [← hrs]; exact Nat.le_trans (List.length_filter_le _ _) hlen
      have hv := HO.out.1
      have hr := HO.out.2
      rw [List.take_length, hrs] at hv hr
      obtain ⟨a1, cap1, hx, hl1, hc1, hat1⟩ := lat_of_owns hv (hr.below HB.out)
      unfold huge at hc1
      have hspec : refPlainL threads l = refGo rs rs 0 := by unfold refPlainL; rw [hrs]
      rw [hx]
      obtain ⟨W, hW⟩ : ∃ W, W = wr := ⟨_, rfl⟩
      rw [← hW] at hat1 HB ⊢
      have HA := Lib.hid hat1
      have HSP := Lib.hid hspec
      clear hW hv hr hx hrs hat1 hspec HO
      go_wp2_with fail
      go_loopw [8, 9] (fun v i wr => ∃ (j : Nat) (acc : List Pick) (xs : List Value), j ≤ rs.length ∧ i = .int .i64 j ∧ acc.length ≤ j ∧ refGo rs rs 0 = acc ++ refGo rs (rs.drop j) j ∧ wr.ownsRow W.heap.size 25 4 v acc.length xs ∧ RowOf W acc xs ∧ Below W.heap.size W wr) (fun _ i _ => rs.length - (intOf i).toNat)
      case atStart => exact ⟨0, [], [], Nat.zero_le _, rfl, Nat.le_refl _, by simp, World.ownsRow_nil _ _ _ _, RowOf.nil _, Below.refl _ _⟩
      case round =>
        obtain ⟨j, acc, xs, hj, rfl, hacc, hgo, hrow, hrd, hb⟩ := hrel
        have HO := Lib.hid (And.intro hrow (And.intro hrd hgo))
        have HBW := Lib.hid hb
        clear hrow hrd hgo hb
        by_cases hlt : j < rs.length
        · obtain ⟨p, hp⟩ := get_of_lt hlt
          obtain ⟨b, off, x, c, ccap, rfl, rfl, h0, h1, h2, h3, hpp⟩ := HA.out j p hp
          have g0 := cell_on h0 HBW.out
          have g1 := cell_on h1 HBW.out
          have g2 := cell_on h2 HBW.out
          have g3 := cell_on h3 HBW.out
          have HP := Lib.hid (And.intro hp hpp)
          clear hp hpp h0 h1 h2 h3
          obtain ⟨k, pa, pb, pc⟩ := p
          by_cases hk3 : k = 3
          · subst hk3
            go_wp2_with (first
              | (at_builtin; refine wpList_append_own _ rfl _ _ 22 rfl W.heap.size 25 i0 _ 4 48 Tryd.underlying22 HINFO.out.1 HINFO.out.2.1 HINFO.out.2.2.1 HINFO.out.2.2.2 rfl (by decide) _ _ xs rfl ((HO.out.1.alloc _).alloc _) ⟨wr.heap.size + 1, 0, none⟩ 1 1 [.int .i64 3, .int .i64 pa, .int .i64 pb, .slice c pc.length ccap] rfl rfl (four_new (World.size_alloc _ _)) (by simp [Value.oneCell']) (by unfold maxLen; omega) (by omega) (by have := HBW.out.size; simp; omega) ?_; intro v' w2 hown2 hgrow2 _))
            have HB2 := Lib.hid (grown_below (alloc_below (alloc_below HBW.out)) hgrow2 ((HO.out.1.alloc _).alloc _) (Nat.le_refl _) (alloc_below (alloc_below HBW.out)).size)
            have HR2 := Lib.hid hown2
            clear hown2 hgrow2
            go_wp2_with fail
            go_ret
            refine ⟨_, rfl, ?_, chain HB.out HB2.out⟩
            rw [HSP.out, HO.out.2.2, drop_of_get HP.out.1, refGo]
            simp only [if_true]
            exact lat_of_owns (by simpa using HR2.out) ((HO.out.2.1.snoc HP.out.2).below HB2.out)
          · have hk3' : (k == 3) = false := beq_eq_false_iff_ne.2 hk3
            go_wp2_with fail
            obtain ⟨W1, hW1⟩ : ∃ W1, W1 = wr.alloc (.cells #[.int .i64 k, .int .i64 pa, .int .i64 pb, .slice c pc.length ccap] 25) := ⟨_, rfl⟩
            have b0 : W1.cell? ⟨wr.heap.size, 0, none⟩ = some (.int .i64 k) := by rw [hW1]; simp
            have b1 : W1.cell? ⟨wr.heap.size, 1, none⟩ = some (.int .i64 pa) := by rw [hW1]; simp
            have b2 : W1.cell? ⟨wr.heap.size, 2, none⟩ = some (.int .i64 pb) := by rw [hW1]; simp
            have b3 : W1.cell? ⟨wr.heap.size, 3, none⟩ = some (.slice c pc.length ccap) := by rw [hW1]; simp
            have HB1 := Lib.hid (show Below W.heap.size W W1 by rw [hW1]; exact alloc_below HBW.out)
            have HO1 := Lib.hid (show W1.ownsRow W.heap.size 25 4 _ acc.length xs by rw [hW1]; exact HO.out.1.alloc _)
            have HBX := Lib.hid (And.intro (And.intro b0 b1) (And.intro b2 b3))
            have HK := Lib.hid hk3
            rw [← hW1]
            clear hW1 b0 b1 b2 b3 g0 g1 g2 g3 hk3 hk3'
            go_loopw [11, 12] (fun s i wx => ∃ n : Nat, n ≤ j ∧ i = .int .i64 n ∧ s = .bool (stillB rs ⟨k, pa, pb, pc⟩ j n) ∧ Below W1.heap.size W1 wx) (fun _ i _ => j - (intOf i).toNat)
            case atStart => exact ⟨0, Nat.zero_le _, rfl, rfl, Below.refl _ _⟩
            case round =>
              obtain ⟨n, hn, rfl, rfl, hbx⟩ := hrel
              have HX := Lib.hid hbx
              clear hbx
              have b0 := cell_on HBX.out.1.1 HX.out
              have b1 := cell_on HBX.out.1.2 HX.out
              have b2 := cell_on HBX.out.2.1 HX.out
              have b3 := cell_on HBX.out.2.2 HX.out
              obtain ⟨s, hs⟩ : ∃ s, stillB rs ⟨k, pa, pb, pc⟩ j n = s := ⟨_, rfl⟩
              have HS := Lib.hid hs
              rw [hs]
              clear hs
              by_cases hnj : n < j
              · obtain ⟨q, hq⟩ := get_of_lt (of := rs) (j := n) (by omega)
                obtain ⟨b', off', x', c', ccap', hbo, rfl, h0, h1, h2, h3, hqq⟩ := HA.out n q hq
                simp only [Option.some.injEq, Addr.mk.injEq, and_true] at hbo
                obtain ⟨rfl, rfl⟩ := hbo
                have hWx := chain HB1.out HX.out
                have g0 := cell_on h0 hWx
                have g1 := cell_on h1 hWx
                have g2 := cell_on h2 hWx
                have g3 := cell_on h3 hWx
                obtain ⟨qk, qa, qb, qc⟩ := q
                have HQ := Lib.hid hq
                clear hq h0 h1 h2 h3 hWx
                have hqb : I64 qb := pick_b hqq
                unfold I64 at hqb
                clear hqq
                cases s with
                | true =>
                  go_wp2_with fail
                  go_roundw
                  case rel => exact ⟨n + 1, by omega, by go_num, by rw [still_succ HQ.out, HS.out]; simp, alloc_below HX.out⟩
                  case measure => simp [intOf]; omega
                | false =>
                  have b1a := fun o => alloc_on b1 o
                  by_cases d1 : qk = 2
                  · subst d1
                    by_cases d2 : qa = pa
                    · subst d2
                      by_cases d3 : (j : Int) - n ≤ qb
                      · go_wp2_with fail
                        go_roundw
                        case rel => exact ⟨n + 1, by omega, by go_num, by rw [still_succ HQ.out, HS.out]; simp [stillC, d3], alloc_below HX.out⟩
                        case measure => simp [intOf]; omega
                      · have d3' : decide ((j : Int) - n ≤ qb) = false := decide_eq_false d3
                        go_wp2_with fail
                        go_roundw
                        case rel => exact ⟨n + 1, by omega, by go_num, by rw [still_succ HQ.out, HS.out]; simp [stillC]; omega, alloc_below HX.out⟩
                        case measure => simp [intOf]; omega
                    · have d2' : (qa == pa) = false := beq_eq_false_iff_ne.2 d2
                      have HD := Lib.hid d2
                      clear d2
                      go_wp2_with fail
                      go_roundw
                      case rel => exact ⟨n + 1, by omega, by go_num, by rw [still_succ HQ.out, HS.out]; simp [stillC, HD.out], alloc_below HX.out⟩
                      case measure => simp [intOf]; omega
                  · have d1' : (qk == 2) = false := beq_eq_false_iff_ne.2 d1
                    have HD := Lib.hid d1
                    clear d1
                    go_wp2_with fail
                    go_roundw
                    case rel => exact ⟨n + 1, by omega, by go_num, by rw [still_succ HQ.out, HS.out]; simp [stillC, HD.out], alloc_below HX.out⟩
                    case measure => simp [intOf]; omega
              · have : n = j := by omega
                subst this
                have HOX := Lib.hid (owns_below HO1.out HX.out)
                have hWx := chain HB1.out HX.out
                have HWX := Lib.hid hWx
                clear hWx
                by_cases hk1 : k = 1
                · subst hk1
                  cases s with
                  | true =>
                    go_wp2_with fail
                    go_roundw
                    case rel =>
                      refine ⟨n + 1, acc, xs, by omega, by go_num, by omega, ?_, HOX.out, HO.out.2.1, HWX.out⟩
                      rw [HO.out.2.2, drop_of_get HP.out.1, refGo]
                      simp [HS.out]
                    case measure => simp [intOf]; omega
                  | false =>
                    go_wp2_with (first
                      | (at_builtin; refine wpList_append_own _ rfl _ _ 22 rfl W.heap.size 25 i0 _ 4 48 Tryd.underlying22 HINFO.out.1 HINFO.out.2.1 HINFO.out.2.2.1 HINFO.out.2.2.2 rfl (by decide) _ _ xs rfl (HOX.out.alloc _) ⟨wr.heap.size, 0, none⟩ 1 1 [.int .i64 1, .int .i64 pa, .int .i64 pb, .slice c pc.length ccap] rfl rfl (four_new rfl) (by simp [Value.oneCell']) (by unfold maxLen; omega) (by omega) (by have := HWX.out.size; simp; omega) ?_; intro v' w2 hown2 hgrow2 _))
                    have HB2 := Lib.hid (grown_below (alloc_below HWX.out) hgrow2 (HOX.out.alloc _) (Nat.le_refl _) (alloc_below HWX.out).size)
                    have HR2 := Lib.hid hown2
                    clear hown2 hgrow2
                    go_wp2_with fail
                    go_roundw
                    case rel =>
                      refine ⟨n + 1, acc ++ [⟨1, pa, pb, pc⟩], _, by omega, by go_num, by simp; omega, ?_, by simpa using HR2.out, HO.out.2.1.snoc HP.out.2, HB2.out⟩
                      rw [HO.out.2.2, drop_of_get HP.out.1, refGo]
                      simp [HS.out]
                    case measure => simp [intOf]; omega
                · have hk1' : (k == 1) = false := beq_eq_false_iff_ne.2 hk1
                  have HK1 := Lib.hid hk1
                  clear hk1
                  go_wp2_with fail
                  go_roundw
                  case rel =>
                    refine ⟨n + 1, acc, xs, by omega, by go_num, by omega, ?_, HOX.out, HO.out.2.1, HWX.out⟩
                    rw [HO.out.2.2, drop_of_get HP.out.1, refGo]
                    simp [HK.out, HK1.out]
                  case measure => simp [intOf]; omega
        · have : j = rs.length := by omega
          subst this
          go_wp2_with fail
          go_ret
          refine ⟨_, rfl, ?_, chain HB.out HBW.out⟩
          rw [HSP.out, HO.out.2.2, List.drop_length, refGo, List.append_nil]
          exact lat_of_owns HO.out.1 (HO.out.2.1.below HBW.out)
end Go.Proofs.YtlhnpaehhfimjaaDoor
