/-
  The walk of hallmootref27.Parse.
-/
import Derived.Test.YtlhnpaehhfimjaaDoorRword
import Derived.Test.YtlhnpaehhfimjaaDoorRwords
namespace Go.Proofs.YtlhnpaehhfimjaaDoor
open Go.RowKit Go.Maps
theorem words_mem : ∀ (l cur x : List UInt8), x ∈ wordsGo l cur → x ≠ [] ∧ x.length ≤ cur.length + l.length
  | [], cur, x, h => by
    rw [wordsGo] at h
    split at h
    · cases h
    · rename_i hc
      rw [List.mem_singleton] at h
      subst h
      exact ⟨hc, by simp⟩
  | c :: cs, cur, x, h => by
    have ih := words_mem cs
    rw [wordsGo] at h
    split at h
    · split at h
      · have := ih [] x h
        exact ⟨this.1, by have := this.2; simp at this ⊢; omega⟩
      · rename_i hc
        rw [List.mem_cons] at h
        rcases h with rfl | h
        · exact ⟨hc, by simp⟩
        · have := ih [] x h
          exact ⟨this.1, by have := this.2; simp at this ⊢; omega⟩
    · have := ih _ x h
      exact ⟨this.1, by have := this.2; simp at this ⊢; omega⟩
theorem words_len : ∀ (l cur : List UInt8), (wordsGo l cur).length ≤ l.length + 1
  | [], cur => by rw [wordsGo]; split <;> simp
  | c :: cs, cur => by
    have h1 := words_len cs []
    have h2 := words_len cs (cur ++ [c])
    rw [wordsGo]
    split
    · split
      · simp; omega
      · simp; omega
    · simp; omega
theorem srow_cells {w : World} {base : Nat} {v : Value} {l : List (List UInt8)} (h : SRow w base v l) :
    ∃ a cap, v = .slice a l.length cap ∧ l.length ≤ cap ∧ ∀ (i : Nat) (x : List UInt8), l[i]? = some x → ∃ g, a = some ⟨g, 0, none⟩ ∧ w.cell? ⟨g, i, none⟩ = some (.string ⟨x.toArray⟩) := by
  rcases h.2 with ⟨rfl, h0⟩ | ⟨g, cap, cur, rfl, hb, hg, hnc, _⟩
  · obtain rfl : l = [] := List.eq_nil_of_length_eq_zero h0
    exact ⟨none, 0, rfl, Nat.le_refl _, fun i x hx => by simp at hx⟩
  · refine ⟨_, _, rfl, hnc, fun i x hx => ⟨g, rfl, ?_⟩⟩
    have := World.ownsRow.cells (h := h) (g := g) rfl i (.string ⟨x.toArray⟩) (by simp [hx])
    have hadd : (⟨g, 0, none⟩ : Addr).add i = ⟨g, i, none⟩ := by unfold Addr.add; split <;> simp_all
    rw [hadd] at this
    exact this
theorem app_first {w1 wr w2 : World} {p : Pick} {c : Option Addr} {cap : Nat} {acc : List Pick} {v : Value} {xs : List Value} (hv : wr.ownsRow w1.heap.size 25 4 v acc.length xs) (hr : RowOf wr acc xs) (ha : Av wr v.ownBlock xs) (hb : Below w1.heap.size w1 wr)
    (hp : PAt w2 (.agg #[.int .i64 p.k, .int .i64 p.a, .int .i64 p.b, .slice c p.c.length cap]) p) (hb2 : Below wr.heap.size wr w2) (hf : ∀ a, c = some a → wr.heap.size ≤ a.block ∧ a.block < w2.heap.size) :
    AppAt w1 w2.heap.size p c cap acc v 0 xs (w2.alloc (.cells #[.int .i64 p.k, .int .i64 p.a, .int .i64 p.b, .slice c p.c.length cap] 25)) := by
  have hlt : ∀ k, v.ownBlock = some k → k < wr.heap.size := fun k hk => (hv.lt k hk).2
  have hb3 : Below wr.heap.size wr (w2.alloc (.cells #[.int .i64 p.k, .int .i64 p.a, .int .i64 p.b, .slice c p.c.length cap] 25)) := alloc_below hb2
  refine ⟨by simpa using owns_below hv hb3, by simpa using hr.below hb3, ha.below hb3.size, ⟨by simp, by simp, by simp, by simp⟩, hp.below (below_alloc _ _), fun a ha => ⟨fun e => ?_, by have := (hf a ha).2; simp; omega⟩, ⟨fun e => ?_, by simp⟩, chain hb hb3⟩
  · have h1 := hlt _ e.symm; have h2 := (hf a ha).1; omega
  · have h1 := hlt _ e.symm; have h2 := hb2.size; omega
set_option maxRecDepth 20000 in
set_option maxHeartbeats 3200000 in
theorem refParse_any (s : ByteArray) (w : World) (hs : s.size ≤ 1000000) : Calls Tryd.prog 20 #[.string s] w (GivesP (parseW (wordsL s.data.toList)) w) := by
  obtain ⟨i0, hi, hz0, hz1, hz2⟩ := info_parts info25
  have HINFO := Lib.hid (And.intro hi (And.intro hz0 (And.intro hz1 hz2)))
  clear hi hz0 hz1 hz2
  obtain ⟨fs, hfs⟩ : ∃ fs, wordsL s.data.toList = fs := ⟨_, rfl⟩
  have hfl : fs.length ≤ 1000001 := by rw [← hfs]; have := words_len s.data.toList []; rw [size_eq] at this; unfold wordsL; omega
  have hfz : ∀ x ∈ fs, x ≠ [] ∧ x.length ≤ 1000000 := by
    rw [← hfs]
    intro x hx
    have := words_mem s.data.toList [] x hx
    rw [size_eq] at this
    exact ⟨this.1, by have := this.2; simp at this; omega⟩
  have HF := Lib.hid (And.intro hfs hfz)
  rw [hfs]
  clear hfs hfz
  go_enter Tryd.func20, Tryd.ntmps20
  go_wp2_with fail
  refine (words_any s w hs).mono ?_
  rintro e w1 ⟨v, rfl, hrow, hb⟩
  rw [HF.out.1] at hrow
  obtain ⟨A, acap, rfl, hcap, hcell⟩ := srow_cells hrow
  have HC := Lib.hid hcell
  have HB1 := Lib.hid hb
  clear hrow hcell hb
  go_wp2_with fail
  go_loopw [5, 6, 7] (fun v t i wr => ∃ (j : Nat) (t' : Int), j ≤ fs.length ∧ i = .int .i64 j ∧ t = .int .i64 t' ∧ ParseAt w1 fs v j t' wr) (fun _ _ i _ => fs.length - (intOf i).toNat)
  case atStart => exact ⟨0, 0, Nat.zero_le _, rfl, rfl, [], [], by simp, by simp, by simp, by simp, World.ownsRow_nil _ _ _ _, RowOf.nil _, Av.nil _ _, Below.refl _ _⟩
  case round =>
    obtain ⟨j, t, hj, rfl, rfl, acc, xs, hgo, hal, hat, htj, hrow, hrd, hav, hbw⟩ := hrel
    have HA := Lib.hid (And.intro hgo (And.intro hrow (And.intro hrd hav)))
    have HB := Lib.hid hbw
    clear hgo hrow hrd hav hbw
    by_cases hlt : j < fs.length
    · obtain ⟨x, hx⟩ := get_of_lt hlt
      obtain ⟨g, rfl, hc⟩ := HC.out j x hx
      have c9 := cell_on hc HB.out
      obtain ⟨S, hS⟩ : ∃ S : ByteArray, (⟨x.toArray⟩ : ByteArray) = S := ⟨_, rfl⟩
      have hSx : S.data.toList = x := by rw [← hS]
      rw [hS] at c9
      have hxz := HF.out.2 x (mem_of_get hx)
      have hSs : S.size ≤ 1000000 := by rw [← size_eq, hSx]; exact hxz.2
      have hS1 : 1 ≤ S.size := by rw [← size_eq, hSx]; have := List.length_pos_iff.2 hxz.1; omega
      have HX := Lib.hid (drop_of_get hx)
      obtain ⟨wd, hwd⟩ : ∃ wd, wordS x = wd := ⟨_, rfl⟩
      have HWD := Lib.hid hwd
      have HSX := Lib.hid hSx
      clear hx hc hS hSx hxz hwd
      go_wp2_with fail
      refine (refWord_any S wr hSs hS1).mono ?_
      rw [HSX.out, HWD.out]
      rintro e w2 ⟨p, c, cap, m, rfl, hp, hb, hf, hres⟩
      have H0 := Lib.hid (app_first HA.out.2.1 HA.out.2.2.1 HA.out.2.2.2 HB.out hp hb hf)
      have HB2 := Lib.hid (chain HB.out (alloc_below hb (o := .cells #[.int .i64 p.k, .int .i64 p.a, .int .i64 p.b, .slice c p.c.length cap] 25)))
      clear c9 hp hb hf
      cases wd with
      | none =>
        obtain rfl : m = 0 := hres
        go_wp2_with fail
        go_ret2
        exact gives_of (by rw [parseW, HA.out.1, HX.out, parse_no HWD.out]; rfl) rfl (lat_nil _) (chain HB1.out HB2.out)
      | some q =>
        obtain ⟨rfl, hm1, hm2⟩ := hres
        obtain ⟨mn, hmn⟩ : ∃ mn : Nat, m = (mn : Int) := ⟨m.toNat, by omega⟩
        subst hmn
        have hmz : ((mn : Int) == 0) = false := beq_eq_false_iff_ne.2 (by omega)
        by_cases htot : t + (mn : Int) ≤ 10000
        · have htd : decide (t + (mn : Int) ≤ 10000) = true := decide_eq_true htot
          go_wp2_with fail
          go_loopw [5, 10] (fun v i wx => ∃ (k : Nat) (xs' : List Value), k ≤ mn ∧ i = .int .i64 k ∧ AppAt w1 w2.heap.size p c cap acc v k xs' wx) (fun _ i _ => mn - (intOf i).toNat)
          case atStart => exact ⟨0, xs, Nat.zero_le _, rfl, H0.out⟩
          case round =>
            obtain ⟨k, ys, hk, rfl, happ⟩ := hrel
            have HAP := Lib.hid happ
            clear happ H0
            by_cases hkm : k < mn
            · obtain ⟨⟨b0, b1, b2, b3⟩, _⟩ := HAP.out.2.2.2
              go_wp2_with (first
                | (at_builtin; refine wpList_append_lies _ rfl _ _ 22 rfl w1.heap.size 25 i0 _ 4 48 Tryd.underlying22 HINFO.out.1 HINFO.out.2.1 HINFO.out.2.2.1 HINFO.out.2.2.2 rfl (by decide) _ _ ys rfl (HAP.out.1.alloc _) ⟨_, 0, none⟩ 1 1 [.int .i64 p.k, .int .i64 p.a, .int .i64 p.b, .slice c p.c.length cap] rfl rfl (four_new rfl) (by simp [Value.oneCell']) (by decide) (by unfold maxLen; omega) (by omega) (by have := HAP.out.2.2.2.2.2.2.2.size; simp; omega) _ (World.size_alloc _ _) ?_; intro gg gcap w4 hown4 hgrow4 hat4 hlt4))
              have HST := Lib.hid (app_step HAP.out hgrow4 hown4 hat4)
              clear hown4 hgrow4 hat4 hlt4 b0 b1 b2 b3
              go_wp2_with fail
              go_roundw
              case rel => exact ⟨k + 1, _, by omega, by go_num, HST.out⟩
              case measure => simp [intOf]; omega
            · obtain rfl : k = mn := by omega
              have d1 : decide ((k : Int) < (k : Int)) = false := decide_eq_false (by omega)
              go_wp2_with fail
              go_roundw
              case rel =>
                refine ⟨j + 1, t + k, by omega, by go_num, rfl, acc ++ List.replicate k p, ys, ?_, by simp; omega, by simp; omega, by omega, by simpa using HAP.out.1, HAP.out.2.1, HAP.out.2.2.1, HAP.out.2.2.2.2.2.2.2⟩
                rw [HA.out.1, HX.out, parse_inv HWD.out, if_pos htot]
                simp
              case measure => simp [intOf]; omega
        · have htd : decide (t + (mn : Int) ≤ 10000) = false := decide_eq_false htot
          go_wp2_with fail
          go_loopw [5, 10] (fun v i wx => i = .int .i64 0 ∧ AppAt w1 w2.heap.size p c cap acc v 0 xs wx) (fun _ _ _ => 0)
          case atStart => exact ⟨rfl, H0.out⟩
          case round =>
            obtain ⟨rfl, happ⟩ := hrel
            have HAP := Lib.hid happ
            clear happ H0
            have hm0 : (0 : Int) < mn := by omega
            go_wp2_with fail
            go_roundw
            case rel =>
              refine ⟨j + 1, t + mn, by omega, by go_num, rfl, acc, xs, ?_, by omega, by omega, by omega, by simpa using HAP.out.1, by simpa using HAP.out.2.1, HAP.out.2.2.1, HAP.out.2.2.2.2.2.2.2⟩
              rw [HA.out.1, HX.out, parse_inv HWD.out, if_neg (by omega)]
            case measure => simp [intOf]; omega
    · obtain rfl : j = fs.length := by omega
      have HE := Lib.hid (show parseW fs = if 10000 < t then ([], 2) else (acc, 0) by rw [parseW, HA.out.1, List.drop_length]; rfl)
      by_cases ht : 10000 < t
      · go_wp2_with fail
        go_ret2
        exact gives_of (by rw [HE.out, if_pos ht]) rfl (lat_nil _) (chain HB1.out HB.out)
      · have ht' : decide (10000 < t) = false := decide_eq_false ht
        go_wp2_with fail
        go_ret2
        exact gives_of (by rw [HE.out, if_neg (by omega)]) rfl (lat_of_owns HA.out.2.1 HA.out.2.2.1) (chain HB1.out HB.out)
end Go.Proofs.YtlhnpaehhfimjaaDoor
