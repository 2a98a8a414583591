/-
  The walk of the law ScriptStalls.
-/
import Derived.Test.YtlhnpaehhfimjaaDoorIs
import Derived.Test.YtlhnpaehhfimjaaDoorSane
import Derived.Test.YtlhnpaehhfimjaaDoorOwn
import Derived.Deep.AppendLies
import Derived.Laws.OwnMore
namespace Go.Proofs.YtlhnpaehhfimjaaDoor
open Go.RowKit Go.Maps
/-- The value x is a slice of bytes that reads as l. -/
def UAt (w : World) (x : Value) (l : List Nat) : Prop :=
  ∃ a cap, x = .slice a l.length cap ∧ l.length ≤ cap ∧ cap ≤ huge ∧ ∀ i n : Nat, l[i]? = some n → n ≤ 255 ∧ ∃ b off, a = some ⟨b, off, none⟩ ∧ w.cell? ⟨b, off + i, none⟩ = some (.int .u8 (n : Int))
/-- What holds at the head of the loop. -/
def StallAt (b : Nat) (L : List Nat) (W : World) (v u : Value) (j : Nat) (wr : World) : Prop :=
  ∃ (acc : List Pick) (xs ys : List Value), wr.ownsRow W.heap.size 25 4 v (1 + j) xs ∧ RowOf W (stallScript b (L.take j)) xs ∧ wr.ownsRow W.heap.size 25 4 u acc.length ys ∧ RowOf W acc ys ∧ acc.length ≤ j ∧
    wantGo b L 0 = acc ++ wantGo b (L.drop j) j ∧ v.ownBlock ≠ none ∧ v.ownBlock ≠ u.ownBlock ∧ Below W.heap.size W wr
theorem stall_take {b j x : Nat} {L : List Nat} (h : L[j]? = some x) : stallScript b (L.take (j + 1)) = stallScript b (L.take j) ++ [turnP x] := by
  unfold stallScript
  rw [take_of_get h]; simp
theorem turn_at (w : World) (x : Nat) : PAt w (.agg #[.int .i64 1, .int .i64 ((x % 3 : Nat) : Int), .int .i64 0, .slice none 0 0]) (turnP x) :=
  have : x % 3 < 3 := Nat.mod_lt _ (by decide)
  pat_flat (by unfold I64; omega) (by unfold I64; omega) (by unfold I64; omega)
/-- Both rows after an append to the first. -/
def StallOwn (W : World) (v : Value) (n : Nat) (xs : List Value) (u : Value) (k : Nat) (ys : List Value) (w' : World) : Prop :=
  w'.ownsRow W.heap.size 25 4 v n xs ∧ w'.ownsRow W.heap.size 25 4 u k ys ∧ v.ownBlock ≠ u.ownBlock ∧ Below W.heap.size W w'
theorem own_lt {w : World} {base : Nat} {e : TypeId} {size : Nat} {v : Value} {n : Nat} {xs : List Value} (h : w.ownsRow base e size v n xs) : some w.heap.size ≠ v.ownBlock := fun e => by
  have := (h.lt _ e.symm).2; omega
theorem stall_one {W wr w4 : World} {v u : Value} {j k gg gcap : Nat} {xs ys news : List Value} {c o : Array Value} (hv : wr.ownsRow W.heap.size 25 4 v (1 + j) xs) (hu : wr.ownsRow W.heap.size 25 4 u k ys) (hd : v.ownBlock ≠ u.ownBlock ∧ True) (hb : Below W.heap.size W wr)
    (ho : w4.ownsRow W.heap.size 25 4 (.slice (some ⟨gg, 0, none⟩) (1 + j + 1) gcap) (1 + j + 1) news) (hg : ((wr.alloc (.cells c 25)).alloc (.cells o 25)).grownBy w4 v.ownBlock)
    (hat : v.ownBlock = some gg ∨ gg = wr.heap.size + 1 + 1) (hlt : gg < w4.heap.size) :
    StallOwn W (.slice (some ⟨gg, 0, none⟩) (1 + j + 1) gcap) (1 + j + 1) news u k ys w4 ∧ (∀ (i : Nat) (x : Value), c[i]? = some x → w4.cell? ⟨wr.heap.size, i, none⟩ = some x) ∧ gg < w4.heap.size := by
  refine ⟨⟨ho, ((hu.alloc _).alloc _).kept hg (.inr hd.1.symm), ?_, grown_below (alloc_below (alloc_below hb)) hg ((hv.alloc _).alloc _) (Nat.le_refl _) (alloc_below (alloc_below hb)).size⟩, fun i x hx => ?_, hlt⟩
  · intro e
    rcases hat with hat | hat
    · exact hd.1 (by rw [hat]; exact e)
    · have := (hu.lt gg e.symm).2
      omega
  · exact hg.cell (alloc_on (by rw [World.cell?_alloc_new]; exact hx) _) (own_lt hv)
theorem stall_two {W w4 w6 : World} {v u : Value} {n k g6 gcap gg vn vc : Nat} {xs ys news : List Value} {o : Array Value} (h : StallOwn W v n xs u k ys w4) (hvs : v = .slice (some ⟨gg, 0, none⟩) vn vc ∧ gg < w4.heap.size)
    (ho : w6.ownsRow W.heap.size 25 4 (.slice (some ⟨g6, 0, none⟩) (k + 1) gcap) (k + 1) news) (hg : (w4.alloc (.cells o 25)).grownBy w6 u.ownBlock)
    (hat : u.ownBlock = some g6 ∨ g6 = w4.heap.size + 1) : StallOwn W v n xs (.slice (some ⟨g6, 0, none⟩) (k + 1) gcap) (k + 1) news w6 := by
  obtain ⟨h1, h2, h3, h4⟩ := h
  refine ⟨(h1.alloc _).kept hg (.inr h3), ho, ?_, grown_below (alloc_below h4) hg (h2.alloc _) (Nat.le_refl _) (alloc_below h4).size⟩
  rw [hvs.1]
  intro e
  have e2 : gg = g6 := by simpa [Value.ownBlock] using e
  rcases hat with hat | hat
  · exact h3 (by rw [hat, hvs.1, ← e2]; rfl)
  · have := hvs.2; omega
theorem stall_snoc {w : World} {l : List Pick} {xs : List Value} {x m : Nat} (h : RowOf w l xs) (hp : PAt w (.agg #[.int .i64 1, .int .i64 (m : Int), .int .i64 0, .slice none 0 0]) (turnP x)) (e : turnP x = ⟨1, (m : Int), 0, []⟩) :
    RowOf w (l ++ [turnP x]) (xs ++ [.int .i64 1, .int .i64 (m : Int), .int .i64 0, .slice none 0 0]) := by
  rw [e] at hp ⊢
  exact h.snoc hp
theorem stall_at (w : World) {b : Nat} (h : b ≤ 255) : PAt w (.agg #[.int .i64 2, .int .i64 1, .int .i64 (b : Int), .slice none 0 0]) ⟨2, 1, b, []⟩ :=
  pat_flat (by unfold I64; omega) (by unfold I64; omega) (by unfold I64; omega)
set_option maxRecDepth 20000 in
set_option maxHeartbeats 3200000 in
theorem lawStall_any (b : Nat) (hb255 : b ≤ 255) (y : Value) (L : List Nat) (w : World) (hg : Good w) (hl : UAt w y L) :
    Calls Tryd.prog 8 #[.int .u8 b, y] w fun e w' => e = .returned (.bool true) ∧ Below w.heap.size w w' := by
  obtain ⟨ya, ycap, rfl, hcap, hcb, hat⟩ := hl
  have HAT := Lib.hid hat
  unfold huge at hcb
  clear hat
  obtain ⟨i0, hi, hz0, hz1, hz2⟩ := info_parts info25
  have HINFO := Lib.hid (And.intro hi (And.intro hz0 (And.intro hz1 hz2)))
  clear hi hz0 hz1 hz2
  go_enter Tryd.func8, Tryd.ntmps8
  go_wp2_with fail
  refine (sane_any w hg).mono ?_
  rintro e w2 ⟨rfl, hb⟩
  have HB := Lib.hid hb
  clear hb hg
  by_cases h200 : 200 < L.length
  · go_wp2_with fail
    go_ret
    exact ⟨rfl, HB.out⟩
  go_wp2_with fail
  go_loopw [6, 7, 8] (fun v u i wr => ∃ j : Nat, j ≤ L.length ∧ i = .int .i64 j ∧ StallAt b L w2 v u j wr) (fun _ _ i _ => L.length - (intOf i).toNat)
  case atStart =>
    refine ⟨0, Nat.zero_le _, rfl, [], _, [], World.ownsRow_lit w2 _ 1 (Nat.le_refl _) (by decide) rfl, ?_, World.ownsRow_nil _ _ _ _, RowOf.nil _, Nat.le_refl _, by simp, by simp [Value.ownBlock], by simp [Value.ownBlock], below_alloc _ _⟩
    exact RowOf.snoc (p := ⟨2, 1, b, []⟩) (RowOf.nil w2) (stall_at w2 hb255)
  case round =>
    obtain ⟨j, hj, rfl, acc, xs, ys, hv, hvr, hu, hur, hal, hspec, hvn, hvu, hb⟩ := hrel
    have HO := Lib.hid (And.intro hv (And.intro hvr (And.intro hu (And.intro hur (And.intro hspec (And.intro hvn hvu))))))
    have HC := Lib.hid hb
    clear hv hvr hu hur hspec hvn hvu hb
    by_cases hlt : j < L.length
    · obtain ⟨x, hx⟩ := get_of_lt hlt
      obtain ⟨h255, bb, off, rfl, hc⟩ := HAT.out j x hx
      have g0 := cell_on hc (chain HB.out HC.out)
      have HX := Lib.hid hx
      clear hx hc
      obtain ⟨m, hm⟩ : ∃ m : Nat, x % 3 = m := ⟨_, rfl⟩
      have hm3 : m < 3 := by omega
      have k1 : (x : Int) % 3 = (m : Int) := by omega
      have k2 : (x : Int).tmod 3 = (m : Int) := by rw [Int.tmod_eq_emod_of_nonneg (by omega)]; exact k1
      have HM := Lib.hid hm
      clear hm
      have HST := Lib.hid (stall_take (b := b) HX.out)
      have htp : turnP x = ⟨1, (m : Int), 0, []⟩ := by unfold turnP; rw [HM.out]
      have HTP := Lib.hid htp
      have HPT := Lib.hid (show PAt w2 (.agg #[.int .i64 1, .int .i64 (m : Int), .int .i64 0, .slice none 0 0]) (turnP x) by have := turn_at w2 x; rw [HM.out] at this; exact this)
      have HW := Lib.hid (show wantGo b (L.drop j) j = if ¬ ((m : Nat) : Int) = 1 ∨ b < j + 1 then turnP x :: wantGo b (L.drop (j + 1)) (j + 1) else wantGo b (L.drop (j + 1)) (j + 1) by rw [drop_of_get HX.out, wantGo, HM.out])
      clear htp
      by_cases hm1 : m = 1
      · have e0 : ((m : Int) == 1) = true := beq_iff_eq.2 (by omega)
        have e1 : ((m : Int) != 1) = false := by rw [bne, e0]; rfl
        have HM1 := Lib.hid hm1
        clear hm1
        by_cases hbj : b < j + 1
        · have e2 : decide ((b : Int) < (j : Int) + 1) = true := decide_eq_true (by omega)
          go_wp2_with (first
            | (at_builtin; refine wpList_append_lies _ rfl _ _ 22 rfl w2.heap.size 25 i0 _ 4 48 Tryd.underlying22 HINFO.out.1 HINFO.out.2.1 HINFO.out.2.2.1 HINFO.out.2.2.2 rfl (by decide) u6 _ xs rfl ((HO.out.1.alloc _).alloc _) ⟨_, 0, none⟩ 1 1 [.int .i64 1, .int .i64 m, .int .i64 0, .slice none 0 0] rfl rfl (four_new (World.size_alloc _ _)) (by simp [Value.oneCell']) (by decide) (by unfold maxLen; omega) (by omega) (by have := HC.out.size; simp; omega) _ (World.size_alloc _ _) ?_; intro gg gcap w4 hown4 hgrow4 hat4 hlt4; obtain ⟨HS4, hbx, hb4⟩ := stall_one HO.out.1 HO.out.2.2.1 ⟨HO.out.2.2.2.2.2.2, trivial⟩ HC.out hown4 hgrow4 (by simpa using hat4) hlt4; have c0 := hbx 0 _ rfl; have c1 := hbx 1 _ rfl; have c2 := hbx 2 _ rfl; have c3 := hbx 3 _ rfl; clear hown4 hgrow4 hat4 hlt4 hbx)
            | (at_builtin; refine wpList_append_lies _ rfl _ _ 22 rfl w2.heap.size 25 i0 _ 4 48 Tryd.underlying22 HINFO.out.1 HINFO.out.2.1 HINFO.out.2.2.1 HINFO.out.2.2.2 rfl (by decide) u7 _ ys rfl (HS4.2.1.alloc _) ⟨_, 0, none⟩ 1 1 [.int .i64 1, .int .i64 m, .int .i64 0, .slice none 0 0] rfl rfl (four_new rfl) (by simp [Value.oneCell']) (by decide) (by unfold maxLen; omega) (by omega) (by have := HS4.2.2.2.size; simp; omega) _ (World.size_alloc _ _) ?_; intro g6 gcap6 w6 hown6 hgrow6 hat6 hlt6; have HS6 := stall_two HS4 ⟨rfl, hb4⟩ hown6 hgrow6 (by simpa using hat6); clear hown6 hgrow6 hat6 hlt6 HS4))
          go_wp2_with fail
          go_roundw
          case rel => exact ⟨j + 1, by omega, by go_num, acc ++ [turnP x], _, _, HS6.1, by rw [HST.out]; exact stall_snoc HO.out.2.1 HPT.out HTP.out, by simpa using HS6.2.1, stall_snoc HO.out.2.2.2.1 HPT.out HTP.out, by simp; omega, by rw [HO.out.2.2.2.2.1, HW.out, if_pos (.inr hbj)]; simp, by simp [Value.ownBlock], HS6.2.2.1, HS6.2.2.2⟩
          case measure => simp [intOf]; omega
        · have e2 : decide ((b : Int) < (j : Int) + 1) = false := decide_eq_false (by omega)
          go_wp2_with (first
            | (at_builtin; refine wpList_append_lies _ rfl _ _ 22 rfl w2.heap.size 25 i0 _ 4 48 Tryd.underlying22 HINFO.out.1 HINFO.out.2.1 HINFO.out.2.2.1 HINFO.out.2.2.2 rfl (by decide) u6 _ xs rfl ((HO.out.1.alloc _).alloc _) ⟨_, 0, none⟩ 1 1 [.int .i64 1, .int .i64 m, .int .i64 0, .slice none 0 0] rfl rfl (four_new (World.size_alloc _ _)) (by simp [Value.oneCell']) (by decide) (by unfold maxLen; omega) (by omega) (by have := HC.out.size; simp; omega) _ (World.size_alloc _ _) ?_; intro gg gcap w4 hown4 hgrow4 hat4 hlt4; obtain ⟨HS4, hbx, hb4⟩ := stall_one HO.out.1 HO.out.2.2.1 ⟨HO.out.2.2.2.2.2.2, trivial⟩ HC.out hown4 hgrow4 (by simpa using hat4) hlt4; have c0 := hbx 0 _ rfl; have c1 := hbx 1 _ rfl; have c2 := hbx 2 _ rfl; have c3 := hbx 3 _ rfl; clear hown4 hgrow4 hat4 hlt4 hbx))
          go_wp2_with fail
          go_roundw
          case rel => exact ⟨j + 1, by omega, by go_num, acc, _, ys, HS4.1, by rw [HST.out]; exact stall_snoc HO.out.2.1 HPT.out HTP.out, HS4.2.1, HO.out.2.2.2.1, by omega, by rw [HO.out.2.2.2.2.1, HW.out, if_neg (by have := HM1.out; omega)], by simp [Value.ownBlock], HS4.2.2.1, HS4.2.2.2⟩
          case measure => simp [intOf]; omega
      · have e0 : ((m : Int) == 1) = false := beq_eq_false_iff_ne.2 (by omega)
        have e1 : ((m : Int) != 1) = true := by rw [bne, e0]; rfl
        go_wp2_with (first
          | (at_builtin; refine wpList_append_lies _ rfl _ _ 22 rfl w2.heap.size 25 i0 _ 4 48 Tryd.underlying22 HINFO.out.1 HINFO.out.2.1 HINFO.out.2.2.1 HINFO.out.2.2.2 rfl (by decide) u6 _ xs rfl ((HO.out.1.alloc _).alloc _) ⟨_, 0, none⟩ 1 1 [.int .i64 1, .int .i64 m, .int .i64 0, .slice none 0 0] rfl rfl (four_new (World.size_alloc _ _)) (by simp [Value.oneCell']) (by decide) (by unfold maxLen; omega) (by omega) (by have := HC.out.size; simp; omega) _ (World.size_alloc _ _) ?_; intro gg gcap w4 hown4 hgrow4 hat4 hlt4; obtain ⟨HS4, hbx, hb4⟩ := stall_one HO.out.1 HO.out.2.2.1 ⟨HO.out.2.2.2.2.2.2, trivial⟩ HC.out hown4 hgrow4 (by simpa using hat4) hlt4; have c0 := hbx 0 _ rfl; have c1 := hbx 1 _ rfl; have c2 := hbx 2 _ rfl; have c3 := hbx 3 _ rfl; clear hown4 hgrow4 hat4 hlt4 hbx)
          | (at_builtin; refine wpList_append_lies _ rfl _ _ 22 rfl w2.heap.size 25 i0 _ 4 48 Tryd.underlying22 HINFO.out.1 HINFO.out.2.1 HINFO.out.2.2.1 HINFO.out.2.2.2 rfl (by decide) u7 _ ys rfl (HS4.2.1.alloc _) ⟨_, 0, none⟩ 1 1 [.int .i64 1, .int .i64 m, .int .i64 0, .slice none 0 0] rfl rfl (four_new rfl) (by simp [Value.oneCell']) (by decide) (by unfold maxLen; omega) (by omega) (by have := HS4.2.2.2.size; simp; omega) _ (World.size_alloc _ _) ?_; intro g6 gcap6 w6 hown6 hgrow6 hat6 hlt6; have HS6 := stall_two HS4 ⟨rfl, hb4⟩ hown6 hgrow6 (by simpa using hat6); clear hown6 hgrow6 hat6 hlt6 HS4))
        go_wp2_with fail
        go_roundw
        case rel => exact ⟨j + 1, by omega, by go_num, acc ++ [turnP x], _, _, HS6.1, by rw [HST.out]; exact stall_snoc HO.out.2.1 HPT.out HTP.out, by simpa using HS6.2.1, stall_snoc HO.out.2.2.2.1 HPT.out HTP.out, by simp; omega, by rw [HO.out.2.2.2.2.1, HW.out, if_pos (.inl (by omega))]; simp, by simp [Value.ownBlock], HS6.2.2.1, HS6.2.2.2⟩
        case measure => simp [intOf]; omega
    · obtain rfl : j = L.length := by omega
      have hv := lat_of_owns (l := stallScript b L) (by have := HO.out.1; rw [show 1 + L.length = (stallScript b L).length by simp [stallScript]; omega] at this; exact this) (by have := HO.out.2.1.below HC.out; rw [List.take_length] at this; exact this)
      have hu := lat_of_owns HO.out.2.2.1 (HO.out.2.2.2.1.below HC.out)
      have hw : plainL 3 (stallScript b L) = acc := by rw [stall_want b hb255, HO.out.2.2.2.2.1, List.drop_length, wantGo, List.append_nil]
      have hvl : (stallScript b L).length = L.length + 1 := by simp [stallScript]
      have HVL := Lib.hid hvl
      have HV := Lib.hid hv
      have HU := Lib.hid hu
      clear hvl
      have HWS := Lib.hid hw
      clear hw
      obtain ⟨va, vcap, rfl, hv1⟩ := hv
      obtain ⟨ua, ucap, rfl, hu1⟩ := hu
      clear hv1 hu1
      go_wp2_with fail
      refine (plain_at HV.out (by have := HVL.out; omega) HWS.out).mono ?_
      rintro e w6 ⟨ra, rcap, rfl, hr, hb⟩
      have HB6 := Lib.hid (chain HC.out hb)
      have HS6 := Lib.hid (And.intro hr (HU.out.below hb))
      clear hr hb
      go_wp2_with fail
      refine (same_at HS6.out.1 HS6.out.2 (sameL_iff.2 rfl)).mono ?_
      rintro e w7 ⟨rfl, hb⟩
      have HB7 := Lib.hid (chain HB.out (chain HB6.out hb))
      clear hb
      go_wp2_with fail
      go_ret
      exact ⟨rfl, HB7.out⟩
end Go.Proofs.YtlhnpaehhfimjaaDoor
