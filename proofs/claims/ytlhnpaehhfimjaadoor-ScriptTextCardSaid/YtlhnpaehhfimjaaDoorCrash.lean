/-
  The walk of word.crash.
-/
import Derived.Test.YtlhnpaehhfimjaaDoorWord
import Derived.Deep.RegionLaw
import Derived.Deep.AppendLies
import Derived.Lib.BufferWrite
namespace Go.Proofs.YtlhnpaehhfimjaaDoor
open Go.RowKit Go.Maps
def cutsS (l : List UInt8) : List Int := (Lib.split l [44]).map fun x => numS x 32
def crashS (l : List UInt8) : Option (Pick × Int) :=
  let c := Lib.cut l [33]
  if c.2.2 = false ∨ c.1 ≠ [] then none
  else if c.2.1 = [] then some (⟨3, 0, 0, []⟩, 1)
  else if rightB 1 ⟨3, 0, 0, cutsS c.2.1⟩ then some (⟨3, 0, 0, cutsS c.2.1⟩, 1) else none
theorem info3 : (Tryd.prog.info? 3).map (fun i => (i.zero, i.size, i.bytes)) = some (some (.int .i64 0), 1, 8) := by kernel_rfl
/-- What holds at the head of crash's loop: the pick's box, the result's box, the pieces in block N. -/
def CrashAt (w : World) (N : Nat) (ps : List ByteArray) (ns : List Int) (wr : World) : Prop :=
  ∃ v, wr.cell? ⟨w.heap.size + 1, 3, none⟩ = some v ∧ wr.ownsRow (N + 1) 3 1 v ns.length (ns.map (Value.int .i64)) ∧
    ((∀ (j : Nat) (u : Value), #[Value.int .i64 3, .int .i64 0, .int .i64 0][j]? = some u → wr.cell? ⟨w.heap.size + 1, j, none⟩ = some u) ∧ (∀ j, wr.frozen? ⟨w.heap.size + 1, j, none⟩ = false)) ∧
    ((∀ (j : Nat) (u : Value), #[Value.int .i64 0, .int .i64 0, .int .i64 0, .slice none 0 0][j]? = some u → wr.cell? ⟨w.heap.size, j, none⟩ = some u) ∧ (∀ j, wr.frozen? ⟨w.heap.size, j, none⟩ = false)) ∧
    (∀ i s, ps[i]? = some s → wr.cell? ⟨N, i, none⟩ = some (.string s)) ∧ Below w.heap.size w wr ∧ N + 1 ≤ wr.heap.size
theorem two_later {w w1 : World} {c c' : Array Value} {t t' : TypeId} {B : Nat} (hb : Below B ((w.alloc (.cells c t)).alloc (.cells c' t')) w1) (hB : w.heap.size + 1 < B) :
    ((∀ (j : Nat) (v : Value), c[j]? = some v → w1.cell? ⟨w.heap.size, j, none⟩ = some v) ∧ (∀ j, w1.frozen? ⟨w.heap.size, j, none⟩ = false)) ∧
    ((∀ (j : Nat) (v : Value), c'[j]? = some v → w1.cell? ⟨w.heap.size + 1, j, none⟩ = some v) ∧ (∀ j, w1.frozen? ⟨w.heap.size + 1, j, none⟩ = false)) := by
  have e : (w.alloc (.cells c t)).heap.size = w.heap.size + 1 := World.size_alloc _ _
  refine ⟨⟨fun j v h => ?_, fun j => ?_⟩, fun j v h => ?_, fun j => ?_⟩
  · rw [hb.cell (by show w.heap.size < B; omega), World.cell?_alloc_lt _ _ _ (by rw [e]; exact Nat.lt_succ_self _), World.cell?_alloc_new, h]
  · rw [hb.frozen (by show w.heap.size < B; omega)]
    simp
  · rw [hb.cell (by exact hB), ← e, World.cell?_alloc_new, h]
  · rw [hb.frozen (by exact hB), ← e]
    simp
theorem one_new {w : World} {a : Value} {t : TypeId} {N : Nat} (hN : w.heap.size = N) : ∀ j u, [a][j]? = some u → (w.alloc (.cells #[a] t)).cell? ((⟨N, 0, none⟩ : Addr).add j) = some u := by
  subst hN
  intro j u hu
  have hadd : (⟨w.heap.size, 0, none⟩ : Addr).add j = ⟨w.heap.size, j, none⟩ := by unfold Addr.add; split <;> simp_all
  rw [hadd, World.cell?_alloc_new]
  simpa using hu

theorem own_far {w : World} {N B : Nat} {e : TypeId} {size : Nat} {v : Value} {n : Nat} {xs : List Value} (h : w.ownsRow N e size v n xs) (hB : B < N) : some B ≠ v.ownBlock := fun e => by have := (h.lt B e.symm).1; omega
theorem frozen_grown {w w1 w2 : World} {b i : Nat} {o : Obj} {u : Value} {row : Option Nat} (hg : (w1.alloc o).grownBy w2 row) (hc : w1.cell? ⟨b, i, none⟩ = some u) (h1 : w1.frozen? ⟨b, i, none⟩ = w.frozen? ⟨b, i, none⟩) (h0 : w.frozen? ⟨b, i, none⟩ = false) (hne : some b ≠ row) : w2.frozen? ⟨b, i, none⟩ = false := by
  have hlt := World.block_lt_of_cell? _ _ hc
  rw [hg.frozen_far ⟨b, i, none⟩ (by rw [World.size_alloc]; exact Nat.lt_succ_of_lt hlt) hne, World.frozen?_alloc_past _ _ _ hlt, h1, h0]
theorem crash_step {w wr w2 w4 : World} {N : Nat} {ps : List ByteArray} {ns : List Int} {v : Value} {m : Int} {g cap : Nat} {o : Obj} (hN : w.heap.size + 1 < N) (hA : CrashAt w N ps ns wr) (h3 : wr.cell? ⟨w.heap.size + 1, 3, none⟩ = some v)
    (hb : Below wr.drew.heap.size wr.drew w2) (hg : (w2.alloc o).grownBy w4 v.ownBlock) (ho : w4.ownsRow (N + 1) 3 1 (.slice (some ⟨g, 0, none⟩) (ns.length + 1) cap) (ns.length + 1) (ns.map (Value.int .i64) ++ [.int .i64 m])) :
    CrashAt w N ps (ns ++ [m]) (w4.setCell ⟨w.heap.size + 1, 3, none⟩ (.slice (some ⟨g, 0, none⟩) (ns.length + 1) cap)) := by
  obtain ⟨v', h3', hown, ⟨hx0, hxf⟩, ⟨hr0, hrf⟩, hpc, hbw, hsz⟩ := hA
  have hv : v' = v := Option.some.inj (h3'.symm.trans h3)
  subst hv
  have cell4 : ∀ b i u, b < N + 1 → wr.cell? ⟨b, i, none⟩ = some u → w4.cell? ⟨b, i, none⟩ = some u := fun b i u hbN h =>
    hg.cell (alloc_on (cell_on (w := wr.drew) h hb) _) (own_far hown hbN)
  have froz4 : ∀ b i, b < N + 1 → wr.frozen? ⟨b, i, none⟩ = false → w4.frozen? ⟨b, i, none⟩ = false := fun b i hbN h => by
    have hlt : b < wr.heap.size := Nat.lt_of_lt_of_le hbN hsz
    have hlt2 : b < w2.heap.size := Nat.lt_of_lt_of_le hlt hb.size
    rw [hg.frozen_far ⟨b, i, none⟩ (by rw [World.size_alloc]; exact Nat.lt_succ_of_lt hlt2) (own_far hown hbN), World.frozen?_alloc_past _ _ _ hlt2]
    exact (hb.frozen (p := ⟨b, i, none⟩) hlt).trans h
  have hs4 : wr.heap.size ≤ w4.heap.size := Nat.le_trans hb.size (Nat.le_trans (by rw [World.size_alloc]; exact Nat.le_succ _) hg.size)
  refine ⟨_, World.cell?_setCell_same _ _ _ (cell4 _ _ _ (by omega) h3), ?_, ⟨fun j u hu => ?_, fun j => ?_⟩, ⟨fun j u hu => ?_, fun j => ?_⟩, fun i s hi => ?_, ?_, by rw [World.size_setCell]; omega⟩
  · have := ho.kept (Lib.grownBy_setCell w4 (w.heap.size + 1) 3 (.slice (some ⟨g, 0, none⟩) (ns.length + 1) cap)) (.inr (fun e => own_far ho (show w.heap.size + 1 < N + 1 by omega) e.symm))
    simpa using this
  · rw [World.cell?_setCell_other _ _ _ _ (by intro e; injection e with _ e2; subst e2; match hu with | hu => simp at hu)]
    exact cell4 _ _ _ (by omega) (hx0 j u hu)
  · rw [World.frozen?_setCell]; exact froz4 _ _ (by omega) (hxf j)
  · rw [World.cell?_setCell_other _ _ _ _ (by intro e; injection e with e1; omega)]
    exact cell4 _ _ _ (by omega) (hr0 j u hu)
  · rw [World.frozen?_setCell]; exact froz4 _ _ (by omega) (hrf j)
  · rw [World.cell?_setCell_other _ _ _ _ (by intro e; injection e with e1; omega)]
    exact cell4 _ _ _ (by omega) (hpc i s hi)
  · refine Below.setCell ?_ (Nat.le_succ _) _
    exact grown_below (alloc_below (hbw.trans ((Below.drew (Below.refl _ _)).trans (hb.mono hbw.size |>.mono (Nat.le_refl _))))) hg ((owns_below (w := wr.drew) hown hb).alloc _) (by omega) (Nat.le_trans hbw.size (Nat.le_trans hb.size (by rw [World.size_alloc]; exact Nat.le_succ _)))
theorem four_read0 {w : World} {b : Nat} {u0 u1 u2 u3 v0 v1 v2 v3 : Value} (z0 : w.cell? ⟨b, 0, none⟩ = some u0) (z1 : w.cell? ⟨b, 1, none⟩ = some u1) (z2 : w.cell? ⟨b, 2, none⟩ = some u2) (z3 : w.cell? ⟨b, 3, none⟩ = some u3) :
    (((((w.setCell ⟨b, 0, none⟩ v0).setCell ⟨b, 1, none⟩ v1).setCell ⟨b, 2, none⟩ v2).setCell ⟨b, 3, none⟩ v3).cell? ⟨b, 0, none⟩ = some v0 ∧
    ((((w.setCell ⟨b, 0, none⟩ v0).setCell ⟨b, 1, none⟩ v1).setCell ⟨b, 2, none⟩ v2).setCell ⟨b, 3, none⟩ v3).cell? ⟨b, 1, none⟩ = some v1) ∧
    (((((w.setCell ⟨b, 0, none⟩ v0).setCell ⟨b, 1, none⟩ v1).setCell ⟨b, 2, none⟩ v2).setCell ⟨b, 3, none⟩ v3).cell? ⟨b, 2, none⟩ = some v2 ∧
    ((((w.setCell ⟨b, 0, none⟩ v0).setCell ⟨b, 1, none⟩ v1).setCell ⟨b, 2, none⟩ v2).setCell ⟨b, 3, none⟩ v3).cell? ⟨b, 3, none⟩ = some v3) := by
  refine ⟨⟨?_, ?_⟩, ?_, ?_⟩
  all_goals simp [go_sem, cell_set_has, z0, z1, z2, z3]
/-- A row of integers of the call's own. -/
theorem cuts_of_owns {w : World} {base : Nat} {v : Value} {l : List Int} (h : w.ownsRow base 3 1 v l.length (l.map (Value.int .i64))) : ∃ c cap, v = .slice c l.length cap ∧ IntsAt w c l ∧ (∀ a, c = some a → base ≤ a.block ∧ a.block < w.heap.size) := by
  rcases h.2 with ⟨rfl, hn⟩ | ⟨g, cap, cur, rfl, hb, hg, hnc, hcm, hs, ht⟩
  · have : l = [] := List.length_eq_zero_iff.1 hn
    subst this
    exact ⟨none, 0, rfl, (fun i p hi => by simp at hi), (fun a h => by cases h)⟩
  · refine ⟨_, _, rfl, fun i n hi => ⟨g, 0, rfl, ?_⟩, fun a h => by cases h; exact ⟨hb, (Array.getElem?_eq_some_iff.1 hg).1⟩⟩
    have := h.cells (g := g) rfl i (.int .i64 n) (by simp [hi])
    have hadd : (⟨g, 0, none⟩ : Addr).add i = ⟨g, 0 + i, none⟩ := by unfold Addr.add; split <;> simp_all
    rw [hadd] at this
    exact this
theorem owns_set4 {w : World} {base : Nat} {e : TypeId} {size : Nat} {v : Value} {n b : Nat} {xs : List Value} {v0 v1 v2 v3 : Value} (h : w.ownsRow base e size v n xs) (hb : b < base) :
    ((((w.setCell ⟨b, 0, none⟩ v0).setCell ⟨b, 1, none⟩ v1).setCell ⟨b, 2, none⟩ v2).setCell ⟨b, 3, none⟩ v3).ownsRow base e size v n xs := by
  have k : ∀ {w : World} (_ : w.ownsRow base e size v n xs) (i : Nat) (u : Value), (w.setCell ⟨b, i, none⟩ u).ownsRow base e size v n xs := fun h i u => h.kept (Lib.grownBy_setCell _ b i u) (.inr (fun e => own_far h hb e.symm))
  exact k (k (k (k h 0 v0) 1 v1) 2 v2) 3 v3
theorem pat_cuts {w : World} {c : Option Addr} {cap : Nat} {l : List Int} (h : IntsAt w c l) (hl : l.length ≤ big) (hi : ∀ n ∈ l, I64 n) : PAt w (.agg #[.int .i64 3, .int .i64 0, .int .i64 0, .slice c l.length cap]) ⟨3, 0, 0, l⟩ :=
  ⟨c, cap, rfl, show I64 3 by unfold I64; omega, show I64 0 by unfold I64; omega, show I64 0 by unfold I64; omega, hl, hi, h⟩
theorem below_of_two {w w1 : World} {o o' : Obj} (h : Below ((w.alloc o).alloc o').heap.size ((w.alloc o).alloc o') w1) : Below (w.alloc o).heap.size (w.alloc o) w1 := below_of_alloc' h
theorem below_drew1 {W w : World} (h : Below W.heap.size W w) : Below W.heap.size W w.drew := Below.drew h
theorem splitB_le (sep : ByteArray) : ∀ (k : Nat) (s : ByteArray), ∀ x ∈ Lib.splitB sep 0 k s, x.size ≤ s.size
  | 0, s, x, h => by rw [Lib.splitB_zero] at h; simp at h; subst h; exact Nat.le_refl _
  | k + 1, s, x, h => by
    unfold Lib.splitB at h
    split at h
    · simp at h; subst h; exact Nat.le_refl _
    · rcases List.mem_cons.1 h with rfl | h
      · rw [ByteArray.size_extract]; omega
      · have := splitB_le sep k _ x h
        rw [ByteArray.size_extract] at this
        omega
set_option maxRecDepth 20000 in
set_option maxHeartbeats 3200000 in
theorem crash_any (s : ByteArray) (w : World) (hg : Good w) (hs : s.size < 4294967281) : Calls Tryd.prog 29 #[.string s] w (PickEnd (crashS s.data.toList) w) := by
  obtain ⟨a, ha⟩ : ∃ a : ByteArray, (Lib.cut s.data.toList [33]).1 = a.data.toList := ⟨⟨(Lib.cut s.data.toList [33]).1.toArray⟩, by simp⟩
  obtain ⟨b, hb⟩ : ∃ b : ByteArray, (Lib.cut s.data.toList [33]).2.1 = b.data.toList := ⟨⟨(Lib.cut s.data.toList [33]).2.1.toArray⟩, by simp⟩
  obtain ⟨ok, hok⟩ : ∃ ok, (Lib.cut s.data.toList [33]).2.2 = ok := ⟨_, rfl⟩
  have hspec : crashS s.data.toList = if ok = false ∨ a.data.toList ≠ [] then none else if b.data.toList = [] then some (⟨3, 0, 0, []⟩, 1) else if rightB 1 ⟨3, 0, 0, cutsS b.data.toList⟩ then some (⟨3, 0, 0, cutsS b.data.toList⟩, 1) else none := by
    unfold crashS
    simp only [ha, hb, hok]
  obtain ⟨hsa, hsb⟩ := cut_sizes hs ha hb
  have hsb' : b.size < 4294967281 := by
    have h2 := congrArg List.length hb
    rw [size_eq] at h2
    unfold Lib.cut at h2
    have h3 := size_eq s
    split at h2
    · simp only [List.length_drop] at h2; omega
    · simp only [List.length_nil] at h2; omega
  have hae : a.toList.isEmpty = a.data.toList.isEmpty := by rw [ByteArray.toList_eq]
  have hbe : b.toList.isEmpty = b.data.toList.isEmpty := by rw [ByteArray.toList_eq]
  obtain ⟨ae, hae2⟩ : ∃ ae, a.data.toList.isEmpty = ae := ⟨_, rfl⟩
  obtain ⟨be, hbe2⟩ : ∃ be, b.data.toList.isEmpty = be := ⟨_, rfl⟩
  rw [hae2] at hae
  rw [hbe2] at hbe
  have HC := Lib.hid (And.intro hg (And.intro hs (And.intro ha (And.intro hb hok))))
  have HE := Lib.hid (And.intro hae2 hbe2)
  have HS := Lib.hid hspec
  have HZ := Lib.hid (And.intro hsa (And.intro hsb hsb'))
  clear hg hs ha hb hok hspec hsa hsb hsb' hae2 hbe2
  obtain ⟨i0, hi, hz0, hz1, hz2⟩ := info_parts info3
  have HINFO := Lib.hid (And.intro hi (And.intro hz0 (And.intro hz1 hz2)))
  clear hi hz0 hz1 hz2
  cases ok with
  | false =>
    go_enter Tryd.func29, Tryd.ntmps29
    go_wp2_with fail
    refine (cut_is (sep := ⟨#[33]⟩) (HC.out.1.below (alloc_below (below_alloc _ _))) HC.out.2.1 HC.out.2.2.1 HC.out.2.2.2.1 HC.out.2.2.2.2).mono ?_
    rintro e w1 ⟨rfl, hb⟩
    have HT := Lib.hid (two_later hb (by rw [World.size_alloc, World.size_alloc]; exact Nat.lt_succ_self _))
    have HB1 := Lib.hid (below_of_alloc' (below_of_two hb))
    clear hb
    have z0 := HT.out.1.1 0 _ rfl
    have z1 := HT.out.1.1 1 _ rfl
    have z2 := HT.out.1.1 2 _ rfl
    have z3 := HT.out.1.1 3 _ rfl
    have f0 := HT.out.1.2 0
    have f1 := HT.out.1.2 1
    have f2 := HT.out.1.2 2
    have f3 := HT.out.1.2 3
    have y0 := HT.out.2.1 0 _ rfl
    have y1 := HT.out.2.1 1 _ rfl
    have y2 := HT.out.2.1 2 _ rfl
    have y3 := HT.out.2.1 3 _ rfl
    simp only [List.getElem_toArray, List.getElem_cons_zero, List.getElem_cons_succ] at z0 z1 z2 z3 y0 y1 y2 y3
    have RD := fun v0 v1 v2 v3 => four_read0 (v0 := v0) (v1 := v1) (v2 := v2) (v3 := v3) z0 z1 z2 z3
    go_wp2_with fail
    refine bodyPost_ret (v := .tuple #[.agg #[.int .i64 3, .int .i64 0, .int .i64 0, .slice none 0 0], .int .i64 0]) (by simp [results, Tryd.results29, go_sem, RD]) rfl (end_flat (by unfold I64; omega) (by unfold I64; omega) (by unfold I64; omega) (four_below HB1.out (Nat.le_refl _)) ?_)
    rw [HS.out, if_pos (by simp)]
  | true =>
    cases ae with
    | false =>
      go_enter Tryd.func29, Tryd.ntmps29
      go_wp2_with fail
      refine (cut_is (sep := ⟨#[33]⟩) (HC.out.1.below (alloc_below (below_alloc _ _))) HC.out.2.1 HC.out.2.2.1 HC.out.2.2.2.1 HC.out.2.2.2.2).mono ?_
      rintro e w1 ⟨rfl, hb⟩
      have HT := Lib.hid (two_later hb (by rw [World.size_alloc, World.size_alloc]; exact Nat.lt_succ_self _))
      have HB1 := Lib.hid (below_of_alloc' (below_of_two hb))
      clear hb
      have z0 := HT.out.1.1 0 _ rfl
      have z1 := HT.out.1.1 1 _ rfl
      have z2 := HT.out.1.1 2 _ rfl
      have z3 := HT.out.1.1 3 _ rfl
      have f0 := HT.out.1.2 0
      have f1 := HT.out.1.2 1
      have f2 := HT.out.1.2 2
      have f3 := HT.out.1.2 3
      have y0 := HT.out.2.1 0 _ rfl
      have y1 := HT.out.2.1 1 _ rfl
      have y2 := HT.out.2.1 2 _ rfl
      have y3 := HT.out.2.1 3 _ rfl
      simp only [List.getElem_toArray, List.getElem_cons_zero, List.getElem_cons_succ] at z0 z1 z2 z3 y0 y1 y2 y3
      have RD := fun v0 v1 v2 v3 => four_read0 (v0 := v0) (v1 := v1) (v2 := v2) (v3 := v3) z0 z1 z2 z3
      go_wp2_with fail
      refine bodyPost_ret (v := .tuple #[.agg #[.int .i64 3, .int .i64 0, .int .i64 0, .slice none 0 0], .int .i64 0]) (by simp [results, Tryd.results29, go_sem, RD]) rfl (end_flat (by unfold I64; omega) (by unfold I64; omega) (by unfold I64; omega) (four_below HB1.out (Nat.le_refl _)) ?_)
      rw [HS.out, if_pos (.inr (by intro c; have := HE.out.1; rw [c] at this; cases this))]
    | true =>
      cases be with
      | true =>
        go_enter Tryd.func29, Tryd.ntmps29
        go_wp2_with fail
        refine (cut_is (sep := ⟨#[33]⟩) (HC.out.1.below (alloc_below (below_alloc _ _))) HC.out.2.1 HC.out.2.2.1 HC.out.2.2.2.1 HC.out.2.2.2.2).mono ?_
        rintro e w1 ⟨rfl, hb⟩
        have HT := Lib.hid (two_later hb (by rw [World.size_alloc, World.size_alloc]; exact Nat.lt_succ_self _))
        have HB1 := Lib.hid (below_of_alloc' (below_of_two hb))
        clear hb
        have z0 := HT.out.1.1 0 _ rfl
        have z1 := HT.out.1.1 1 _ rfl
        have z2 := HT.out.1.1 2 _ rfl
        have z3 := HT.out.1.1 3 _ rfl
        have f0 := HT.out.1.2 0
        have f1 := HT.out.1.2 1
        have f2 := HT.out.1.2 2
        have f3 := HT.out.1.2 3
        have y0 := HT.out.2.1 0 _ rfl
        have y1 := HT.out.2.1 1 _ rfl
        have y2 := HT.out.2.1 2 _ rfl
        have y3 := HT.out.2.1 3 _ rfl
        simp only [List.getElem_toArray, List.getElem_cons_zero, List.getElem_cons_succ] at z0 z1 z2 z3 y0 y1 y2 y3
        have RD := fun v0 v1 v2 v3 => four_read0 (v0 := v0) (v1 := v1) (v2 := v2) (v3 := v3) z0 z1 z2 z3
        go_wp2_with fail
        refine bodyPost_ret (v := .tuple #[.agg #[.int .i64 3, .int .i64 0, .int .i64 0, .slice none 0 0], .int .i64 1]) (by simp [results, Tryd.results29, go_sem, RD]) rfl (end_flat (by unfold I64; omega) (by unfold I64; omega) (by unfold I64; omega) (four_below HB1.out (Nat.le_refl _)) ?_)
        rw [HS.out, if_neg (by simpa using HE.out.1), if_pos (by simpa using HE.out.2)]
        exact ⟨rfl, by omega, by omega⟩
      | false => 
        go_enter Tryd.func29, Tryd.ntmps29
        go_wp2_with fail
        refine (cut_is (sep := ⟨#[33]⟩) (HC.out.1.below (alloc_below (below_alloc _ _))) HC.out.2.1 HC.out.2.2.1 HC.out.2.2.2.1 HC.out.2.2.2.2).mono ?_
        rintro e w1 ⟨rfl, hb⟩
        have HT := Lib.hid (two_later hb (by rw [World.size_alloc, World.size_alloc]; exact Nat.lt_succ_self _))
        have hN : w.heap.size + 1 < w1.heap.size := by have := hb.size; simp at this; omega
        have HB1 := Lib.hid (below_of_alloc' (below_of_two hb))
        clear hb
        go_wp2_with fail
        refine (Tryd.strings_Split_shaped b ⟨#[44]⟩ _ (HC.out.1.below HB1.out).2.2.2 HZ.out.2.2 (Nat.le_refl 1)).mono ?_
        rintro e w2 ⟨rfl, rfl⟩
        obtain ⟨n, hn⟩ : ∃ n, Lib.countB b ⟨#[44]⟩ = n := ⟨_, rfl⟩
        obtain ⟨ps, hps⟩ : ∃ ps, Lib.splitB ⟨#[44]⟩ 0 n b = ps := ⟨_, rfl⟩
        rw [hn, hps]
        have hpl : ps.length = n + 1 := by rw [← hps]; exact Lib.splitB_all ⟨#[44]⟩ (Nat.le_refl 1) 0 n b hn
        have hcut : cutsS b.data.toList = ps.map fun x => numS x.data.toList 32 := by
          rw [← hps, ← hn]
          unfold cutsS Lib.split
          rw [show Lib.splitK [44] 0 (Lib.count b.data.toList [44]) b.data.toList = _ from (Lib.splitB_data ⟨#[44]⟩ 0 (Lib.countB b ⟨#[44]⟩) b).symm, List.map_map]
          rfl
        have hpsz : ∀ x ∈ ps, x.size ≤ b.size := by rw [← hps]; exact splitB_le _ n b
        have HPS := Lib.hid (And.intro hcut (And.intro hpsz hpl))
        have hn9 : n ≤ 4294967281 := by
          rw [← hn]
          exact Nat.le_trans (Lib.countB_le ⟨#[44]⟩ (Nat.le_refl 1) b.size b (Nat.le_refl _)) (Nat.le_of_lt HZ.out.2.2)
        clear hn hps hcut hpsz hpl
        go_wp2_with fail
        obtain ⟨N, hNN⟩ : ∃ N, w1.heap.size = N := ⟨_, rfl⟩
        have h0 : CrashAt w N ps [] (w1.alloc (.cells (ps.map Value.string).toArray 9)) := by
          subst hNN
          refine ⟨.slice none 0 0, ?_, World.ownsRow_nil _ _ _ _, ⟨fun j u hu => ?_, fun j => ?_⟩, ⟨fun j u hu => ?_, fun j => ?_⟩, fun i s hi => ?_, alloc_below HB1.out, by simp⟩
          · exact alloc_on (HT.out.2.1 3 _ rfl) _
          · refine alloc_on (HT.out.2.1 j u ?_) _
            match j, hu with
            | 0, hu => exact hu
            | 1, hu => exact hu
            | 2, hu => exact hu
          · rw [World.frozen?_alloc_past _ _ _ (by exact hN)]; exact HT.out.2.2 j
          · exact alloc_on (HT.out.1.1 j u hu) _
          · rw [World.frozen?_alloc_past _ _ _ (by exact Nat.lt_of_succ_lt hN)]; exact HT.out.1.2 j
          · rw [World.cell?_alloc_new]; simp [hi]
        rw [hNN]
        have H0 := Lib.hid h0
        rw [hNN] at hN
        clear h0 HT HB1 hNN
        go_loopw [30] (fun i wr => ∃ j : Nat, j ≤ n + 1 ∧ i = .int .i64 j ∧ CrashAt w N ps ((ps.take j).map fun x => numS x.data.toList 32) wr) (fun i _ => n + 1 - (intOf i).toNat)
        case atStart => exact ⟨0, Nat.zero_le _, rfl, by simpa using H0.out⟩
        case round =>
          obtain ⟨j, hj, rfl, hat⟩ := hrel
          have HA := Lib.hid hat
          clear hat H0
          by_cases hlt : j < n + 1
          · obtain ⟨x, hx⟩ := get_of_lt (of := ps) (j := j) (by have := HPS.out.2.2; omega)
            obtain ⟨ns, hns⟩ : ∃ ns, (ps.take j).map (fun x => numS x.data.toList 32) = ns := ⟨_, rfl⟩
            have hnl : ns.length = j := by rw [← hns]; simp; have := HPS.out.2.2; omega
            rw [hns] at HA
            obtain ⟨v, h3, hown, ⟨hx0, hxf⟩, hr0, hpc, hbw, hsz⟩ := HA.out
            have c9 := hpc j x hx
            have x0 := hx0 0 _ rfl
            have x1 := hx0 1 _ rfl
            have x2 := hx0 2 _ rfl
            have f3 := hxf 3
            obtain ⟨m, hm⟩ : ∃ m, numS x.data.toList 32 = m := ⟨_, rfl⟩
            have HX := Lib.hid (And.intro hx (And.intro hns hm))
            have HO := Lib.hid (And.intro hown (And.intro hbw h3))
            have hxs : x.size ≤ 281474976710656 := Nat.le_trans (HPS.out.2.1 x (mem_of_get hx)) HZ.out.2.1
            have HXS := Lib.hid hxs
            clear hx hns hm hown hbw hpc hx0 hxf hr0 hxs
            go_wp2_with fail
            go_region_law
              (first | (go_simp; go_at_call 37; refine (number_is HXS.out (HC.out.1.below (below_drew1 HO.out.2.1)) HX.out.2.2).mono ?_; rintro e w2 ⟨rfl, hb2⟩; have k3 := cell_on (w := wr.drew) HO.out.2.2 hb2; have k3a := fun o => alloc_on k3 o) | (refine step_append_lies _ (by rfl) _ _ _ (by rfl) (N + 1) 3 i0 _ 1 8 Tryd.underlying23 HINFO.out.1 HINFO.out.2.1 HINFO.out.2.2.1 HINFO.out.2.2.2 rfl (by omega) v j _ (by rfl) (by rw [← hnl]; exact (owns_below (w := wr.drew) HO.out.1 (by assumption)).alloc _) ⟨w2.heap.size, 0, none⟩ 1 1 [.int .i64 m] (by rfl) (by rfl) (one_new rfl) (by simp [Value.oneCell']) (by omega) (by unfold maxLen; omega) (by omega) (by have := hb2.size; simp at this ⊢; omega) (w2.heap.size + 1) (by simp) ?_; intro gg cap w4 hown4 hgrow4 hat4 hlt4; have k4 := hgrow4.cell (alloc_on k3 _) (own_far HO.out.1 (Nat.lt_succ_of_lt hN)); have f4 := frozen_grown hgrow4 k3 (hb2.frozen (p := ⟨w.heap.size + 1, 3, none⟩) (World.block_lt_of_cell? _ _ h3)) f3 (own_far HO.out.1 (Nat.lt_succ_of_lt hN))))
            all_goals
              go_wp2_with fail
              go_roundw
              case rel =>
                refine ⟨j + 1, by omega, by go_num, ?_⟩
                rw [take_of_get HX.out.1, List.map_append, HX.out.2.1]
                simp only [List.map_cons, List.map_nil, HX.out.2.2]
                subst hnl
                exact crash_step hN HA.out HO.out.2.2 hb2 hgrow4 hown4
              case measure => simp [intOf]; omega
          · have : j = n + 1 := by omega
            subst this
            have hps1 : ps.take (n + 1) = ps := by rw [← HPS.out.2.2, List.take_length]
            rw [hps1, ← HPS.out.1] at HA
            obtain ⟨cs, hcs⟩ : ∃ cs, cutsS b.data.toList = cs := ⟨_, rfl⟩
            have hcl : cs.length = n + 1 := by rw [← hcs, HPS.out.1, List.length_map, HPS.out.2.2]
            have hci : ∀ m ∈ cs, I64 m := fun m hm => by
              rw [← hcs, HPS.out.1] at hm
              obtain ⟨x, _, rfl⟩ := List.mem_map.1 hm
              exact (numS_ge _ _).2.2
            rw [hcs] at HA HS
            obtain ⟨v, h3, hown, ⟨hx0, hxf⟩, ⟨hr0, hrf⟩, hpc, hbw, hsz⟩ := HA.out
            obtain ⟨c, ccap, hvc, hints, _⟩ := cuts_of_owns hown
            subst hvc
            have hbig : cs.length ≤ big := by unfold big; omega
            have x0 := hx0 0 _ rfl
            have x1 := hx0 1 _ rfl
            have x2 := hx0 2 _ rfl
            simp only [List.getElem_toArray, List.getElem_cons_zero, List.getElem_cons_succ] at x0 x1 x2
            have HP := Lib.hid (pat_cuts (cap := ccap) hints hbig hci)
            have HO := Lib.hid (And.intro hown (And.intro hbw (And.intro hr0 hrf)))
            have HI := Lib.hid (And.intro hci hbig)
            have hzr : w.heap.size < wr.heap.size := by omega
            obtain ⟨r, hr⟩ : ∃ r, rightB 1 ⟨3, 0, 0, cs⟩ = r := ⟨_, rfl⟩
            have HR := Lib.hid hr
            clear hps1 hcs hcl hci hown hx0 hxf hr0 hrf hpc hbw hints hbig hr HA
            go_wp2_with fail
            refine (right_is HP.out HR.out).mono ?_
            rintro e w3 ⟨rfl, hb⟩
            have HB3 := Lib.hid (chain HO.out.2.1 hb)
            have HZ3 := Lib.hid (box_keep HO.out.2.2 hzr hb)
            have HO3 := Lib.hid (owns_below HO.out.1 hb)
            have y0 := cell_on x0 hb
            have y1 := cell_on x1 hb
            have y2 := cell_on x2 hb
            have y3 := cell_on h3 hb
            clear hb x0 x1 x2 h3
            have z0 := HZ3.out.1 0 _ rfl
            have z1 := HZ3.out.1 1 _ rfl
            have z2 := HZ3.out.1 2 _ rfl
            have z3 := HZ3.out.1 3 _ rfl
            have f0 := HZ3.out.2 0
            have f1 := HZ3.out.2 1
            have f2 := HZ3.out.2 2
            have f3 := HZ3.out.2 3
            simp only [List.getElem_toArray, List.getElem_cons_zero, List.getElem_cons_succ] at z0 z1 z2 z3
            have RD := fun v0 v1 v2 v3 => four_read0 (v0 := v0) (v1 := v1) (v2 := v2) (v3 := v3) z0 z1 z2 z3
            cases r with
            | false =>
              go_wp2_with fail
              refine bodyPost_ret (v := .tuple #[.agg #[.int .i64 3, .int .i64 0, .int .i64 0, .slice c cs.length ccap], .int .i64 0]) (by simp [results, Tryd.results29, go_sem, RD]) rfl ⟨⟨3, 0, 0, cs⟩, c, ccap, 0, rfl, ?_, four_below HB3.out (Nat.le_refl _), ?_, ?_⟩
              · obtain ⟨c2, cap2, e2, hi2, _⟩ := cuts_of_owns (owns_set4 HO3.out (show w.heap.size < N + 1 by omega))
                injection e2 with e3 _ e4
                subst e3 e4
                exact pat_cuts hi2 HI.out.2 HI.out.1
              · obtain ⟨c2, cap2, e2, _, hf2⟩ := cuts_of_owns (owns_set4 HO3.out (show w.heap.size < N + 1 by omega))
                injection e2 with e3 _ e4
                subst e3 e4
                exact fun a h => ⟨by have := (hf2 a h).1; omega, (hf2 a h).2⟩
              · rw [HS.out, if_neg (by simpa using HE.out.1), if_neg (by simpa using HE.out.2), if_neg (by rw [HR.out]; simp)]
            | true =>
              go_wp2_with fail
              refine bodyPost_ret (v := .tuple #[.agg #[.int .i64 3, .int .i64 0, .int .i64 0, .slice c cs.length ccap], .int .i64 1]) (by simp [results, Tryd.results29, go_sem, RD]) rfl ⟨⟨3, 0, 0, cs⟩, c, ccap, 1, rfl, ?_, four_below HB3.out (Nat.le_refl _), ?_, ?_⟩
              · obtain ⟨c2, cap2, e2, hi2, _⟩ := cuts_of_owns (owns_set4 HO3.out (show w.heap.size < N + 1 by omega))
                injection e2 with e3 _ e4
                subst e3 e4
                exact pat_cuts hi2 HI.out.2 HI.out.1
              · obtain ⟨c2, cap2, e2, _, hf2⟩ := cuts_of_owns (owns_set4 HO3.out (show w.heap.size < N + 1 by omega))
                injection e2 with e3 _ e4
                subst e3 e4
                exact fun a h => ⟨by have := (hf2 a h).1; omega, (hf2 a h).2⟩
              · rw [HS.out, if_neg (by simpa using HE.out.1), if_neg (by simpa using HE.out.2), if_pos (by rw [HR.out])]
                exact ⟨rfl, by omega, by omega⟩
end Go.Proofs.YtlhnpaehhfimjaaDoor
