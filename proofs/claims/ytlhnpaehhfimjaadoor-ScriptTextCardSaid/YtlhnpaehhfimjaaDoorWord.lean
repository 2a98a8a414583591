/-
  The walks of word.step and word.stall.
-/
import Derived.Test.YtlhnpaehhfimjaaDoorNum
import Derived.Test.YtlhnpaehhfimjaaDoorOwn
namespace Go.Proofs.YtlhnpaehhfimjaaDoor
open Go.RowKit
theorem cell_set_has {w : World} {p : Addr} {v : Value} (h : (w.cell? p).isSome = true) : (w.setCell p v).cell? p = some v := by
  obtain ⟨u, hu⟩ := Option.isSome_iff_exists.1 h
  exact World.cell?_setCell_same _ _ _ hu
theorem some_set {w : World} {p q : Addr} {v : Value} : ((w.setCell q v).cell? p).isSome = (w.cell? p).isSome := by
  by_cases h : q = p
  · subst h
    cases hc : w.cell? q with
    | none =>
      cases hs : (w.setCell q v).cell? q with
      | none => rfl
      | some u =>
        exfalso
        unfold World.cell? World.setCell at hs
        simp only [Array.getElem?_modify, if_true] at hs
        unfold World.cell? at hc
        cases hb : w.heap[q.block]? with
        | none => simp [hb] at hs
        | some o =>
          cases o <;> simp [hb] at hs hc
          obtain ⟨h1, h2⟩ := hs
          have := hc h1
          cases hq : q.spot with
          | some x => simp [hq] at h1
          | none =>
            simp only [hq, Option.isSome_none, Bool.false_eq_true, if_false] at h2
            rw [Array.getElem?_eq_none (by simpa using this)] at h2
            cases h2
    | some u => rw [World.cell?_setCell_same _ _ _ hc]; rfl
  · rw [World.cell?_setCell_other _ _ _ _ h]

theorem number_is {s : ByteArray} {most n : Int} {w : World} (hs : s.size ≤ 281474976710656) (hg : Good w) (h : numS s.data.toList most = n) : Calls Tryd.prog 37 #[.string s, .int .i64 most] w fun e w' => e = .returned (.int .i64 n) ∧ Below w.heap.size w w' := by
  subst h; exact number_any s most w hs hg
theorem cut_is {s sep a b : ByteArray} {ok : Bool} {w : World} (hg : Good w) (hs : s.size < 4294967281) (ha : (Lib.cut s.data.toList sep.data.toList).1 = a.data.toList) (hb : (Lib.cut s.data.toList sep.data.toList).2.1 = b.data.toList) (hok : (Lib.cut s.data.toList sep.data.toList).2.2 = ok) :
    Calls Tryd.prog 36 #[.string s, .string sep] w fun e w' => e = .returned (.tuple #[.string a, .string b, .bool ok]) ∧ Below w.heap.size w w' := by
  have h := cut_any s sep w hg hs
  rw [ha, hb, hok] at h
  exact h
theorem numS_ge (l : List UInt8) (most : Int) : -1 ≤ numS l most ∧ (0 ≤ most → numS l most ≤ most) ∧ I64 (numS l most) := by
  rcases h : Lib.atoiAll l with n | _ | _
  · rw [numS_ok h]
    have := atoi_i64 h
    split
    · rename_i c; exact ⟨by omega, fun _ => by omega, this⟩
    · exact ⟨by omega, fun _ => by omega, by unfold I64; omega⟩
  · rw [numS_bad (by rw [h]; intro v c; cases c)]; exact ⟨by omega, fun _ => by omega, by unfold I64; omega⟩
  · rw [numS_bad (by rw [h]; intro v c; cases c)]; exact ⟨by omega, fun _ => by omega, by unfold I64; omega⟩
/-- The pick and its count, for a word that is a step. -/
def stepS (l : List UInt8) : Option (Pick × Int) :=
  let c := Lib.cut l [120]
  let many := if c.2.2 then numS c.2.1 1073741824 else 1
  let a := numS c.1 3
  if a < 0 ∨ many < 1 then none else some (⟨1, a, 0, []⟩, many)
def stallS (l : List UInt8) : Option (Pick × Int) :=
  let c := Lib.cut l [126]
  let a := numS c.1 3
  let b := numS c.2.1 1048576
  if c.2.2 = false ∨ a < 0 ∨ b < 0 then none else some (⟨2, a, b, []⟩, 1)
/-- How a reader of words ends. -/
def PickEnd (r : Option (Pick × Int)) (w : World) (e : Ending) (w' : World) : Prop :=
  ∃ (p : Pick) (c : Option Addr) (cap : Nat) (m : Int), e = .returned (.tuple #[.agg #[.int .i64 p.k, .int .i64 p.a, .int .i64 p.b, .slice c p.c.length cap], .int .i64 m]) ∧
    PAt w' (.agg #[.int .i64 p.k, .int .i64 p.a, .int .i64 p.b, .slice c p.c.length cap]) p ∧ Below w.heap.size w w' ∧ (∀ a, c = some a → w.heap.size ≤ a.block ∧ a.block < w'.heap.size) ∧ (match r with | some q => q = (p, m) ∧ 1 ≤ m ∧ m ≤ 1073741824 | none => m = 0)
theorem pat_flat {w : World} {k a b : Int} (hk : I64 k) (ha : I64 a) (hb : I64 b) : PAt w (.agg #[.int .i64 k, .int .i64 a, .int .i64 b, .slice none 0 0]) ⟨k, a, b, []⟩ :=
  ⟨none, 0, rfl, hk, ha, hb, by simp [big], by simp, fun i n h => by simp at h⟩
theorem end_flat {r : Option (Pick × Int)} {w w' : World} {k a b m : Int} (hk : I64 k) (ha : I64 a) (hb : I64 b) (hbw : Below w.heap.size w w') (h : match r with | some q => q = (⟨k, a, b, []⟩, m) ∧ 1 ≤ m ∧ m ≤ 1073741824 | none => m = 0) :
    PickEnd r w (.returned (.tuple #[.agg #[.int .i64 k, .int .i64 a, .int .i64 b, .slice none 0 0], .int .i64 m])) w' :=
  ⟨⟨k, a, b, []⟩, none, 0, m, rfl, pat_flat hk ha hb, hbw, (fun a h => by cases h), h⟩

-- HEAD-END
theorem size_eq (s : ByteArray) : s.data.toList.length = s.size := Array.length_toList
theorem cut_sizes {s a b : ByteArray} {sep : List UInt8} (hs : s.size < 4294967281) (ha : (Lib.cut s.data.toList sep).1 = a.data.toList) (hb : (Lib.cut s.data.toList sep).2.1 = b.data.toList) : a.size ≤ 281474976710656 ∧ b.size ≤ 281474976710656 := by
  have h1 := congrArg List.length ha
  have h2 := congrArg List.length hb
  rw [size_eq] at h1 h2
  unfold Lib.cut at h1 h2
  have h3 := size_eq s
  split at h1
  · simp only [List.length_take] at h1
    rename_i c
    rw [if_pos c] at h2
    simp only [List.length_drop] at h2
    omega
  · rename_i c
    rw [if_neg c] at h2
    simp only [List.length_nil] at h1 h2
    omega
theorem four_below {W w : World} {b : Nat} {v0 v1 v2 v3 : Value} (h : Below W.heap.size W w) (hx : W.heap.size ≤ b) : Below W.heap.size W ((((w.setCell ⟨b, 0, none⟩ v0).setCell ⟨b, 1, none⟩ v1).setCell ⟨b, 2, none⟩ v2).setCell ⟨b, 3, none⟩ v3) :=
  (((h.setCell hx _).setCell hx _).setCell hx _).setCell hx _
theorem four_read {w : World} {b : Nat} {u0 u1 u2 u3 v0 v1 v2 v3 : Value} (o : Obj) (hz : b < w.heap.size) (z0 : w.cell? ⟨b, 0, none⟩ = some u0) (z1 : w.cell? ⟨b, 1, none⟩ = some u1) (z2 : w.cell? ⟨b, 2, none⟩ = some u2) (z3 : w.cell? ⟨b, 3, none⟩ = some u3) :
    ((((((w.setCell ⟨b, 0, none⟩ v0).setCell ⟨b, 1, none⟩ v1).setCell ⟨b, 2, none⟩ v2).setCell ⟨b, 3, none⟩ v3).alloc o).cell? ⟨b, 0, none⟩ = some v0 ∧
    (((((w.setCell ⟨b, 0, none⟩ v0).setCell ⟨b, 1, none⟩ v1).setCell ⟨b, 2, none⟩ v2).setCell ⟨b, 3, none⟩ v3).alloc o).cell? ⟨b, 1, none⟩ = some v1) ∧
    ((((((w.setCell ⟨b, 0, none⟩ v0).setCell ⟨b, 1, none⟩ v1).setCell ⟨b, 2, none⟩ v2).setCell ⟨b, 3, none⟩ v3).alloc o).cell? ⟨b, 2, none⟩ = some v2 ∧
    (((((w.setCell ⟨b, 0, none⟩ v0).setCell ⟨b, 1, none⟩ v1).setCell ⟨b, 2, none⟩ v2).setCell ⟨b, 3, none⟩ v3).alloc o).cell? ⟨b, 3, none⟩ = some v3) := by
  refine ⟨⟨?_, ?_⟩, ?_, ?_⟩
  all_goals
    rw [World.cell?_alloc_lt _ _ _ (by simpa using hz)]
    simp [go_sem, cell_set_has, z0, z1, z2, z3]
theorem box_keep {w1 w2 : World} {b : Nat} {c : Array Value} (h : (∀ (j : Nat) (v : Value), c[j]? = some v → w1.cell? ⟨b, j, none⟩ = some v) ∧ (∀ j, w1.frozen? ⟨b, j, none⟩ = false)) (hz : b < w1.heap.size) (hb : Below w1.heap.size w1 w2) :
    (∀ (j : Nat) (v : Value), c[j]? = some v → w2.cell? ⟨b, j, none⟩ = some v) ∧ (∀ j, w2.frozen? ⟨b, j, none⟩ = false) :=
  ⟨fun j v e => (hb.cell (p := ⟨b, j, none⟩) hz).trans (h.1 j v e), fun j => (hb.frozen (p := ⟨b, j, none⟩) hz).trans (h.2 j)⟩
set_option maxRecDepth 20000 in
set_option maxHeartbeats 3200000 in
theorem step_any (s : ByteArray) (w : World) (hg : Good w) (hs : s.size < 4294967281) : Calls Tryd.prog 27 #[.string s] w (PickEnd (stepS s.data.toList) w) := by
  obtain ⟨a, ha⟩ : ∃ a : ByteArray, (Lib.cut s.data.toList [120]).1 = a.data.toList := ⟨⟨(Lib.cut s.data.toList [120]).1.toArray⟩, by simp⟩
  obtain ⟨b, hb⟩ : ∃ b : ByteArray, (Lib.cut s.data.toList [120]).2.1 = b.data.toList := ⟨⟨(Lib.cut s.data.toList [120]).2.1.toArray⟩, by simp⟩
  obtain ⟨ok, hok⟩ : ∃ ok, (Lib.cut s.data.toList [120]).2.2 = ok := ⟨_, rfl⟩
  obtain ⟨A, hA⟩ : ∃ A, numS a.data.toList 3 = A := ⟨_, rfl⟩
  obtain ⟨M, hM⟩ : ∃ M, numS b.data.toList 1073741824 = M := ⟨_, rfl⟩
  have hspec : stepS s.data.toList = if A < 0 ∨ (if ok then M else 1) < 1 then none else some (⟨1, A, 0, []⟩, if ok then M else 1) := by
    unfold stepS
    simp only [ha, hb, hok, hA, hM]
  have gA := numS_ge a.data.toList 3
  have gM := numS_ge b.data.toList 1073741824
  rw [hA] at gA
  rw [hM] at gM
  obtain ⟨hsa, hsb⟩ := cut_sizes hs ha hb
  have HC := Lib.hid (And.intro hg (And.intro hs (And.intro ha (And.intro hb hok))))
  have HN := Lib.hid (And.intro hA (And.intro hM (And.intro hsa hsb)))
  have HS := Lib.hid hspec
  have HG := Lib.hid (And.intro gA.2.2 gM.2.2)
  have hA3 : A ≤ 3 := gA.2.1 (by omega)
  have hM3 : M ≤ 1073741824 := gM.2.1 (by omega)
  have hA0 := gA.1
  have hM0 := gM.1
  clear hg hs ha hb hok hA hM hsa hsb hspec gA gM
  cases ok with
  | true =>
    by_cases h1 : A < 0
    · go_enter Tryd.func27, Tryd.ntmps27
      go_wp2_with fail
      refine (cut_is (sep := ⟨#[120]⟩) (HC.out.1.below (below_alloc _ _)) HC.out.2.1 HC.out.2.2.1 HC.out.2.2.2.1 HC.out.2.2.2.2).mono ?_
      rintro e w1 ⟨rfl, hb⟩
      have HB1 := Lib.hid (below_of_alloc' hb)
      have HZ1 := Lib.hid (box_later hb (by simp))
      have hz1 : w.heap.size < w1.heap.size := by have := hb.size; simp at this; omega
      clear hb
      go_wp2_with fail
      refine (number_is HN.out.2.2.2 (HC.out.1.below HB1.out) HN.out.2.1).mono ?_
      rintro e w2 ⟨rfl, hb⟩
      have HB2 := Lib.hid (chain HB1.out hb)
      have HZ2 := Lib.hid (box_keep HZ1.out hz1 hb)
      have hz2 : w.heap.size < w2.heap.size := Nat.lt_of_lt_of_le hz1 hb.size
      clear hb hz1
      go_wp2_with fail
      refine (number_is HN.out.2.2.1 (HC.out.1.below HB2.out) HN.out.1).mono ?_
      rintro e w3 ⟨rfl, hb⟩
      have HB3 := Lib.hid (chain HB2.out hb)
      have HZ3 := Lib.hid (box_keep HZ2.out hz2 hb)
      have hz3 : w.heap.size < w3.heap.size := Nat.lt_of_lt_of_le hz2 hb.size
      clear hb hz2
      have z0 := HZ3.out.1 0 _ rfl
      have z1 := HZ3.out.1 1 _ rfl
      have z2 := HZ3.out.1 2 _ rfl
      have z3 := HZ3.out.1 3 _ rfl
      have f0 := HZ3.out.2 0
      have f1 := HZ3.out.2 1
      have f2 := HZ3.out.2 2
      have f3 := HZ3.out.2 3
      simp only [List.getElem_toArray, List.getElem_cons_zero, List.getElem_cons_succ] at z0 z1 z2 z3
      go_wp2_with fail
      have RD := fun v0 v1 v2 v3 o => four_read (v0 := v0) (v1 := v1) (v2 := v2) (v3 := v3) o hz3 z0 z1 z2 z3
      refine bodyPost_ret (v := .tuple #[.agg #[.int .i64 1, .int .i64 A, .int .i64 0, .slice none 0 0], .int .i64 0]) (by simp [results, Tryd.results27, go_sem, RD]) rfl (end_flat (by unfold I64; omega) HG.out.1 (by unfold I64; omega) (alloc_below (four_below HB3.out (Nat.le_refl _))) ?_)
      rw [HS.out, if_pos (.inl h1)]
    · have h1d : decide (A < 0) = false := decide_eq_false h1
      by_cases h2 : M < 1
      · go_enter Tryd.func27, Tryd.ntmps27
        go_wp2_with fail
        refine (cut_is (sep := ⟨#[120]⟩) (HC.out.1.below (below_alloc _ _)) HC.out.2.1 HC.out.2.2.1 HC.out.2.2.2.1 HC.out.2.2.2.2).mono ?_
        rintro e w1 ⟨rfl, hb⟩
        have HB1 := Lib.hid (below_of_alloc' hb)
        have HZ1 := Lib.hid (box_later hb (by simp))
        have hz1 : w.heap.size < w1.heap.size := by have := hb.size; simp at this; omega
        clear hb
        go_wp2_with fail
        refine (number_is HN.out.2.2.2 (HC.out.1.below HB1.out) HN.out.2.1).mono ?_
        rintro e w2 ⟨rfl, hb⟩
        have HB2 := Lib.hid (chain HB1.out hb)
        have HZ2 := Lib.hid (box_keep HZ1.out hz1 hb)
        have hz2 : w.heap.size < w2.heap.size := Nat.lt_of_lt_of_le hz1 hb.size
        clear hb hz1
        go_wp2_with fail
        refine (number_is HN.out.2.2.1 (HC.out.1.below HB2.out) HN.out.1).mono ?_
        rintro e w3 ⟨rfl, hb⟩
        have HB3 := Lib.hid (chain HB2.out hb)
        have HZ3 := Lib.hid (box_keep HZ2.out hz2 hb)
        have hz3 : w.heap.size < w3.heap.size := Nat.lt_of_lt_of_le hz2 hb.size
        clear hb hz2
        have z0 := HZ3.out.1 0 _ rfl
        have z1 := HZ3.out.1 1 _ rfl
        have z2 := HZ3.out.1 2 _ rfl
        have z3 := HZ3.out.1 3 _ rfl
        have f0 := HZ3.out.2 0
        have f1 := HZ3.out.2 1
        have f2 := HZ3.out.2 2
        have f3 := HZ3.out.2 3
        simp only [List.getElem_toArray, List.getElem_cons_zero, List.getElem_cons_succ] at z0 z1 z2 z3
        go_wp2_with fail
        have RD := fun v0 v1 v2 v3 o => four_read (v0 := v0) (v1 := v1) (v2 := v2) (v3 := v3) o hz3 z0 z1 z2 z3
        refine bodyPost_ret (v := .tuple #[.agg #[.int .i64 1, .int .i64 A, .int .i64 0, .slice none 0 0], .int .i64 0]) (by simp [results, Tryd.results27, go_sem, RD]) rfl (end_flat (by unfold I64; omega) HG.out.1 (by unfold I64; omega) (alloc_below (four_below HB3.out (Nat.le_refl _))) ?_)
        rw [HS.out, if_pos (.inr (by simpa using h2))]
      · have h2d : decide (M < 1) = false := decide_eq_false h2
        go_enter Tryd.func27, Tryd.ntmps27
        go_wp2_with fail
        refine (cut_is (sep := ⟨#[120]⟩) (HC.out.1.below (below_alloc _ _)) HC.out.2.1 HC.out.2.2.1 HC.out.2.2.2.1 HC.out.2.2.2.2).mono ?_
        rintro e w1 ⟨rfl, hb⟩
        have HB1 := Lib.hid (below_of_alloc' hb)
        have HZ1 := Lib.hid (box_later hb (by simp))
        have hz1 : w.heap.size < w1.heap.size := by have := hb.size; simp at this; omega
        clear hb
        go_wp2_with fail
        refine (number_is HN.out.2.2.2 (HC.out.1.below HB1.out) HN.out.2.1).mono ?_
        rintro e w2 ⟨rfl, hb⟩
        have HB2 := Lib.hid (chain HB1.out hb)
        have HZ2 := Lib.hid (box_keep HZ1.out hz1 hb)
        have hz2 : w.heap.size < w2.heap.size := Nat.lt_of_lt_of_le hz1 hb.size
        clear hb hz1
        go_wp2_with fail
        refine (number_is HN.out.2.2.1 (HC.out.1.below HB2.out) HN.out.1).mono ?_
        rintro e w3 ⟨rfl, hb⟩
        have HB3 := Lib.hid (chain HB2.out hb)
        have HZ3 := Lib.hid (box_keep HZ2.out hz2 hb)
        have hz3 : w.heap.size < w3.heap.size := Nat.lt_of_lt_of_le hz2 hb.size
        clear hb hz2
        have z0 := HZ3.out.1 0 _ rfl
        have z1 := HZ3.out.1 1 _ rfl
        have z2 := HZ3.out.1 2 _ rfl
        have z3 := HZ3.out.1 3 _ rfl
        have f0 := HZ3.out.2 0
        have f1 := HZ3.out.2 1
        have f2 := HZ3.out.2 2
        have f3 := HZ3.out.2 3
        simp only [List.getElem_toArray, List.getElem_cons_zero, List.getElem_cons_succ] at z0 z1 z2 z3
        go_wp2_with fail
        have RD := fun v0 v1 v2 v3 o => four_read (v0 := v0) (v1 := v1) (v2 := v2) (v3 := v3) o hz3 z0 z1 z2 z3
        refine bodyPost_ret (v := .tuple #[.agg #[.int .i64 1, .int .i64 A, .int .i64 0, .slice none 0 0], .int .i64 M]) (by simp [results, Tryd.results27, go_sem, RD]) rfl (end_flat (by unfold I64; omega) HG.out.1 (by unfold I64; omega) (alloc_below (four_below HB3.out (Nat.le_refl _))) ?_)
        rw [HS.out, if_neg (by simp; omega)]
        exact ⟨rfl, by omega, by omega⟩
  | false =>
    by_cases h1 : A < 0
    · go_enter Tryd.func27, Tryd.ntmps27
      go_wp2_with fail
      refine (cut_is (sep := ⟨#[120]⟩) (HC.out.1.below (below_alloc _ _)) HC.out.2.1 HC.out.2.2.1 HC.out.2.2.2.1 HC.out.2.2.2.2).mono ?_
      rintro e w1 ⟨rfl, hb⟩
      have HB1 := Lib.hid (below_of_alloc' hb)
      have HZ1 := Lib.hid (box_later hb (by simp))
      have hz1 : w.heap.size < w1.heap.size := by have := hb.size; simp at this; omega
      clear hb
      go_wp2_with fail
      refine (number_is HN.out.2.2.1 (HC.out.1.below HB1.out) HN.out.1).mono ?_
      rintro e w2 ⟨rfl, hb⟩
      have HB2 := Lib.hid (chain HB1.out hb)
      have HZ2 := Lib.hid (box_keep HZ1.out hz1 hb)
      have hz2 : w.heap.size < w2.heap.size := Nat.lt_of_lt_of_le hz1 hb.size
      clear hb hz1
      have z0 := HZ2.out.1 0 _ rfl
      have z1 := HZ2.out.1 1 _ rfl
      have z2 := HZ2.out.1 2 _ rfl
      have z3 := HZ2.out.1 3 _ rfl
      have f0 := HZ2.out.2 0
      have f1 := HZ2.out.2 1
      have f2 := HZ2.out.2 2
      have f3 := HZ2.out.2 3
      simp only [List.getElem_toArray, List.getElem_cons_zero, List.getElem_cons_succ] at z0 z1 z2 z3
      go_wp2_with fail
      have RD := fun v0 v1 v2 v3 o => four_read (v0 := v0) (v1 := v1) (v2 := v2) (v3 := v3) o hz2 z0 z1 z2 z3
      refine bodyPost_ret (v := .tuple #[.agg #[.int .i64 1, .int .i64 A, .int .i64 0, .slice none 0 0], .int .i64 0]) (by simp [results, Tryd.results27, go_sem, RD]) rfl (end_flat (by unfold I64; omega) HG.out.1 (by unfold I64; omega) (alloc_below (four_below HB2.out (Nat.le_refl _))) ?_)
      rw [HS.out, if_pos (.inl h1)]
    · have h1d : decide (A < 0) = false := decide_eq_false h1
      go_enter Tryd.func27, Tryd.ntmps27
      go_wp2_with fail
      refine (cut_is (sep := ⟨#[120]⟩) (HC.out.1.below (below_alloc _ _)) HC.out.2.1 HC.out.2.2.1 HC.out.2.2.2.1 HC.out.2.2.2.2).mono ?_
      rintro e w1 ⟨rfl, hb⟩
      have HB1 := Lib.hid (below_of_alloc' hb)
      have HZ1 := Lib.hid (box_later hb (by simp))
      have hz1 : w.heap.size < w1.heap.size := by have := hb.size; simp at this; omega
      clear hb
      go_wp2_with fail
      refine (number_is HN.out.2.2.1 (HC.out.1.below HB1.out) HN.out.1).mono ?_
      rintro e w2 ⟨rfl, hb⟩
      have HB2 := Lib.hid (chain HB1.out hb)
      have HZ2 := Lib.hid (box_keep HZ1.out hz1 hb)
      have hz2 : w.heap.size < w2.heap.size := Nat.lt_of_lt_of_le hz1 hb.size
      clear hb hz1
      have z0 := HZ2.out.1 0 _ rfl
      have z1 := HZ2.out.1 1 _ rfl
      have z2 := HZ2.out.1 2 _ rfl
      have z3 := HZ2.out.1 3 _ rfl
      have f0 := HZ2.out.2 0
      have f1 := HZ2.out.2 1
      have f2 := HZ2.out.2 2
      have f3 := HZ2.out.2 3
      simp only [List.getElem_toArray, List.getElem_cons_zero, List.getElem_cons_succ] at z0 z1 z2 z3
      go_wp2_with fail
      have RD := fun v0 v1 v2 v3 o => four_read (v0 := v0) (v1 := v1) (v2 := v2) (v3 := v3) o hz2 z0 z1 z2 z3
      refine bodyPost_ret (v := .tuple #[.agg #[.int .i64 1, .int .i64 A, .int .i64 0, .slice none 0 0], .int .i64 1]) (by simp [results, Tryd.results27, go_sem, RD]) rfl (end_flat (by unfold I64; omega) HG.out.1 (by unfold I64; omega) (alloc_below (four_below HB2.out (Nat.le_refl _))) ?_)
      rw [HS.out, if_neg (by simp; omega)]
      exact ⟨rfl, by omega, by omega⟩
set_option maxRecDepth 20000 in
set_option maxHeartbeats 3200000 in
theorem stall_any (s : ByteArray) (w : World) (hg : Good w) (hs : s.size < 4294967281) : Calls Tryd.prog 28 #[.string s] w (PickEnd (stallS s.data.toList) w) := by
  obtain ⟨a, ha⟩ : ∃ a : ByteArray, (Lib.cut s.data.toList [126]).1 = a.data.toList := ⟨⟨(Lib.cut s.data.toList [126]).1.toArray⟩, by simp⟩
  obtain ⟨b, hb⟩ : ∃ b : ByteArray, (Lib.cut s.data.toList [126]).2.1 = b.data.toList := ⟨⟨(Lib.cut s.data.toList [126]).2.1.toArray⟩, by simp⟩
  obtain ⟨ok, hok⟩ : ∃ ok, (Lib.cut s.data.toList [126]).2.2 = ok := ⟨_, rfl⟩
  obtain ⟨A, hA⟩ : ∃ A, numS a.data.toList 3 = A := ⟨_, rfl⟩
  obtain ⟨M, hM⟩ : ∃ M, numS b.data.toList 1048576 = M := ⟨_, rfl⟩
  have hspec : stallS s.data.toList = if ok = false ∨ A < 0 ∨ M < 0 then none else some (⟨2, A, M, []⟩, 1) := by
    unfold stallS
    simp only [ha, hb, hok, hA, hM]
  have gA := numS_ge a.data.toList 3
  have gM := numS_ge b.data.toList 1048576
  rw [hA] at gA
  rw [hM] at gM
  obtain ⟨hsa, hsb⟩ := cut_sizes hs ha hb
  have HC := Lib.hid (And.intro hg (And.intro hs (And.intro ha (And.intro hb hok))))
  have HN := Lib.hid (And.intro hA (And.intro hM (And.intro hsa hsb)))
  have HS := Lib.hid hspec
  have HG := Lib.hid (And.intro gA.2.2 gM.2.2)
  have hA3 : A ≤ 3 := gA.2.1 (by omega)
  have hM3 : M ≤ 1048576 := gM.2.1 (by omega)
  have hA0 := gA.1
  have hM0 := gM.1
  clear hg hs ha hb hok hA hM hsa hsb hspec gA gM
  cases ok with
  | false =>
    go_enter Tryd.func28, Tryd.ntmps28
    go_wp2_with fail
    refine (cut_is (sep := ⟨#[126]⟩) (HC.out.1.below (below_alloc _ _)) HC.out.2.1 HC.out.2.2.1 HC.out.2.2.2.1 HC.out.2.2.2.2).mono ?_
    rintro e w1 ⟨rfl, hb⟩
    have HB1 := Lib.hid (below_of_alloc' hb)
    have HZ1 := Lib.hid (box_later hb (by simp))
    have hz1 : w.heap.size < w1.heap.size := by have := hb.size; simp at this; omega
    clear hb
    go_wp2_with fail
    refine (number_is HN.out.2.2.1 (HC.out.1.below HB1.out) HN.out.1).mono ?_
    rintro e w2 ⟨rfl, hb⟩
    have HB2 := Lib.hid (chain HB1.out hb)
    have HZ2 := Lib.hid (box_keep HZ1.out hz1 hb)
    have hz2 : w.heap.size < w2.heap.size := Nat.lt_of_lt_of_le hz1 hb.size
    clear hb hz1
    go_wp2_with fail
    refine (number_is HN.out.2.2.2 (HC.out.1.below HB2.out) HN.out.2.1).mono ?_
    rintro e w3 ⟨rfl, hb⟩
    have HB3 := Lib.hid (chain HB2.out hb)
    have HZ3 := Lib.hid (box_keep HZ2.out hz2 hb)
    have hz3 : w.heap.size < w3.heap.size := Nat.lt_of_lt_of_le hz2 hb.size
    clear hb hz2
    have z0 := HZ3.out.1 0 _ rfl
    have z1 := HZ3.out.1 1 _ rfl
    have z2 := HZ3.out.1 2 _ rfl
    have z3 := HZ3.out.1 3 _ rfl
    have f0 := HZ3.out.2 0
    have f1 := HZ3.out.2 1
    have f2 := HZ3.out.2 2
    have f3 := HZ3.out.2 3
    simp only [List.getElem_toArray, List.getElem_cons_zero, List.getElem_cons_succ] at z0 z1 z2 z3
    go_wp2_with fail
    have RD := fun v0 v1 v2 v3 o => four_read (v0 := v0) (v1 := v1) (v2 := v2) (v3 := v3) o hz3 z0 z1 z2 z3
    refine bodyPost_ret (v := .tuple #[.agg #[.int .i64 2, .int .i64 A, .int .i64 M, .slice none 0 0], .int .i64 0]) (by simp [results, Tryd.results28, go_sem, RD]) rfl (end_flat (by unfold I64; omega) HG.out.1 HG.out.2 (alloc_below (four_below HB3.out (Nat.le_refl _))) ?_)
    rw [HS.out, if_pos (by simp)]
  | true =>
    by_cases h1 : A < 0
    · go_enter Tryd.func28, Tryd.ntmps28
      go_wp2_with fail
      refine (cut_is (sep := ⟨#[126]⟩) (HC.out.1.below (below_alloc _ _)) HC.out.2.1 HC.out.2.2.1 HC.out.2.2.2.1 HC.out.2.2.2.2).mono ?_
      rintro e w1 ⟨rfl, hb⟩
      have HB1 := Lib.hid (below_of_alloc' hb)
      have HZ1 := Lib.hid (box_later hb (by simp))
      have hz1 : w.heap.size < w1.heap.size := by have := hb.size; simp at this; omega
      clear hb
      go_wp2_with fail
      refine (number_is HN.out.2.2.1 (HC.out.1.below HB1.out) HN.out.1).mono ?_
      rintro e w2 ⟨rfl, hb⟩
      have HB2 := Lib.hid (chain HB1.out hb)
      have HZ2 := Lib.hid (box_keep HZ1.out hz1 hb)
      have hz2 : w.heap.size < w2.heap.size := Nat.lt_of_lt_of_le hz1 hb.size
      clear hb hz1
      go_wp2_with fail
      refine (number_is HN.out.2.2.2 (HC.out.1.below HB2.out) HN.out.2.1).mono ?_
      rintro e w3 ⟨rfl, hb⟩
      have HB3 := Lib.hid (chain HB2.out hb)
      have HZ3 := Lib.hid (box_keep HZ2.out hz2 hb)
      have hz3 : w.heap.size < w3.heap.size := Nat.lt_of_lt_of_le hz2 hb.size
      clear hb hz2
      have z0 := HZ3.out.1 0 _ rfl
      have z1 := HZ3.out.1 1 _ rfl
      have z2 := HZ3.out.1 2 _ rfl
      have z3 := HZ3.out.1 3 _ rfl
      have f0 := HZ3.out.2 0
      have f1 := HZ3.out.2 1
      have f2 := HZ3.out.2 2
      have f3 := HZ3.out.2 3
      simp only [List.getElem_toArray, List.getElem_cons_zero, List.getElem_cons_succ] at z0 z1 z2 z3
      go_wp2_with fail
      have RD := fun v0 v1 v2 v3 o => four_read (v0 := v0) (v1 := v1) (v2 := v2) (v3 := v3) o hz3 z0 z1 z2 z3
      refine bodyPost_ret (v := .tuple #[.agg #[.int .i64 2, .int .i64 A, .int .i64 M, .slice none 0 0], .int .i64 0]) (by simp [results, Tryd.results28, go_sem, RD]) rfl (end_flat (by unfold I64; omega) HG.out.1 HG.out.2 (alloc_below (four_below HB3.out (Nat.le_refl _))) ?_)
      rw [HS.out, if_pos (.inr (.inl h1))]
    · have h1d : decide (A < 0) = false := decide_eq_false h1
      by_cases h2 : M < 0
      · go_enter Tryd.func28, Tryd.ntmps28
        go_wp2_with fail
        refine (cut_is (sep := ⟨#[126]⟩) (HC.out.1.below (below_alloc _ _)) HC.out.2.1 HC.out.2.2.1 HC.out.2.2.2.1 HC.out.2.2.2.2).mono ?_
        rintro e w1 ⟨rfl, hb⟩
        have HB1 := Lib.hid (below_of_alloc' hb)
        have HZ1 := Lib.hid (box_later hb (by simp))
        have hz1 : w.heap.size < w1.heap.size := by have := hb.size; simp at this; omega
        clear hb
        go_wp2_with fail
        refine (number_is HN.out.2.2.1 (HC.out.1.below HB1.out) HN.out.1).mono ?_
        rintro e w2 ⟨rfl, hb⟩
        have HB2 := Lib.hid (chain HB1.out hb)
        have HZ2 := Lib.hid (box_keep HZ1.out hz1 hb)
        have hz2 : w.heap.size < w2.heap.size := Nat.lt_of_lt_of_le hz1 hb.size
        clear hb hz1
        go_wp2_with fail
        refine (number_is HN.out.2.2.2 (HC.out.1.below HB2.out) HN.out.2.1).mono ?_
        rintro e w3 ⟨rfl, hb⟩
        have HB3 := Lib.hid (chain HB2.out hb)
        have HZ3 := Lib.hid (box_keep HZ2.out hz2 hb)
        have hz3 : w.heap.size < w3.heap.size := Nat.lt_of_lt_of_le hz2 hb.size
        clear hb hz2
        have z0 := HZ3.out.1 0 _ rfl
        have z1 := HZ3.out.1 1 _ rfl
        have z2 := HZ3.out.1 2 _ rfl
        have z3 := HZ3.out.1 3 _ rfl
        have f0 := HZ3.out.2 0
        have f1 := HZ3.out.2 1
        have f2 := HZ3.out.2 2
        have f3 := HZ3.out.2 3
        simp only [List.getElem_toArray, List.getElem_cons_zero, List.getElem_cons_succ] at z0 z1 z2 z3
        go_wp2_with fail
        have RD := fun v0 v1 v2 v3 o => four_read (v0 := v0) (v1 := v1) (v2 := v2) (v3 := v3) o hz3 z0 z1 z2 z3
        refine bodyPost_ret (v := .tuple #[.agg #[.int .i64 2, .int .i64 A, .int .i64 M, .slice none 0 0], .int .i64 0]) (by simp [results, Tryd.results28, go_sem, RD]) rfl (end_flat (by unfold I64; omega) HG.out.1 HG.out.2 (alloc_below (four_below HB3.out (Nat.le_refl _))) ?_)
        rw [HS.out, if_pos (.inr (.inr h2))]
      · have h2d : decide (M < 0) = false := decide_eq_false h2
        go_enter Tryd.func28, Tryd.ntmps28
        go_wp2_with fail
        refine (cut_is (sep := ⟨#[126]⟩) (HC.out.1.below (below_alloc _ _)) HC.out.2.1 HC.out.2.2.1 HC.out.2.2.2.1 HC.out.2.2.2.2).mono ?_
        rintro e w1 ⟨rfl, hb⟩
        have HB1 := Lib.hid (below_of_alloc' hb)
        have HZ1 := Lib.hid (box_later hb (by simp))
        have hz1 : w.heap.size < w1.heap.size := by have := hb.size; simp at this; omega
        clear hb
        go_wp2_with fail
        refine (number_is HN.out.2.2.1 (HC.out.1.below HB1.out) HN.out.1).mono ?_
        rintro e w2 ⟨rfl, hb⟩
        have HB2 := Lib.hid (chain HB1.out hb)
        have HZ2 := Lib.hid (box_keep HZ1.out hz1 hb)
        have hz2 : w.heap.size < w2.heap.size := Nat.lt_of_lt_of_le hz1 hb.size
        clear hb hz1
        go_wp2_with fail
        refine (number_is HN.out.2.2.2 (HC.out.1.below HB2.out) HN.out.2.1).mono ?_
        rintro e w3 ⟨rfl, hb⟩
        have HB3 := Lib.hid (chain HB2.out hb)
        have HZ3 := Lib.hid (box_keep HZ2.out hz2 hb)
        have hz3 : w.heap.size < w3.heap.size := Nat.lt_of_lt_of_le hz2 hb.size
        clear hb hz2
        have z0 := HZ3.out.1 0 _ rfl
        have z1 := HZ3.out.1 1 _ rfl
        have z2 := HZ3.out.1 2 _ rfl
        have z3 := HZ3.out.1 3 _ rfl
        have f0 := HZ3.out.2 0
        have f1 := HZ3.out.2 1
        have f2 := HZ3.out.2 2
        have f3 := HZ3.out.2 3
        simp only [List.getElem_toArray, List.getElem_cons_zero, List.getElem_cons_succ] at z0 z1 z2 z3
        go_wp2_with fail
        have RD := fun v0 v1 v2 v3 o => four_read (v0 := v0) (v1 := v1) (v2 := v2) (v3 := v3) o hz3 z0 z1 z2 z3
        refine bodyPost_ret (v := .tuple #[.agg #[.int .i64 2, .int .i64 A, .int .i64 M, .slice none 0 0], .int .i64 1]) (by simp [results, Tryd.results28, go_sem, RD]) rfl (end_flat (by unfold I64; omega) HG.out.1 HG.out.2 (alloc_below (four_below HB3.out (Nat.le_refl _))) ?_)
        rw [HS.out, if_neg (by simp; omega)]
        exact ⟨rfl, by omega, by omega⟩
end Go.Proofs.YtlhnpaehhfimjaaDoor
