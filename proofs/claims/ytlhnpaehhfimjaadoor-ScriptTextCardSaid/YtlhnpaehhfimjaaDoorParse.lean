/-
  The walk of script.Parse.
-/
import Derived.Test.YtlhnpaehhfimjaaDoorCrash
import Derived.Test.YtlhnpaehhfimjaaDoorPlain
import Derived.Deep.DeepCutAuto
namespace Go.Proofs.YtlhnpaehhfimjaaDoor
open Go.RowKit Go.Maps
def wsB (x : Nat) : Bool := x == 32 || x == 9 || x == 10
def wordS (l : List UInt8) : Option (Pick × Int) :=
  match stepS l with
  | some r => some r
  | none => match stallS l with
    | some r => some r
    | none => crashS l
def parseGo : List (List UInt8) → Int → List Pick → Option (Int × List Pick)
  | [], t, acc => some (t, acc)
  | x :: xs, t, acc => match wordS x with
    | none => none
    | some (p, m) => parseGo xs (t + m) (if t + m ≤ 10000 then acc ++ List.replicate m.toNat p else acc)
def parseEnd : Option (Int × List Pick) → List Pick × Int
  | none => ([], 3)
  | some (t, acc) => if 10000 < t then ([], 2) else (acc, 0)
/-- What Parse makes of the words. -/
def parseW (ws : List (List UInt8)) : List Pick × Int := parseEnd (parseGo ws 0 [])
def wordsOf (s : ByteArray) : List (List UInt8) := (Lib.goFieldsP wsB s).map fun x => x.data.toList
/-- The call returns a slice that reads as r's script, and r's error. -/
def GivesP (r : List Pick × Int) (w : World) (e : Ending) (w' : World) : Prop := ∃ v, e = .returned (.tuple #[v, .int .i64 r.2]) ∧ LAt w' v r.1 ∧ Below w.heap.size w w'

theorem pred_any (x : Nat) (w : World) : Calls Tryd.prog 26 #[.int .i32 x] w fun e w' => e = .returned (.bool (wsB x)) ∧ w = w' := by
  by_cases h1 : x = 32
  · subst h1
    go_enter Tryd.func26, Tryd.ntmps26
    go_wp2_with fail
    go_ret
    exact ⟨rfl, rfl⟩
  · have h1' : ((x : Int) == 32) = false := beq_eq_false_iff_ne.2 (by omega)
    by_cases h2 : x = 9
    · subst h2
      go_enter Tryd.func26, Tryd.ntmps26
      go_wp2_with fail
      go_ret
      exact ⟨rfl, rfl⟩
    · have h2' : ((x : Int) == 9) = false := beq_eq_false_iff_ne.2 (by omega)
      by_cases h3 : x = 10
      · subst h3
        go_enter Tryd.func26, Tryd.ntmps26
        go_wp2_with fail
        go_ret
        exact ⟨rfl, rfl⟩
      · have h3' : ((x : Int) == 10) = false := beq_eq_false_iff_ne.2 (by omega)
        have HE := Lib.hid (And.intro h1 (And.intro h2 h3))
        clear h1 h2 h3
        go_enter Tryd.func26, Tryd.ntmps26
        go_wp2_with fail
        go_ret
        exact ⟨ret_bool (by have := HE.out; simp [wsB, this.1, this.2.1, this.2.2]), rfl⟩
theorem pred_at (w : World) : PredAt Tryd.prog 26 #[] encR wsB w := fun W x _ => (pred_any x W).mono fun _ _ ⟨he, hw⟩ => ⟨he, 0, hw.symm⟩
theorem span_len (p : Nat → Bool) (s : ByteArray) : ∀ (f pos : Nat) (st : Option Nat) (acc : List (Nat × Nat)), (Lib.spansFromP p s f pos st acc).1.length ≤ acc.length + f
  | 0, _, _, acc => by unfold Lib.spansFromP; simp
  | f + 1, pos, st, acc => by
    unfold Lib.spansFromP
    split
    · split
      · cases st with
        | none => have := span_len p s f (pos + (Utf8.decode s pos).2) none acc; simp only; omega
        | some a => have := span_len p s f (pos + (Utf8.decode s pos).2) none (acc ++ [(a, pos)]); simp at this ⊢; omega
      · cases st with
        | none => have := span_len p s f (pos + (Utf8.decode s pos).2) (some pos) acc; simp only; omega
        | some a => have := span_len p s f (pos + (Utf8.decode s pos).2) (some a) acc; simp only; omega
    · simp
theorem fields_len (p : Nat → Bool) (s : ByteArray) : (Lib.goFieldsP p s).length ≤ s.size + 1 := by
  unfold Lib.goFieldsP Lib.spansOfP Lib.closeSpans
  rw [List.length_map]
  have := span_len p s s.size 0 none []
  split
  · simp at this ⊢; omega
  · simp at this ⊢; omega
theorem fields_size (p : Nat → Bool) (s : ByteArray) : ∀ x ∈ Lib.goFieldsP p s, x.size ≤ s.size := fun x h => by
  unfold Lib.goFieldsP at h
  obtain ⟨y, _, rfl⟩ := List.mem_map.1 h
  rw [ByteArray.size_extract]
  omega
/-- No slice among the cells leads into block blk, nor beyond the heap. -/
def Av (w : World) (blk : Option Nat) (xs : List Value) : Prop := ∀ (i : Nat) (c : Addr) (n cap : Nat), xs[i]? = some (.slice (some c) n cap) → some c.block ≠ blk ∧ c.block < w.heap.size
theorem RowOf.grown {w w' : World} {l : List Pick} {xs : List Value} {blk : Option Nat} (h : RowOf w l xs) (ha : Av w blk xs) (hg : w.grownBy w' blk) : RowOf w' l xs := by
  refine ⟨h.1, fun i p hi => ?_⟩
  obtain ⟨c, cap, h0, h1, h2, h3, c', cap', hx, hk, hpa, hpb, hl, hal, hat⟩ := h.2 i p hi
  have e : c = c' := by
    have := congrArg (fun v : Array Value => v[3]?) (Value.agg.inj hx)
    simp only [List.getElem?_toArray, List.getElem?_cons_succ, List.getElem?_cons_zero, Option.some.injEq, Value.slice.injEq, true_and] at this
    exact this.1
  subst e
  refine ⟨c, cap, h0, h1, h2, h3, c, cap', hx, hk, hpa, hpb, hl, hal, fun j n hj => ?_⟩
  obtain ⟨b, off, rfl, hc⟩ := hat j n hj
  exact ⟨b, off, rfl, hg.cell hc (ha (i * 4 + 3) _ _ _ h3).1⟩
theorem Av.below {w w' : World} {blk : Option Nat} {xs : List Value} (h : Av w blk xs) (hs : w.heap.size ≤ w'.heap.size) : Av w' blk xs := fun i c n cap hi => ⟨(h i c n cap hi).1, Nat.lt_of_lt_of_le (h i c n cap hi).2 hs⟩
theorem Av.nil (w : World) (blk : Option Nat) : Av w blk [] := fun i c n cap h => by simp at h
theorem Av.snoc {w : World} {blk : Option Nat} {xs : List Value} {k a b : Int} {c : Option Addr} {n cap : Nat} (h : Av w blk xs) (hc : ∀ a, c = some a → some a.block ≠ blk ∧ a.block < w.heap.size) : Av w blk (xs ++ [.int .i64 k, .int .i64 a, .int .i64 b, .slice c n cap]) := by
  intro i c' n' cap' hi
  by_cases hlt : i < xs.length
  · rw [List.getElem?_append_left hlt] at hi
    exact h i c' n' cap' hi
  · rw [List.getElem?_append_right (by omega)] at hi
    match i - xs.length, hi with
    | 0, hi => simp at hi
    | 1, hi => simp at hi
    | 2, hi => simp at hi
    | 3, hi =>
      simp only [List.getElem?_cons_succ, List.getElem?_cons_zero, Option.some.injEq, Value.slice.injEq] at hi
      exact hc c' hi.1
    | k + 4, hi => simp at hi
theorem Av.own {w w' : World} {v : Value} {g n cap : Nat} {xs : List Value} (h : Av w v.ownBlock xs) (hg : v.ownBlock = some g ∨ g = w.heap.size) (hs : w.heap.size ≤ w'.heap.size) : Av w' (Value.slice (some ⟨g, 0, none⟩) n cap).ownBlock xs := by
  intro i c n' cap' hi
  have h1 := h i c n' cap' hi
  refine ⟨fun e => ?_, Nat.lt_of_lt_of_le h1.2 hs⟩
  have e2 : c.block = g := by simpa [Value.ownBlock] using e
  rcases hg with hg | hg
  · exact h1.1 (by rw [hg, e2])
  · omega

/-- What holds at the head of the loop that appends one pick again and again. -/
def AppAt (w1 : World) (B : Nat) (p : Pick) (c : Option Addr) (cap : Nat) (acc : List Pick) (v : Value) (k : Nat) (xs : List Value) (wr : World) : Prop :=
  wr.ownsRow w1.heap.size 25 4 v (acc.length + k) xs ∧ RowOf wr (acc ++ List.replicate k p) xs ∧ Av wr v.ownBlock xs ∧
  (wr.cell? ⟨B, 0, none⟩ = some (.int .i64 p.k) ∧ wr.cell? ⟨B, 1, none⟩ = some (.int .i64 p.a) ∧ wr.cell? ⟨B, 2, none⟩ = some (.int .i64 p.b) ∧ wr.cell? ⟨B, 3, none⟩ = some (.slice c p.c.length cap)) ∧
  PAt wr (.agg #[.int .i64 p.k, .int .i64 p.a, .int .i64 p.b, .slice c p.c.length cap]) p ∧ (∀ a, c = some a → some a.block ≠ v.ownBlock ∧ a.block < wr.heap.size) ∧ (some B ≠ v.ownBlock ∧ B < wr.heap.size) ∧ Below w1.heap.size w1 wr
theorem pat_grown {w w' : World} {p : Pick} {c : Option Addr} {cap : Nat} {blk : Option Nat} (hp : PAt w (.agg #[.int .i64 p.k, .int .i64 p.a, .int .i64 p.b, .slice c p.c.length cap]) p) (hc : ∀ a, c = some a → some a.block ≠ blk ∧ a.block < w.heap.size) (hg : w.grownBy w' blk) :
    PAt w' (.agg #[.int .i64 p.k, .int .i64 p.a, .int .i64 p.b, .slice c p.c.length cap]) p := by
  obtain ⟨c', cap', hx, hk, hpa, hpb, hl, hal, hat⟩ := hp
  have e : c = c' := by
    have := congrArg (fun v : Array Value => v[3]?) (Value.agg.inj hx)
    simp only [List.getElem?_toArray, List.getElem?_cons_succ, List.getElem?_cons_zero, Option.some.injEq, Value.slice.injEq, true_and] at this
    exact this.1
  subst e
  refine ⟨c, cap', hx, hk, hpa, hpb, hl, hal, fun j n hj => ?_⟩
  obtain ⟨b, off, rfl, hcell⟩ := hat j n hj
  exact ⟨b, off, rfl, hg.cell hcell (hc _ rfl).1⟩
theorem own_moved {w3 : World} {v : Value} {g n cap b : Nat} (h : some b ≠ v.ownBlock) (hb : b < w3.heap.size) (hg : v.ownBlock = some g ∨ g = w3.heap.size) : some b ≠ (Value.slice (some ⟨g, 0, none⟩) n cap).ownBlock := by
  intro e
  have e2 : b = g := by simpa [Value.ownBlock] using e
  rcases hg with hg | hg
  · exact h (by rw [hg, e2])
  · omega
theorem app_step {w1 wr w4 : World} {B : Nat} {p : Pick} {c : Option Addr} {cap : Nat} {acc : List Pick} {v : Value} {k g gcap : Nat} {xs : List Value} {o : Obj} (h : AppAt w1 B p c cap acc v k xs wr) (hg : (wr.alloc o).grownBy w4 v.ownBlock)
    (ho : w4.ownsRow w1.heap.size 25 4 (.slice (some ⟨g, 0, none⟩) (acc.length + k + 1) gcap) (acc.length + k + 1) (xs ++ [.int .i64 p.k, .int .i64 p.a, .int .i64 p.b, .slice c p.c.length cap])) (hgg : v.ownBlock = some g ∨ g = wr.heap.size + 1) :
    AppAt w1 B p c cap acc (.slice (some ⟨g, 0, none⟩) (acc.length + k + 1) gcap) (k + 1) (xs ++ [.int .i64 p.k, .int .i64 p.a, .int .i64 p.b, .slice c p.c.length cap]) w4 := by
  obtain ⟨hrow, hrd, hav, ⟨b0, b1, b2, b3⟩, hp, hc, ⟨hB, hBs⟩, hbw⟩ := h
  have hz : (wr.alloc o).heap.size = wr.heap.size + 1 := World.size_alloc _ _
  have hgg' : v.ownBlock = some g ∨ g = (wr.alloc o).heap.size := by rw [hz]; exact hgg
  have hba := below_alloc wr o
  have hc' : ∀ a, c = some a → some a.block ≠ v.ownBlock ∧ a.block < (wr.alloc o).heap.size := fun a ha => ⟨(hc a ha).1, by rw [hz]; have := (hc a ha).2; omega⟩
  refine ⟨ho, ?_, ?_, ⟨hg.cell (alloc_on b0 o) hB, hg.cell (alloc_on b1 o) hB, hg.cell (alloc_on b2 o) hB, hg.cell (alloc_on b3 o) hB⟩, pat_grown (hp.below hba) hc' hg,
    fun a ha => ⟨own_moved (hc a ha).1 (hc' a ha).2 hgg', Nat.lt_of_lt_of_le (hc' a ha).2 hg.size⟩, ⟨own_moved hB (by rw [hz]; omega) hgg', Nat.lt_of_lt_of_le (by rw [hz]; omega) hg.size⟩,
    grown_below (alloc_below hbw) hg (hrow.alloc _) (Nat.le_refl _) (alloc_below hbw).size⟩
  · rw [show List.replicate (k + 1) p = List.replicate k p ++ [p] from List.replicate_succ', ← List.append_assoc]
    exact ((hrd.below hba).grown (hav.below hba.size) hg).snoc (pat_grown (hp.below hba) hc' hg)
  · have h2 := (Av.own (n := acc.length + k + 1) (cap := gcap) (hav.below hba.size) hgg' hg.size)
    exact h2.snoc fun a ha => ⟨own_moved (hc a ha).1 (hc' a ha).2 hgg', Nat.lt_of_lt_of_le (hc' a ha).2 hg.size⟩
theorem gives_of {r : List Pick × Int} {l : List Pick} {n : Int} {v : Value} {w w' : World} {e : Ending} (h : r = (l, n)) (he : e = .returned (.tuple #[v, .int .i64 n])) (hl : LAt w' v l) (hb : Below w.heap.size w w') : GivesP r w e w' := by
  subst h; exact ⟨v, he, hl, hb⟩
theorem lat_nil (w : World) : LAt w (.slice none 0 0) [] := ⟨none, 0, rfl, Nat.le_refl _, by simp [huge], fun i p hi => by simp at hi⟩
theorem step_is {x : ByteArray} {r : Option (Pick × Int)} {w : World} (hg : Good w) (hs : x.size < 4294967281) (h : Hid (stepS x.data.toList = r)) : Calls Tryd.prog 27 #[.string x] w (PickEnd r w) := by
  have := h.out; subst this; exact step_any x w hg hs
theorem stall_is {x : ByteArray} {r : Option (Pick × Int)} {w : World} (hg : Good w) (hs : x.size < 4294967281) (h : Hid (stallS x.data.toList = r)) : Calls Tryd.prog 28 #[.string x] w (PickEnd r w) := by
  have := h.out; subst this; exact stall_any x w hg hs
theorem crash_is {x : ByteArray} {r : Option (Pick × Int)} {w : World} (hg : Good w) (hs : x.size < 4294967281) (h : Hid (crashS x.data.toList = r)) : Calls Tryd.prog 29 #[.string x] w (PickEnd r w) := by
  have := h.out; subst this; exact crash_any x w hg hs
theorem parse_inv {x : List UInt8} {xs : List (List UInt8)} {t : Int} {acc : List Pick} {p : Pick} {m : Int} (h : wordS x = some (p, m)) : parseGo (x :: xs) t acc = parseGo xs (t + m) (if t + m ≤ 10000 then acc ++ List.replicate m.toNat p else acc) := by
  rw [parseGo, h]
theorem parse_no {x : List UInt8} {xs : List (List UInt8)} {t : Int} {acc : List Pick} (h : wordS x = none) : parseGo (x :: xs) t acc = none := by
  rw [parseGo, h]
/-- What holds at the head of Parse's loop. -/
def ParseAt (W : World) (ws : List (List UInt8)) (out : Value) (j : Nat) (t : Int) (wr : World) : Prop :=
  ∃ (acc : List Pick) (xs : List Value), parseGo ws 0 [] = parseGo (ws.drop j) t acc ∧ acc.length ≤ 10000 ∧ (acc.length : Int) ≤ t ∧ t ≤ j * 1073741824 ∧ wr.ownsRow W.heap.size 25 4 out acc.length xs ∧ RowOf wr acc xs ∧ Av wr out.ownBlock xs ∧ Below W.heap.size W wr

theorem far4' {w : World} {b b' i : Nat} {u v0 v1 v2 v3 : Value} (hne : b ≠ b') (h : w.cell? ⟨b', i, none⟩ = some u) : ((((w.setCell ⟨b, 0, none⟩ v0).setCell ⟨b, 1, none⟩ v1).setCell ⟨b, 2, none⟩ v2).setCell ⟨b, 3, none⟩ v3).cell? ⟨b', i, none⟩ = some u := by
  have ne : ∀ k, (⟨b, k, none⟩ : Addr) ≠ ⟨b', i, none⟩ := fun k e => by injection e with e1; exact hne e1
  rw [World.cell?_setCell_other _ _ _ _ (ne 3), World.cell?_setCell_other _ _ _ _ (ne 2), World.cell?_setCell_other _ _ _ _ (ne 1), World.cell?_setCell_other _ _ _ _ (ne 0)]
  exact h
theorem far4 {w : World} {b i : Nat} {u v0 v1 v2 v3 : Value} (h : w.cell? ⟨b + 1, i, none⟩ = some u) : ((((w.setCell ⟨b, 0, none⟩ v0).setCell ⟨b, 1, none⟩ v1).setCell ⟨b, 2, none⟩ v2).setCell ⟨b, 3, none⟩ v3).cell? ⟨b + 1, i, none⟩ = some u := far4' (by omega) h
/-- Four cells of a box of the call's own. -/
def Box4 (w : World) (b : Nat) (v0 v1 v2 v3 : Value) : Prop :=
  (w.cell? ⟨b, 0, none⟩ = some v0 ∧ w.cell? ⟨b, 1, none⟩ = some v1 ∧ w.cell? ⟨b, 2, none⟩ = some v2 ∧ w.cell? ⟨b, 3, none⟩ = some v3) ∧ (∀ j, w.frozen? ⟨b, j, none⟩ = false) ∧ b < w.heap.size
theorem Box4.below {w w' : World} {b : Nat} {v0 v1 v2 v3 : Value} (h : Box4 w b v0 v1 v2 v3) (hb : Below w.heap.size w w') : Box4 w' b v0 v1 v2 v3 :=
  ⟨⟨cell_on h.1.1 hb, cell_on h.1.2.1 hb, cell_on h.1.2.2.1 hb, cell_on h.1.2.2.2 hb⟩, fun j => (hb.frozen (p := ⟨b, j, none⟩) h.2.2).trans (h.2.1 j), Nat.lt_of_lt_of_le h.2.2 hb.size⟩
theorem Box4.set {w : World} {b : Nat} {u0 u1 u2 u3 v0 v1 v2 v3 : Value} (h : Box4 w b u0 u1 u2 u3) : Box4 ((((w.setCell ⟨b, 0, none⟩ v0).setCell ⟨b, 1, none⟩ v1).setCell ⟨b, 2, none⟩ v2).setCell ⟨b, 3, none⟩ v3) b v0 v1 v2 v3 := by
  have r := four_read0 (v0 := v0) (v1 := v1) (v2 := v2) (v3 := v3) h.1.1 h.1.2.1 h.1.2.2.1 h.1.2.2.2
  exact ⟨⟨r.1.1, r.1.2, r.2.1, r.2.2⟩, fun j => by simp [World.frozen?_setCell, h.2.1 j], by simpa using h.2.2⟩
/-- The box (block of number wr's heap) holds the pick p; what lay in wr lies as it lay; the cuts lie behind it. -/
def BoxAt (wr wx : World) (p : Pick) (c : Option Addr) (cap : Nat) : Prop :=
  (wx.cell? ⟨wr.heap.size, 0, none⟩ = some (.int .i64 p.k) ∧ wx.cell? ⟨wr.heap.size, 1, none⟩ = some (.int .i64 p.a) ∧ wx.cell? ⟨wr.heap.size, 2, none⟩ = some (.int .i64 p.b) ∧ wx.cell? ⟨wr.heap.size, 3, none⟩ = some (.slice c p.c.length cap)) ∧
  (∀ j, wx.frozen? ⟨wr.heap.size, j, none⟩ = false) ∧ PAt wx (.agg #[.int .i64 p.k, .int .i64 p.a, .int .i64 p.b, .slice c p.c.length cap]) p ∧ (∀ a, c = some a → wr.heap.size < a.block ∧ a.block < wx.heap.size) ∧ Below wr.heap.size wr wx ∧ wr.heap.size < wx.heap.size
theorem boxat {wr W w3 : World} {p : Pick} {c : Option Addr} {cap : Nat} {u0 u1 u2 u3 : Value} (hq : Box4 w3 wr.heap.size u0 u1 u2 u3) (hp : PAt w3 (.agg #[.int .i64 p.k, .int .i64 p.a, .int .i64 p.b, .slice c p.c.length cap]) p) (hb : Below wr.heap.size wr w3)
    (hf : ∀ a, c = some a → W.heap.size ≤ a.block ∧ a.block < w3.heap.size) (hW : wr.heap.size < W.heap.size) :
    BoxAt wr ((((w3.setCell ⟨wr.heap.size, 0, none⟩ (.int .i64 p.k)).setCell ⟨wr.heap.size, 1, none⟩ (.int .i64 p.a)).setCell ⟨wr.heap.size, 2, none⟩ (.int .i64 p.b)).setCell ⟨wr.heap.size, 3, none⟩ (.slice c p.c.length cap)) p c cap := by
  have h := hq.set (v0 := .int .i64 p.k) (v1 := .int .i64 p.a) (v2 := .int .i64 p.b) (v3 := .slice c p.c.length cap)
  refine ⟨h.1, h.2.1, ?_, fun a ha => ⟨Nat.lt_of_lt_of_le hW (hf a ha).1, by simpa using (hf a ha).2⟩, four_below hb (Nat.le_refl _), h.2.2⟩
  obtain ⟨c', cap', hx, hk, hpa, hpb, hl, hal, hat⟩ := hp
  have e : c = c' := by
    have := congrArg (fun v : Array Value => v[3]?) (Value.agg.inj hx)
    simp only [List.getElem?_toArray, List.getElem?_cons_succ, List.getElem?_cons_zero, Option.some.injEq, Value.slice.injEq, true_and] at this
    exact this.1
  subst e
  refine ⟨c, cap', hx, hk, hpa, hpb, hl, hal, fun j n hj => ?_⟩
  obtain ⟨b, off, rfl, hc⟩ := hat j n hj
  have hne : wr.heap.size ≠ b := by have := (hf _ rfl).1; simp only at this; omega
  exact ⟨b, off, rfl, far4' hne hc⟩
def WordRes (wd : Option (Pick × Int)) (p : Pick) (m : Int) : Prop := match wd with | some q => q = (p, m) ∧ 1 ≤ m ∧ m ≤ 1073741824 | none => m = 0
set_option maxRecDepth 20000 in
set_option maxHeartbeats 3200000 in
theorem parse_any (s : ByteArray) (w : World) (hg : Good w) (hs : s.size ≤ 1000000) : Calls Tryd.prog 19 #[.string s] w (GivesP (parseW (wordsOf s)) w) := by
  have HG := Lib.hid hg
  clear hg
  obtain ⟨i0, hi, hz0, hz1, hz2⟩ := info_parts info25
  have HINFO := Lib.hid (And.intro hi (And.intro hz0 (And.intro hz1 hz2)))
  clear hi hz0 hz1 hz2
  go_enter Tryd.func19, Tryd.ntmps19
  go_wp2_with fail
  refine (Tryd.strings_FieldsFunc 26 #[] (enters_of Tryd.func26 (by kernel_rfl) rfl) wsB s _ (by omega) (pred_at _)).mono ?_
  rintro e w1 ⟨A, rfl, hA, hrow, hb⟩
  obtain ⟨fs, hfs⟩ : ∃ fs, Lib.goFieldsP wsB s = fs := ⟨_, rfl⟩
  have hws : wordsOf s = fs.map fun x => x.data.toList := by unfold wordsOf; rw [hfs]
  have hfl : fs.length ≤ s.size + 1 := by rw [← hfs]; exact fields_len _ _
  have hfz : ∀ x ∈ fs, x.size ≤ s.size := by rw [← hfs]; exact fields_size _ _
  rw [hfs] at hrow ⊢
  have hAl : A < w1.heap.size := (hrow.lt A rfl).2
  have hcell : ∀ i x, fs[i]? = some x → w1.cell? ⟨A, i, none⟩ = some (.string x) := fun i x hx => by
    have := hrow.cells (g := A) rfl i (.string x) (by simp [hx])
    have hadd : (⟨A, 0, none⟩ : Addr).add i = ⟨A, i, none⟩ := by unfold Addr.add; split <;> simp_all
    rw [hadd] at this
    exact this
  have HF := Lib.hid (And.intro hcell (And.intro hfz hws))
  have HB1 := Lib.hid hb
  have hn : fs.length ≤ 1000001 := by omega
  obtain ⟨n, hnn⟩ : ∃ n, fs.length = n := ⟨_, rfl⟩
  rw [hnn] at hn ⊢
  have HN := Lib.hid hnn
  clear hfs hws hfl hfz hrow hcell hb hA hnn
  go_wp2_with fail
  go_loopw [4, 5, 17] (fun v t i wr => ∃ (j : Nat) (t' : Int), j ≤ n ∧ i = .int .i64 j ∧ t = .int .i64 t' ∧ ParseAt w1 (wordsOf s) v j t' wr) (fun _ _ i _ => n - (intOf i).toNat)
  case atStart => exact ⟨0, 0, Nat.zero_le _, rfl, rfl, [], [], by simp, by simp, by simp, by simp, World.ownsRow_nil _ _ _ _, RowOf.nil _, Av.nil _ _, Below.refl _ _⟩
  case round =>
    obtain ⟨j, t, hj, rfl, rfl, acc, xs, hgo, hal, hat, htj, hrow, hrd, hav, hbw⟩ := hrel
    have HA := Lib.hid (And.intro hgo (And.intro hrow (And.intro hrd hav)))
    have HB := Lib.hid hbw
    clear hgo hrow hrd hav hbw
    by_cases hlt : j < n
    · obtain ⟨x, hx⟩ := get_of_lt (of := fs) (j := j) (by rw [HN.out]; exact hlt)
      have c9 := cell_on (HF.out.1 j x hx) HB.out
      have hxs : x.size < 4294967281 := Nat.lt_of_le_of_lt (HF.out.2.1 x (mem_of_get hx)) (by omega)
      have HX := Lib.hid (And.intro hx hxs)
      clear hx hxs
      obtain ⟨wd, hwd⟩ : ∃ wd, wordS x.data.toList = wd := ⟨_, rfl⟩
      go_upto_block 2 with (fail)
      obtain ⟨W2, hW2⟩ : ∃ W2, W2 = ((wr.alloc (.cells #[.int .i64 0, .int .i64 0, .int .i64 0, .slice none 0 0] 25)).alloc (.cells #[.func (.func 27) #[.string x] #[], .func (.func 28) #[.string x] #[], .func (.func 29) #[.string x] #[]] 51)) := ⟨_, rfl⟩
      have hq : Box4 W2 wr.heap.size (.int .i64 0) (.int .i64 0) (.int .i64 0) (.slice none 0 0) ∧ (W2.cell? ⟨wr.heap.size + 1, 0, none⟩ = some (.func (.func 27) #[.string x] #[]) ∧ W2.cell? ⟨wr.heap.size + 1, 1, none⟩ = some (.func (.func 28) #[.string x] #[]) ∧ W2.cell? ⟨wr.heap.size + 1, 2, none⟩ = some (.func (.func 29) #[.string x] #[])) ∧ Below wr.heap.size wr W2 := by
        rw [hW2]; exact ⟨⟨⟨by simp, by simp, by simp, by simp⟩, fun j => by simp, by simp; omega⟩, ⟨by simp, by simp, by simp⟩, alloc_below (below_alloc _ _)⟩
      have HQ := Lib.hid hq
      have HWD := Lib.hid hwd
      rw [← hW2]
      clear hW2 hq hwd
      go_cut [9] (fun s9 wx => ∃ (p : Pick) (c : Option Addr) (cap : Nat) (m : Int), s9 = .int .i64 m ∧ BoxAt wr wx p c cap ∧ WordRes wd p m)
      case first =>
        have hgd := HG.out.below (chain (chain HB1.out HB.out) HQ.out.2.2)
        obtain ⟨r1, hr1⟩ : ∃ r, stepS x.data.toList = r := ⟨_, rfl⟩
        obtain ⟨r2, hr2⟩ : ∃ r, stallS x.data.toList = r := ⟨_, rfl⟩
        obtain ⟨r3, hr3⟩ : ∃ r, crashS x.data.toList = r := ⟨_, rfl⟩
        have h1 := Lib.hid hr1
        have h2 := Lib.hid hr2
        have h3 := Lib.hid hr3
        have HGD0 := Lib.hid hgd
        have HQ0 := Lib.hid HQ.out.1
        have HC0 := Lib.hid HQ.out.2.1
        have HD0 := Lib.hid HQ.out.2.2
        clear hr1 hr2 hr3 hgd HQ
        go_wp2_with fail
        refine wp_loop_rounds 4 ?_
        have f0 := HC0.out.1
        rw [rounds_succ]
        go_wp2_with fail
        refine (step_is HGD0.out HX.out.2 h1).mono ?_
        rintro e wa1 ⟨p1, c1, cap1, m1, rfl, hp, hb, hf, hres⟩
        have HQ1' := Lib.hid (HQ0.out.below hb)
        have HE1 := Lib.hid (And.intro hp (And.intro (chain HD0.out hb) (And.intro hf HQ0.out.2.2)))
        have HC1' := Lib.hid (And.intro (cell_on HC0.out.1 hb) (And.intro (cell_on HC0.out.2.1 hb) (cell_on HC0.out.2.2 hb)))
        obtain ⟨⟨z0, z1, z2, z3⟩, hfr, hz⟩ := HQ1'.out
        have y0 := hfr 0
        have y1 := hfr 1
        have y2 := hfr 2
        have y3 := hfr 3
        clear hp hb hf f0 hfr
        cases r1 with
        | some q =>
          obtain ⟨rfl, hm1, hm2⟩ := hres
          go_wp2_with fail
          go_meet
          exact ⟨p1, c1, cap1, m1, rfl, boxat HQ1'.out HE1.out.1 HE1.out.2.1 HE1.out.2.2.1 HE1.out.2.2.2, by rw [← HWD.out, wordS, h1.out]; exact ⟨rfl, hm1, hm2⟩⟩
        | none =>
          obtain rfl : m1 = 0 := hres
          go_wp2_with fail
          have HQ1 := Lib.hid (HQ1'.out.set (v0 := .int .i64 p1.k) (v1 := .int .i64 p1.a) (v2 := .int .i64 p1.b) (v3 := .slice c1 p1.c.length cap1))
          have HD1 := Lib.hid (four_below HE1.out.2.1 (Nat.le_refl _) (v0 := .int .i64 p1.k) (v1 := .int .i64 p1.a) (v2 := .int .i64 p1.b) (v3 := .slice c1 p1.c.length cap1))
          have HC1 := Lib.hid (And.intro (far4 (v0 := .int .i64 p1.k) (v1 := .int .i64 p1.a) (v2 := .int .i64 p1.b) (v3 := .slice c1 p1.c.length cap1) HC1'.out.1) (And.intro (far4 (v0 := .int .i64 p1.k) (v1 := .int .i64 p1.a) (v2 := .int .i64 p1.b) (v3 := .slice c1 p1.c.length cap1) HC1'.out.2.1) (far4 (v0 := .int .i64 p1.k) (v1 := .int .i64 p1.a) (v2 := .int .i64 p1.b) (v3 := .slice c1 p1.c.length cap1) HC1'.out.2.2)))
          have HGD1 := Lib.hid (HG.out.below (chain (chain HB1.out HB.out) HD1.out))
          obtain ⟨V1, hV1⟩ : ∃ V, V = ((((wa1.setCell ⟨wr.heap.size, 0, none⟩ (.int .i64 p1.k)).setCell ⟨wr.heap.size, 1, none⟩ (.int .i64 p1.a)).setCell ⟨wr.heap.size, 2, none⟩ (.int .i64 p1.b)).setCell ⟨wr.heap.size, 3, none⟩ (.slice c1 p1.c.length cap1)) := ⟨_, rfl⟩
          rw [← hV1] at HQ1 HD1 HC1 HGD1 ⊢
          clear hV1 z0 z1 z2 z3 hz y0 y1 y2 y3 HQ1' HC1'
          have f0 := HC1.out.2.1
          rw [rounds_succ]
          go_wp2_with fail
          refine (stall_is HGD1.out HX.out.2 h2).mono ?_
          rintro e wa2 ⟨p2, c2, cap2, m2, rfl, hp, hb, hf, hres⟩
          have HQ2' := Lib.hid (HQ1.out.below hb)
          have HE2 := Lib.hid (And.intro hp (And.intro (chain HD1.out hb) (And.intro hf HQ1.out.2.2)))
          have HC2' := Lib.hid (And.intro (cell_on HC1.out.1 hb) (And.intro (cell_on HC1.out.2.1 hb) (cell_on HC1.out.2.2 hb)))
          obtain ⟨⟨z0, z1, z2, z3⟩, hfr, hz⟩ := HQ2'.out
          have y0 := hfr 0
          have y1 := hfr 1
          have y2 := hfr 2
          have y3 := hfr 3
          clear hp hb hf f0 hfr
          cases r2 with
          | some q =>
            obtain ⟨rfl, hm1, hm2⟩ := hres
            go_wp2_with fail
            go_meet
            exact ⟨p2, c2, cap2, m2, rfl, boxat HQ2'.out HE2.out.1 HE2.out.2.1 HE2.out.2.2.1 HE2.out.2.2.2, by rw [← HWD.out, wordS, h1.out, h2.out]; exact ⟨rfl, hm1, hm2⟩⟩
          | none =>
            obtain rfl : m2 = 0 := hres
            go_wp2_with fail
            have HQ2 := Lib.hid (HQ2'.out.set (v0 := .int .i64 p2.k) (v1 := .int .i64 p2.a) (v2 := .int .i64 p2.b) (v3 := .slice c2 p2.c.length cap2))
            have HD2 := Lib.hid (four_below HE2.out.2.1 (Nat.le_refl _) (v0 := .int .i64 p2.k) (v1 := .int .i64 p2.a) (v2 := .int .i64 p2.b) (v3 := .slice c2 p2.c.length cap2))
            have HC2 := Lib.hid (And.intro (far4 (v0 := .int .i64 p2.k) (v1 := .int .i64 p2.a) (v2 := .int .i64 p2.b) (v3 := .slice c2 p2.c.length cap2) HC2'.out.1) (And.intro (far4 (v0 := .int .i64 p2.k) (v1 := .int .i64 p2.a) (v2 := .int .i64 p2.b) (v3 := .slice c2 p2.c.length cap2) HC2'.out.2.1) (far4 (v0 := .int .i64 p2.k) (v1 := .int .i64 p2.a) (v2 := .int .i64 p2.b) (v3 := .slice c2 p2.c.length cap2) HC2'.out.2.2)))
            have HGD2 := Lib.hid (HG.out.below (chain (chain HB1.out HB.out) HD2.out))
            obtain ⟨V2, hV2⟩ : ∃ V, V = ((((wa2.setCell ⟨wr.heap.size, 0, none⟩ (.int .i64 p2.k)).setCell ⟨wr.heap.size, 1, none⟩ (.int .i64 p2.a)).setCell ⟨wr.heap.size, 2, none⟩ (.int .i64 p2.b)).setCell ⟨wr.heap.size, 3, none⟩ (.slice c2 p2.c.length cap2)) := ⟨_, rfl⟩
            rw [← hV2] at HQ2 HD2 HC2 HGD2 ⊢
            clear hV2 z0 z1 z2 z3 hz y0 y1 y2 y3 HQ2' HC2'
            have f0 := HC2.out.2.2
            rw [rounds_succ]
            go_wp2_with fail
            refine (crash_is HGD2.out HX.out.2 h3).mono ?_
            rintro e wa3 ⟨p3, c3, cap3, m3, rfl, hp, hb, hf, hres⟩
            have HQ3' := Lib.hid (HQ2.out.below hb)
            have HE3 := Lib.hid (And.intro hp (And.intro (chain HD2.out hb) (And.intro hf HQ2.out.2.2)))
            have HC3' := Lib.hid (And.intro (cell_on HC2.out.1 hb) (And.intro (cell_on HC2.out.2.1 hb) (cell_on HC2.out.2.2 hb)))
            obtain ⟨⟨z0, z1, z2, z3⟩, hfr, hz⟩ := HQ3'.out
            have y0 := hfr 0
            have y1 := hfr 1
            have y2 := hfr 2
            have y3 := hfr 3
            clear hp hb hf f0 hfr
            cases r3 with
            | some q =>
              obtain ⟨rfl, hm1, hm2⟩ := hres
              go_wp2_with fail
              go_meet
              exact ⟨p3, c3, cap3, m3, rfl, boxat HQ3'.out HE3.out.1 HE3.out.2.1 HE3.out.2.2.1 HE3.out.2.2.2, by rw [← HWD.out, wordS, h1.out, h2.out, h3.out]; exact ⟨rfl, hm1, hm2⟩⟩
            | none =>
              obtain rfl : m3 = 0 := hres
              go_wp2_with fail
              rw [rounds_succ]
              go_wp2_with fail
              go_meet
              exact ⟨p3, c3, cap3, 0, rfl, boxat HQ3'.out HE3.out.1 HE3.out.2.1 HE3.out.2.2.1 HE3.out.2.2.2, by rw [← HWD.out, wordS, h1.out, h2.out, h3.out]; rfl⟩
      case rest =>
        obtain ⟨p, c, ccap, m, rfl, hbox, hres⟩ := hcut
        obtain ⟨Wc, hWc⟩ : ∃ Wc, Wc = wc := ⟨_, rfl⟩
        rw [← hWc] at hbox ⊢
        clear hWc HQ
        have hdrop : (wordsOf s).drop j = x.data.toList :: (wordsOf s).drop (j + 1) := by
          rw [HF.out.2.2]
          exact drop_of_get (by simp [HX.out.1])
        have HDR := Lib.hid hdrop
        have HBX := Lib.hid hbox
        clear hdrop hbox
        cases wd with
        | none =>
          obtain rfl : m = 0 := hres
          go_wp2_with fail
          go_ret2
          exact gives_of (by rw [parseW, HA.out.1, HDR.out, parse_no HWD.out]; rfl) rfl (lat_nil _) (chain (chain HB1.out HB.out) HBX.out.2.2.2.2.1)
        | some q =>
          obtain ⟨rfl, hm1, hm2⟩ := hres
          have h0 : ∀ v, wr.ownsRow w1.heap.size 25 4 v acc.length xs → Av wr v.ownBlock xs → AppAt w1 wr.heap.size p c ccap acc v 0 xs Wc := by
            intro v hv hva
            have hb := HBX.out.2.2.2.2.1
            have hlt : ∀ k, v.ownBlock = some k → k < wr.heap.size := fun k hk => (hv.lt k hk).2
            refine ⟨by simpa using owns_below hv hb, by simpa using HA.out.2.2.1.below hb, hva.below hb.size, HBX.out.1, HBX.out.2.2.1, fun a ha => ⟨fun e => ?_, (HBX.out.2.2.2.1 a ha).2⟩, ⟨fun e => ?_, HBX.out.2.2.2.2.2⟩, chain HB.out hb⟩
            · have h1 := hlt _ e.symm; have h2 := (HBX.out.2.2.2.1 a ha).1; omega
            · have h1 := hlt _ e.symm; omega
          have H0 := Lib.hid (h0 _ HA.out.2.1 HA.out.2.2.2)
          obtain ⟨mn, hmn⟩ : ∃ mn : Nat, m = (mn : Int) := ⟨m.toNat, by omega⟩
          subst hmn
          have hmz : ((mn : Int) == 0) = false := beq_eq_false_iff_ne.2 (by omega)
          clear h0
          by_cases htot : t + (mn : Int) ≤ 10000
          · go_wp2_with fail
            go_loopw [4, 13] (fun v i wx => ∃ (k : Nat) (xs' : List Value), k ≤ mn ∧ i = .int .i64 k ∧ AppAt w1 wr.heap.size p c ccap acc v k xs' wx) (fun _ i _ => mn - (intOf i).toNat)
            case atStart => exact ⟨0, xs, Nat.zero_le _, rfl, H0.out⟩
            case round =>
              obtain ⟨k, ys, hk, rfl, happ⟩ := hrel
              have HAP := Lib.hid happ
              clear happ H0
              by_cases hkm : k < mn
              · obtain ⟨⟨b0, b1, b2, b3⟩, _⟩ := HAP.out.2.2.2
                go_wp2_with (first
                  | (at_builtin; refine wpList_append_lies _ rfl _ _ 22 rfl w1.heap.size 25 i0 _ 4 48 Tryd.underlying22 HINFO.out.1 HINFO.out.2.1 HINFO.out.2.2.1 HINFO.out.2.2.2 rfl (by decide) _ _ ys rfl (HAP.out.1.alloc _) ⟨_, 0, none⟩ 1 1 [.int .i64 p.k, .int .i64 p.a, .int .i64 p.b, .slice c p.c.length ccap] rfl rfl (four_new rfl) (by simp [Value.oneCell']) (by decide) (by unfold maxLen; omega) (by omega) (by have := HAP.out.2.2.2.2.2.2.2.size; simp; omega) _ (World.size_alloc _ _) ?_; intro gg gcap w4 hown4 hgrow4 hat4 hlt4))
                have HST := Lib.hid (app_step HAP.out hgrow4 hown4 hat4)
                clear hown4 hgrow4 hat4 hlt4 b0 b1 b2 b3
                go_wp2_with fail
                go_roundw
                case rel => first | exact ⟨k + 1, _, by omega, by go_num, HST.out⟩ | ((repeat apply Exists.intro); exact ⟨⟨k + 1, _, by omega, by go_num, HST.out⟩, rfl⟩)
                case measure => simp [intOf]; omega
              · have : k = mn := by omega
                subst this
                go_wp2_with fail
                go_roundw
                case rel =>
                  refine ⟨j + 1, t + k, by omega, by go_num, rfl, acc ++ List.replicate k p, ys, ?_, by simp; omega, by simp; omega, by omega, by simpa using HAP.out.1, HAP.out.2.1, HAP.out.2.2.1, HAP.out.2.2.2.2.2.2.2⟩
                  rw [HA.out.1, HDR.out, parse_inv HWD.out, if_pos htot]
                  simp
                case measure => simp [intOf]; omega
          · have htot' : decide (t + (mn : Int) ≤ 10000) = false := decide_eq_false htot
            go_wp2_with fail
            go_loopw [4, 13] (fun v i wx => i = .int .i64 0 ∧ AppAt w1 wr.heap.size p c ccap acc v 0 xs wx) (fun _ _ _ => 0)
            case atStart => exact ⟨rfl, H0.out⟩
            case round =>
              obtain ⟨rfl, happ⟩ := hrel
              have HAP := Lib.hid happ
              clear happ H0
              have hm0 : (0 : Int) < mn := by omega
              go_wp2_with fail
              go_roundw
              case rel =>
                refine ⟨j + 1, t + mn, by omega, by go_num, rfl, acc, xs, ?_, by omega, by omega, by omega, by simpa using HAP.out.1, by simpa using HAP.out.2.1, HAP.out.2.2.1, HAP.out.2.2.2.2.2.2.2⟩
                rw [HA.out.1, HDR.out, parse_inv HWD.out, if_neg (by omega)]
              case measure => simp [intOf]; omega
    · have : j = n := by omega
      subst this
      have hd : (wordsOf s).drop j = [] := List.drop_eq_nil_of_le (by rw [HF.out.2.2, List.length_map, HN.out]; exact Nat.le_refl _)
      have hend : parseW (wordsOf s) = if 10000 < t then ([], 2) else (acc, 0) := by rw [parseW, HA.out.1, hd]; rfl
      have HE := Lib.hid hend
      clear hd hend
      by_cases ht : 10000 < t
      · go_wp2_with fail
        go_ret2
        exact gives_of (by rw [HE.out, if_pos ht]) rfl (lat_nil _) (chain HB1.out HB.out)
      · have ht' : decide (10000 < t) = false := decide_eq_false ht
        go_wp2_with fail
        go_ret2
        exact gives_of (by rw [HE.out, if_neg (by omega)]) rfl (lat_of_owns HA.out.2.1 HA.out.2.2.1) (chain HB1.out HB.out)
end Go.Proofs.YtlhnpaehhfimjaaDoor
