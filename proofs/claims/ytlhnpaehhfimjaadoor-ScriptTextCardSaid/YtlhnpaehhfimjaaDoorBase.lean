/-
  Picks and scripts as plain data, and how they lie in memory.
-/
import Derived.Test.YtlhnpaehhfimjaaDoorRows
import Derived.WalkKit
import Derived.WalkSpells
import Derived.WalkLawsBesides
import Derived.Lib.Hide
import Derived.BigQuiet
namespace Go.Proofs.YtlhnpaehhfimjaaDoor
open Go.RowKit

/-- A pick of a script. -/
structure Pick where
  k : Int
  a : Int
  b : Int
  c : List Int

def I64 (n : Int) : Prop := -9223372036854775808 ≤ n ∧ n ≤ 9223372036854775807
def big : Nat := 4611686018427387904
def huge : Nat := 9223372036854775807

/-- The elements of a slice of integers at a. -/
def IntsAt (w : World) (a : Option Addr) (l : List Int) : Prop :=
  ∀ i n, l[i]? = some n → ∃ b off, a = some ⟨b, off, none⟩ ∧ w.cell? ⟨b, off + i, none⟩ = some (.int .i64 n)
/-- The value x is a slice that reads as the list l. -/
def CAt (w : World) (x : Value) (l : List Int) : Prop :=
  ∃ a cap, x = .slice a l.length cap ∧ l.length ≤ big ∧ (∀ n ∈ l, I64 n) ∧ IntsAt w a l
/-- The value x is the pick p. -/
def PAt (w : World) (x : Value) (p : Pick) : Prop :=
  ∃ a cap, x = .agg #[.int .i64 p.k, .int .i64 p.a, .int .i64 p.b, .slice a p.c.length cap] ∧ I64 p.k ∧ I64 p.a ∧ I64 p.b ∧ p.c.length ≤ big ∧ (∀ n ∈ p.c, I64 n) ∧ IntsAt w a p.c
/-- The elements of a slice of picks at a. -/
def PicksAt (w : World) (a : Option Addr) (l : List Pick) : Prop :=
  ∀ i p, l[i]? = some p → ∃ b off x c cap, a = some ⟨b, off, none⟩ ∧ x = .slice c p.c.length cap ∧ w.cell? ⟨b, off + i * 4, none⟩ = some (.int .i64 p.k) ∧ w.cell? ⟨b, off + i * 4 + 1, none⟩ = some (.int .i64 p.a) ∧
    w.cell? ⟨b, off + i * 4 + 2, none⟩ = some (.int .i64 p.b) ∧ w.cell? ⟨b, off + i * 4 + 3, none⟩ = some x ∧ PAt w (.agg #[.int .i64 p.k, .int .i64 p.a, .int .i64 p.b, x]) p
/-- The value x is a slice that reads as the script l. -/
def LAt (w : World) (x : Value) (l : List Pick) : Prop :=
  ∃ a cap, x = .slice a l.length cap ∧ l.length ≤ cap ∧ cap ≤ huge ∧ PicksAt w a l

theorem cell_on {w w' : World} {p : Addr} {v : Value} (h : w.cell? p = some v) (hb : Below w.heap.size w w') : w'.cell? p = some v := (hb.cell (World.block_lt_of_cell? _ _ h)).trans h
theorem IntsAt.below {w w' : World} {a : Option Addr} {l : List Int} (h : IntsAt w a l) (hb : Below w.heap.size w w') : IntsAt w' a l := fun i n hi => by
  obtain ⟨b, off, ha, hc⟩ := h i n hi
  exact ⟨b, off, ha, cell_on hc hb⟩
theorem CAt.below {w w' : World} {x : Value} {l : List Int} (h : CAt w x l) (hb : Below w.heap.size w w') : CAt w' x l := by
  obtain ⟨a, cap, h1, h2, h3, h4⟩ := h
  exact ⟨a, cap, h1, h2, h3, h4.below hb⟩
theorem PAt.below {w w' : World} {x : Value} {p : Pick} (h : PAt w x p) (hb : Below w.heap.size w w') : PAt w' x p := by
  obtain ⟨a, cap, h1, h2, h3, h4, h5, h6, h7⟩ := h
  exact ⟨a, cap, h1, h2, h3, h4, h5, h6, h7.below hb⟩
theorem PicksAt.below {w w' : World} {a : Option Addr} {l : List Pick} (h : PicksAt w a l) (hb : Below w.heap.size w w') : PicksAt w' a l := fun i p hi => by
  obtain ⟨b, off, x, c, cap, ha, hx, h0, h1, h2, h3, hp⟩ := h i p hi
  exact ⟨b, off, x, c, cap, ha, hx, cell_on h0 hb, cell_on h1 hb, cell_on h2 hb, cell_on h3 hb, hp.below hb⟩
theorem LAt.below {w w' : World} {x : Value} {l : List Pick} (h : LAt w x l) (hb : Below w.heap.size w w') : LAt w' x l := by
  obtain ⟨a, cap, h1, h2, h3, h4⟩ := h
  exact ⟨a, cap, h1, h2, h3, h4.below hb⟩
theorem get_of_lt {α : Type} {of : List α} {j : Nat} (h : j < of.length) : ∃ v, of[j]? = some v := ⟨of[j], by simp [h]⟩
theorem lt_of_get {α : Type} {of : List α} {j : Nat} {v : α} (h : of[j]? = some v) : j < of.length := (List.getElem?_eq_some_iff.1 h).1
theorem mem_of_get {α : Type} {of : List α} {j : Nat} {v : α} (h : of[j]? = some v) : v ∈ of := List.mem_of_getElem? h
theorem drop_of_get {α : Type} {of : List α} {j : Nat} {v : α} (h : of[j]? = some v) : of.drop j = v :: of.drop (j + 1) := by
  have hlt := lt_of_get h
  rw [List.drop_eq_getElem_cons hlt, (List.getElem?_eq_some_iff.1 h).2]
theorem take_of_get {α : Type} {of : List α} {j : Nat} {v : α} (h : of[j]? = some v) : of.take (j + 1) = of.take j ++ [v] := by
  have hlt := lt_of_get h
  rw [List.take_succ_eq_append_getElem hlt, (List.getElem?_eq_some_iff.1 h).2]
theorem ret_bool {a b : Bool} (h : a = b) : Ending.returned (.bool a) = .returned (.bool b) := by rw [h]
theorem ret_int {k : IntKind} {a b : Int} (h : a = b) : Ending.returned (.int k a) = .returned (.int k b) := by rw [h]
theorem alloc_on {w : World} {p : Addr} {v : Value} (h : w.cell? p = some v) (o : Obj) : (w.alloc o).cell? p = some v := by rw [World.cell?_alloc_lt _ _ _ (World.block_lt_of_cell? _ _ h), h]
theorem alloc_below {w w' : World} {o : Obj} (h : Below w.heap.size w w') : Below w.heap.size w (w'.alloc o) := h.alloc h.size o
theorem below_alloc (w : World) (o : Obj) : Below w.heap.size w (w.alloc o) := alloc_below (Below.refl _ _)
theorem below_of_alloc' {w w' : World} {o : Obj} (h : Below (w.alloc o).heap.size (w.alloc o) w') : Below w.heap.size w w' := (alloc_below (Below.refl _ _)).trans (h.mono (by simp))
theorem chain_alloc {W w w' : World} {o : Obj} (h : Below W.heap.size W w) (hb : Below (w.alloc o).heap.size (w.alloc o) w') : Below W.heap.size W w' := h.trans ((below_of_alloc' hb).mono h.size)
theorem chain {W w w' : World} (h : Below W.heap.size W w) (hb : Below w.heap.size w w') : Below W.heap.size W w' := h.trans (hb.mono h.size)
theorem wrap_id {x : Int} (h : I64 x) : IntKind.i64.wrap x = x := by
  unfold I64 at h
  rw [IntKind.wrap_i64]
  omega

def withinB (most : Int) (l : List Int) : Bool := l.all fun n => decide (0 ≤ n) && decide (n ≤ most)
def rightB (threads : Int) (p : Pick) : Bool :=
  if p.k = 1 then decide (0 ≤ p.a) && decide (p.a < threads) && decide (p.b = 0) && p.c.isEmpty
  else if p.k = 2 then decide (0 ≤ p.a) && decide (p.a < threads) && (decide (0 ≤ p.b) && decide (p.b ≤ 1048576)) && p.c.isEmpty
  else if p.k = 3 then decide (p.a = 0) && decide (p.b = 0) && decide (p.c.length ≤ 64) && withinB 32 p.c
  else false

set_option maxHeartbeats 800000 in
theorem within_any (most : Int) (x : Value) (l : List Int) (w : World) (h : CAt w x l) :
    Calls Tryd.prog 24 #[.int .i64 most, x] w fun e w' => e = .returned (.bool (withinB most l)) ∧ w = w' := by
  obtain ⟨a, cap, rfl, hl, hall, hat⟩ := h
  unfold big at hl
  have HALL := Lib.hid hall
  clear hall
  go_enter Tryd.func24, Tryd.ntmps24
  go_wp2_with fail
  go_loop [9] (fun i => ∃ j : Nat, j ≤ l.length ∧ i = .int .i64 j ∧ withinB most (l.drop j) = withinB most l) (fun i => l.length - (intOf i).toNat)
  case atStart => exact ⟨0, Nat.zero_le _, rfl, by simp⟩
  case round =>
    obtain ⟨j, hj, rfl, hw⟩ := hrel
    have HW := Lib.hid hw
    clear hw
    by_cases hlt : j < l.length
    · obtain ⟨n, hn⟩ := get_of_lt hlt
      obtain ⟨b, off, rfl, hc⟩ := hat j n hn
      have hi : I64 n := HALL.out n (mem_of_get hn)
      unfold I64 at hi
      have HN := Lib.hid hn
      clear hn
      by_cases h0 : n < 0
      · go_wp2_with fail
        go_ret
        exact ⟨ret_bool (by rw [← HW.out, drop_of_get HN.out]; simp [withinB, show ¬ 0 ≤ n by omega]), rfl⟩
      · have h0' : decide (n < 0) = false := decide_eq_false h0
        by_cases h1 : most < n
        · go_wp2_with fail
          go_ret
          exact ⟨ret_bool (by rw [← HW.out, drop_of_get HN.out]; simp [withinB, show ¬ n ≤ most by omega]), rfl⟩
        · have h1' : decide (most < n) = false := decide_eq_false h1
          go_wp2_with fail
          go_round
          case rel => exact ⟨j + 1, by omega, by go_num, by rw [← HW.out, drop_of_get HN.out]; simp [withinB, show 0 ≤ n by omega, show n ≤ most by omega]⟩
          case measure => simp [intOf]; omega
    · have : j = l.length := by omega
      subst this
      go_wp2_with fail
      go_ret
      exact ⟨ret_bool (by rw [← HW.out]; simp [withinB]), rfl⟩
end Go.Proofs.YtlhnpaehhfimjaaDoor
