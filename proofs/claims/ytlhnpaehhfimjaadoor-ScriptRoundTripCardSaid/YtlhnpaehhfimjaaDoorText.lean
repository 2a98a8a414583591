/-
  The walk of script.Text.
-/
import Derived.RangeFuncBox
import Derived.RangeFuncWrites
import Derived.Maps.AppendAt
import Derived.Maps.OwnIn
import Derived.Test.YtlhnpaehhfimjaaDoorRuns
namespace Go.Proofs.YtlhnpaehhfimjaaDoor
open Go.RowKit
attribute [local go_sem] Oper.semAt_some
/-- The text of one run. -/
def textOf (x : Pick × Nat) : List UInt8 :=
  if x.1.k = 2 then Lib.itoa x.1.a ++ (126 :: Lib.itoa x.1.b)
  else if x.1.k = 3 then 33 :: Lib.join (x.1.c.map Lib.itoa) [44]
  else if 1 < x.2 then Lib.itoa x.1.a ++ (120 :: Lib.itoa x.2) else Lib.itoa x.1.a
def txt (x : Pick × Nat) : ByteArray := ⟨(textOf x).toArray⟩
def textL (l : List Pick) : List UInt8 := Lib.join ((runsL l).map textOf) [32]
theorem runs_any (a : Option Addr) (n c : Nat) (w : World) : Calls Tryd.prog 32 #[.slice a n c] w fun e w' => e = .returned (.func (.func 42) #[] #[.pointer (some ⟨w.heap.size, 0, none⟩)]) ∧ w.alloc (.cells #[.slice a n c] 22) = w' := by
  go_enter Tryd.func32, Tryd.ntmps32
  go_wp2_with fail
  go_ret
  exact ⟨rfl, rfl⟩
theorem KpR.trans {n Bs : Nat} {A B C : World} (h : KpR n Bs A B) (k : KpR n Bs B C) : KpR n Bs A C := ⟨h.1.trans k.1, k.2.trans h.2⟩
theorem KpR.putObj {w W1 : World} (hsz : W1.heap.size = w.heap.size + 2) (W : World) (l : Nat) (o o' : Obj) (hl : W1.heap.size ≤ l) (ho : W.heap[l]? = some o) (_ : o.isCells = false) (_ : o.isWalk = false) : KpR w.heap.size (w.heap.size + 1) W (W.putObj l o') := by
  have hg := grownBy_putObj' W l o'
  have hlt := (Array.getElem?_eq_some_iff.1 ho).1
  refine ⟨(Below.refl _ W).grown hg (by omega) (fun k hk => by cases hk; omega), ?_⟩
  exact World.putObj_heap_other (by omega)
theorem cells_own {W W' : World} {B Bx : Nat} {cs : Array Value} {t : TypeId} {row : Option Nat} (h : W.heap[Bx]? = some (.cells cs t (0, 0))) (hg : W.grownBy W' row) (hr : ∀ r, row = some r → B ≤ r ∧ ∃ o : Obj, W.heap[r]? = some o ∧ o.isCells = false) : W'.heap[Bx]? = some (.cells cs t (0, 0)) := by
  refine (hg.block Bx (Array.getElem?_eq_some_iff.1 h).1 (fun e => ?_)).trans h
  obtain ⟨_, o, ho, hc⟩ := hr Bx e.symm
  rw [h] at ho; cases ho; cases hc
theorem runs_stops (n : Nat) (hn : 1 ≤ n) (Bs cap : Nat) (a : Option Addr) (l : List Pick) (w W1 : World) (hlen : l.length ≤ 1000000) (hcuts : ∀ p ∈ l, p.c.length ≤ 100) (hat : PicksAt w a l) (hb : Below w.heap.size w W1) (hbs : W1.heap[Bs]? = some (.cells #[.slice a l.length cap] 22 (0, 0))) :
    SeqStopsK Fence.wide n Tryd.prog 42 #[.pointer (some ⟨Bs, 0, none⟩)] (encsR (W0 := w)) (KpR w.heap.size Bs) (fun ys => ys.map RunE.view = runsL l) (fun _ => True) l.length W1 := fun lp J Jx W hW hJ _ hY h0 =>
  callsIn_wide.2 (runs_in n hn lp w.heap.size Bs cap a l w hlen hcuts hat rfl J Jx hY W (fun pre A B h hg => hJ pre A B none h hg (fun r e => by cases e)) (hb.trans (hW.mono hb.size)) ((hW.block Bs (Array.getElem?_eq_some_iff.1 hbs).1).trans hbs) h0)
theorem num_le {n : Int} (h : I64 n) : (num n).size ≤ 21 := by
  have := Lib.itoa_length_le n h.1 h.2
  simpa [num, ByteArray.size] using this
theorem text2 (a b : Int) (c : List Int) (m : Nat) : num a ++ (⟨#[126]⟩ ++ num b) = txt (⟨⟨2, a, b, c⟩, m⟩ : Pick × Nat) := by
  apply ByteArray.ext
  apply Array.ext'
  simp [txt, textOf, num]
theorem owns_on {W W' : World} {base : Nat} {e : TypeId} {size : Nat} {v : Value} {k : Nat} {xs : List Value} (h : W.ownsRow base e size v k xs) (hb : Below W.heap.size W W') : W'.ownsRow base e size v k xs := by
  refine h.kept (row := none) (below_grown hb none) ?_
  cases hv : v.ownBlock with
  | none => exact .inl rfl
  | some j => exact .inr (by simp)
theorem text3 (a b : Int) (c : List Int) (m : Nat) : (⟨#[33]⟩ : ByteArray) ++ ⟨(Lib.join ((c.map num).map (·.data.toList)) [44]).toArray⟩ = txt (⟨⟨3, a, b, c⟩, m⟩ : Pick × Nat) := by
  apply ByteArray.ext
  apply Array.ext'
  have h : (c.map num).map (·.data.toList) = c.map Lib.itoa := by simp [num]
  rw [h]
  simp [txt, textOf]
theorem textM {k : Int} (a b : Int) (c : List Int) {m : Nat} (h2 : ¬ k = 2) (h3 : ¬ k = 3) (hm : 1 < m) : num a ++ (⟨#[120]⟩ ++ num (m : Int)) = txt (⟨⟨k, a, b, c⟩, m⟩ : Pick × Nat) := by
  apply ByteArray.ext
  apply Array.ext'
  simp [txt, textOf, num, h2, h3, hm]
theorem text1 {k : Int} (a b : Int) (c : List Int) {m : Nat} (h2 : ¬ k = 2) (h3 : ¬ k = 3) (hm : ¬ 1 < m) : num a = txt (⟨⟨k, a, b, c⟩, m⟩ : Pick × Nat) := by
  apply ByteArray.ext
  apply Array.ext'
  simp [txt, textOf, num, h2, h3, hm]
theorem lens_le (B : Nat) : ∀ xs : List (List UInt8), (∀ x ∈ xs, x.length ≤ B) → Lib.lens xs ≤ xs.length * B
  | [], _ => by simp [Lib.lens]
  | x :: r, h => by
    have h1 := h x (by simp)
    have h2 := lens_le B r (fun z hz => h z (by simp [hz]))
    simp only [Lib.lens, List.map_cons, List.sum_cons, List.length_cons] at h2 ⊢
    rw [Nat.add_mul]
    omega
theorem join_len (B : Nat) (sep : List UInt8) (xs : List (List UInt8)) (h : ∀ x ∈ xs, x.length ≤ B) : (Lib.join xs sep).length ≤ xs.length * (B + sep.length) := by
  cases xs with
  | nil => simp [Lib.join]
  | cons x r =>
    have h1 := lens_le B (x :: r) h
    rw [Lib.join_length, Nat.mul_add]
    have h2 : sep.length * r.length ≤ (x :: r).length * sep.length := by
      rw [Nat.mul_comm]
      exact Nat.mul_le_mul_right _ (by simp)
    omega
theorem cuts_len (pc : List Int) (h : ∀ n ∈ pc, I64 n) : (Lib.join ((pc.map num).map (·.data.toList)) [44]).length ≤ pc.length * 22 := by
  have := join_len 21 [44] ((pc.map num).map (·.data.toList)) (by
    intro x hx
    simp only [List.mem_map] at hx
    obtain ⟨y, ⟨n, hn, rfl⟩, rfl⟩ := hx
    have := num_le (h n hn)
    exact this)
  simp only [List.length_map, List.length_cons, List.length_nil, Nat.reduceAdd] at this
  exact this
theorem join_own (xs : List ByteArray) (sep : ByteArray) (v : Value) (w : World) (base : Nat) (h : w.ownsRow base 9 1 v xs.length (xs.map Value.string)) (hN : xs.length ≤ 140737488355328)
    (hlen : (Lib.join (xs.map (·.data.toList)) sep.data.toList).length ≤ 140737488355328) :
    Calls Tryd.prog 34 #[v, .string sep] w fun e w' => e = .returned (.string ⟨(Lib.join (xs.map (·.data.toList)) sep.data.toList).toArray⟩) ∧ Below w.heap.size w w' := by
  rcases h.2 with ⟨rfl, h0⟩ | ⟨g, c, cur, rfl, _, hg, hc, _⟩
  · obtain rfl : xs = [] := List.eq_nil_of_length_eq_zero h0
    refine (Tryd.strings_Join_none none 0 sep w).mono ?_
    rintro e w' ⟨rfl, rfl⟩
    exact ⟨rfl, Below.refl _ _⟩
  · refine Tryd.strings_Join g 0 c xs sep w ?_ (Array.getElem?_eq_some_iff.1 hg).1 hN hc hlen
    intro j y hj
    have := h.cells (g := g) rfl j (.string y) (by rw [List.getElem?_map, hj]; rfl)
    by_cases hj0 : j = 0
    · subst hj0; exact this
    · simpa [Addr.add, hj0] using this
theorem row_snoc {W W0 : World} {base : Nat} {v : Value} (pre : List (RunE W0)) (x : RunE W0) (T : ByteArray) (hT : T = txt x.view) (h : W.ownsRow base 9 1 v (pre.length + 1) ((pre.map fun x => txt x.view).map Value.string ++ [.string T])) :
    W.ownsRow base 9 1 v (pre ++ [x]).length (((pre ++ [x]).map fun x => txt x.view).map Value.string) := by
  subst hT; simpa using h
theorem runsF_length : ∀ (f : Nat) (l : List Pick), (runsF f l).length ≤ l.length
  | 0, _ => by simp [runsF]
  | _ + 1, [] => by simp [runsF]
  | f + 1, p :: ps => by
    have := runsF_length f (ps.drop (runTail p ps))
    simp only [runsF, List.length_cons, List.length_drop] at this ⊢
    omega
theorem runsL_length (l : List Pick) : (runsL l).length ≤ l.length := runsF_length _ l
theorem txt_len {w : World} (q : RunE w) : (txt q.view).data.toList.length ≤ 3000 := by
  obtain ⟨⟨⟨⟨k, a, b, c⟩, ad, cap⟩, m⟩, hp, h1, h2, h3⟩ := q
  simp only at hp h1 h2 h3
  have ia : I64 a := by obtain ⟨_, _, e, _, h, _⟩ := hp; cases e; exact h
  have ib : I64 b := by obtain ⟨_, _, e, _, _, h, _⟩ := hp; cases e; exact h
  have ic : ∀ n ∈ c, I64 n := by obtain ⟨_, _, e, _, _, _, _, h, _⟩ := hp; cases e; exact h
  have im : I64 (m : Int) := by unfold I64; omega
  have la := Lib.itoa_length_le a ia.1 ia.2
  have lb := Lib.itoa_length_le b ib.1 ib.2
  have lm := Lib.itoa_length_le m im.1 im.2
  have lc := join_len 21 [44] (c.map Lib.itoa) (by
    intro x hx
    simp only [List.mem_map] at hx
    obtain ⟨n, hn, rfl⟩ := hx
    exact Lib.itoa_length_le n (ic n hn).1 (ic n hn).2)
  simp only [List.length_map, List.length_cons, List.length_nil, Nat.reduceAdd] at lc
  show (textOf (⟨⟨k, a, b, c⟩, m⟩ : Pick × Nat)).length ≤ 3000
  unfold textOf
  split
  · simp only [List.length_append, List.length_cons]; omega
  · split
    · simp only [List.length_cons]; omega
    · split
      · simp only [List.length_append, List.length_cons]; omega
      · show (Lib.itoa a).length ≤ 3000; omega
theorem text_of (l : List Pick) : (⟨(Lib.join (((runsL l).map txt).map (·.data.toList)) (⟨#[32]⟩ : ByteArray).data.toList).toArray⟩ : ByteArray) = ⟨(textL l).toArray⟩ := by
  have h : ((runsL l).map txt).map (·.data.toList) = (runsL l).map textOf := by simp [txt]
  rw [h]; rfl
theorem text_of' (l : List Pick) : (⟨(Lib.join ((runsL l).map ((fun x : ByteArray => x.data.toList) ∘ txt)) [32]).toArray⟩ : ByteArray) = ⟨(textL l).toArray⟩ := by
  rw [← text_of, List.map_map]
theorem info9 : (Tryd.prog.info? 9).map (fun i => (i.zero, i.size, i.bytes)) = some (some (.string ByteArray.empty), 1, 16) := by kernel_rfl
set_option maxRecDepth 100000 in
set_option maxHeartbeats 3200000 in
theorem text_in (n : Nat) (hn : 6 ≤ n) (x : Value) (l : List Pick) (w : World) (hg : Good w) (hl : LAt w x l) (hlen : l.length ≤ 10000) (hcuts : ∀ p ∈ l, p.c.length ≤ 100) :
    CallsIn Fence.wide n Tryd.prog 22 #[x] w fun e w' => e = .returned (.string ⟨(textL l).toArray⟩) ∧ Below w.heap.size w w' := by
  have h1 : 1 ≤ n := by omega
  obtain ⟨a, cap, rfl, hlc, hcb, hat⟩ := hl
  obtain ⟨i0, hi, hz0, hz1, hz2⟩ := info_parts info9
  refine callsIn_of_wp_marks Tryd.func22 rfl trivial ?_ rfl
  simp only [Tryd.ntmps22, List.size_toArray, List.length_cons, List.length_nil, Nat.reduceAdd, Nat.reduceSub, Array.replicate_succ, Array.replicate_zero, List.push_toArray, List.append_toArray, List.nil_append, List.cons_append]
  gi_wp2
  refine ⟨trivial, ?_⟩
  refine (callsIn_wide.2 (runs_any _ _ _ _)).mono ?_
  rintro e w' ⟨rfl, rfl⟩
  gi_wp2
  obtain ⟨W1, hW1⟩ : ∃ W1, W1 = ((w.alloc (.cells #[.slice none 0 0] 47)).alloc (.cells #[.slice a l.length cap] 22)) := ⟨_, rfl⟩
  have bO : Boxed W1 w.heap.size 47 (.slice none 0 0) := by rw [hW1]; exact (Boxed.new w 47 _).alloc _
  have bL : W1.heap[w.heap.size + 1]? = some (.cells #[.slice a l.length cap] 22 (0, 0)) := by
    have := Boxed.new (w.alloc (.cells #[.slice none 0 0] 47)) 22 (.slice a l.length cap)
    rw [World.size_alloc] at this
    rw [hW1]; exact this
  have hB0 : Below w.heap.size w W1 := by rw [hW1]; exact alloc_below (below_alloc _ _)
  have hsz : W1.heap.size = w.heap.size + 2 := by rw [hW1]; simp
  rw [← hW1]
  clear hW1
  refine wpIn_rangeFunc_ownH (F := Fence.wide) rfl h1 (gf := 42) (lb := #[.pointer (some ⟨w.heap.size + 1, 0, none⟩)]) rfl trivial (enters_of Tryd.func42 (by kernel_rfl) rfl)
    (runs_stops (n - 1) (by omega) (w.heap.size + 1) cap a l w W1 (by omega) hcuts hat hB0 bL) (fun h k => KpR.trans h k) (KpR.putObj hsz) (Below.refl _ _) (fun _ => rfl)
    (fun pre W => ((∃ v, Boxed W w.heap.size 47 v ∧ W.ownsRow w.heap.size 9 1 v pre.length ((pre.map fun x => txt x.view).map Value.string) ∧ True) ∧ Boxed W (w.heap.size + 1) 22 (.slice a l.length cap)) ∧ Below w.heap.size w W)
    (fun _ _ _ => False)
    (OwnFrom.and (OwnFrom.and (Own.from (holdsRow_own w.heap.size w.heap.size 47 9 1 (fun pre : List (RunE w) => pre.length) (fun pre : List (RunE w) => (pre.map fun x => txt x.view).map Value.string) (fun _ _ => True)) _) (Own.from (boxed_own _ _ _) _)) (ownFrom_below (Nat.le_refl _) (by omega)))
    (fun _ _ _ _ _ hs _ _ => hs)
    ⟨⟨⟨_, bO, World.ownsRow_nil _ _ _ _, trivial⟩, bL⟩, hB0⟩
    (fun x a' W => ∃ Bx, w.heap.size + 1 < Bx ∧ W.heap[Bx]? = some (.cells #[.int .i64 x.1.1.1.k, .int .i64 x.1.1.1.a, .int .i64 x.1.1.1.b, .slice x.1.1.2.1 x.1.1.1.c.length x.1.1.2.2] 25 (0, 0)) ∧ a' = { tmps := #[.slice a l.length cap, undef, .string ⟨#[]⟩, .pointer (some ⟨w.heap.size, 0, none⟩), .pointer (some ⟨Bx, 0, none⟩), .int .i64 x.1.2, undef, undef, undef, undef, .slice a l.length cap, .func (.func 42) #[] #[.pointer (some ⟨w.heap.size + 1, 0, none⟩)], .agg #[.int .i64 x.1.1.1.k, .int .i64 x.1.1.1.a, .int .i64 x.1.1.1.b, .slice x.1.1.2.1 x.1.1.1.c.length x.1.1.2.2], .int .i64 x.1.2, undef, undef, undef, undef, undef, undef, undef, undef, undef, undef, undef, undef, undef, undef, undef, undef, undef, undef, undef, undef, undef, undef, undef, undef, undef, undef, undef, undef, undef, undef, undef, undef, undef, undef, undef, undef, undef, undef, undef, undef, undef, undef, undef, undef, undef, undef, undef], defers := [] })
    (fun x a' _ X Y row hs hg hr => by obtain ⟨Bx, h1, h2, h3⟩ := hs; exact ⟨Bx, h1, cells_own h2 hg hr, h3⟩)
    ?assign ?body ?done ?stop
  case assign =>
    rintro l pre x W K ⟨⟨⟨v, hv, hrow, _⟩, bL1⟩, hB1⟩ hK
    simp only [encsR]
    gi_wp2
    refine hK _ _ ((KeepsOthers.alloc _ _).from _) ⟨(Below.refl _ W).alloc hB1.size _, heap_alloc_old W _ _ bL1.lt⟩ ⟨⟨⟨v, hv.alloc _, hrow.alloc _, trivial⟩, bL1.alloc _⟩, hB1.alloc hB1.size _⟩ ⟨W.heap.size, bL1.lt, heap_alloc_new W _, rfl⟩
  case body =>
    rintro lp pre x a' W hlp ⟨r, hr⟩ ⟨⟨⟨v, hv, hrow, _⟩, bL1⟩, hB1⟩ ⟨Bx, hBx, bX, rfl⟩ hlt
    obtain ⟨⟨⟨⟨k, pa, pb, pc⟩, c, ccap⟩, many⟩, hx, hm1, hm2, hm3⟩ := x
    simp only at bX hx hm1 hm2 hm3 ⊢
    have x0 : W.cell? ⟨Bx, 0, none⟩ = some (.int .i64 k) := by rw [cell_of_row W Bx 0 _ _ _ bX]; rfl
    have x1 : W.cell? ⟨Bx, 1, none⟩ = some (.int .i64 pa) := by rw [cell_of_row W Bx 1 _ _ _ bX]; rfl
    have x2 : W.cell? ⟨Bx, 2, none⟩ = some (.int .i64 pb) := by rw [cell_of_row W Bx 2 _ _ _ bX]; rfl
    have x3 : W.cell? ⟨Bx, 3, none⟩ = some (.slice c pc.length ccap) := by rw [cell_of_row W Bx 3 _ _ _ bX]; rfl
    have HX := Lib.hid (And.intro x0 (And.intro x1 (And.intro x2 x3)))
    have HV := Lib.hid (And.intro hv (And.intro hrow bL1))
    have HB := Lib.hid hB1
    have HP := Lib.hid hx
    have HGW := Lib.hid (hg.below hB1)
    have hn1 : 1 ≤ n - 1 - 1 := by omega
    obtain ⟨ta, hta⟩ : ∃ t, num pa = t := ⟨_, rfl⟩
    have HTA := Lib.hid hta
    have hI1 : I64 pa := by obtain ⟨_, _, e, _, h, _⟩ := hx; cases e; exact h
    have hI2 : I64 pb := by obtain ⟨_, _, e, _, _, h, _⟩ := hx; cases e; exact h
    obtain ⟨tb, htb⟩ : ∃ t, num pb = t := ⟨_, rfl⟩
    have HTB := Lib.hid htb
    have hsa : ta.size ≤ 21 := by subst hta; exact num_le hI1
    have hsb : tb.size ≤ 21 := by subst htb; exact num_le hI2
    have HCI : Hid (IntsAt W c pc ∧ ∀ n ∈ pc, I64 n) := Lib.hid (by obtain ⟨ac, acap, e, _, _, _, _, hall, hci⟩ := hx; cases e; exact ⟨hci.below hB1, hall⟩)
    clear htb hv hrow bL1 hB1 bX hta
    have HB0 := Lib.hid (Below.refl W.heap.size W)
    -- BODY-START
    gi_wp2
    refine ⟨trivial, ?_⟩
    refine (CallsIn.inRound lp (callsIn_wide.2 (itoa_is hI1 HGW.out HTA.out))).mono ?_
    rintro e w1 ⟨rfl, hb⟩
    have HE := Lib.hid hb
    obtain ⟨y0, y1, y2, y3⟩ := HX.out
    have z0 := cell_on y0 hb
    have z2 := cell_on y2 hb
    have z3 := cell_on y3 hb
    have HG1 := Lib.hid (HGW.out.below hb)
    clear hb y0 y1 y2 y3
    by_cases hk2 : k = 2
    · subst hk2
      gi_wp2
      refine ⟨trivial, ?_⟩
      refine (CallsIn.inRound lp (callsIn_wide.2 (itoa_is hI2 HG1.out HTB.out))).mono ?_
      rintro e w2 ⟨rfl, hb⟩
      replace HE := Lib.hid (chain HE.out hb)
      clear hb
      have hbE := HE.out
      obtain ⟨hv0, hrow0, bL0⟩ := HV.out
      have hv := hv0.kept (below_grown hbE none) (by simp)
      have hrow := owns_on hrow0 hbE
      have bL1 := bL0.kept (below_grown hbE none) (by simp)
      have hB1 := HB.out.trans (hbE.mono HB.out.size)
      clear hv0 hrow0 hbE
      have hc := hv.cell
      gi_wp2_with (gi_at_builtin; refine wpListIn_append_own _ rfl _ _ 47 rfl w.heap.size 9 i0 (.string ByteArray.empty) 1 16 Tryd.underlying47 hi hz0 hz1 hz2 rfl (by decide) _ _ _ rfl (hrow.alloc _) ⟨w2.heap.size, 0, none⟩ 1 1 [.string (ta ++ (⟨#[126]⟩ ++ tb))] rfl rfl (cell_one_new _ _ _) (by simp [Value.oneCell']) (by simp only [maxLen]; omega) (by omega) (by have := hB1.size; simp; omega) ?_; intro v' w1 hown' hgrow _; obtain ⟨g', cap', rfl⟩ := ownsRow_succ hown'; obtain ⟨hv1, hv2, hr2, hk2, hb2⟩ := hv.appended (by decide) hrow hB1.size (Nat.le_refl _) hown' hgrow; have hc1 := hv1.cell; have hf1 := hv1.frozen)
      have bL2 := ((bL1.alloc _).kept hgrow (bL1.not_row (by decide) hrow)).other (B' := w.heap.size) (by omega) (.slice (some ⟨g', 0, none⟩) (pre.length + 1) cap')
      have hT : ta ++ (⟨#[126]⟩ ++ tb) = txt (⟨⟨2, pa, pb, pc⟩, many⟩ : Pick × Nat) := by rw [← HTA.out, ← HTB.out]; exact text2 pa pb pc many
      exact ⟨(KeepsFrom.of_grownBy (below_grown HE.out none) (by simp)).trans (hk2.from _), ⟨(HE.out.mono HB.out.size).trans hb2, bL2.trans bL0.symm⟩, ⟨⟨⟨_, hv2, row_snoc pre _ _ hT hr2, trivial⟩, bL2⟩, hB1.trans hb2⟩⟩
    by_cases hk3 : k = 3
    · subst hk3
      gi_wp2
      gi_loopw [7, 34] (fun v i wr => ∃ j : Nat, j ≤ pc.length ∧ i = .int .i64 j ∧ wr.ownsRow W.heap.size 9 1 v j (((pc.take j).map num).map Value.string) ∧ Below W.heap.size W wr) (fun _ i _ => pc.length - (intOf i).toNat)
      case atStart => exact ⟨0, Nat.zero_le _, rfl, World.ownsRow_nil _ _ _ _, HE.out⟩
      case round =>
        obtain ⟨j, hj, rfl, hown, hbx⟩ := hrel
        have HOW := Lib.hid (And.intro hown hbx)
        clear z0 z2 z3
        by_cases hlt2 : j < pc.length
        · obtain ⟨u, hu⟩ := get_of_lt hlt2
          obtain ⟨cb, coff, rfl, hcu⟩ := (HCI.out.1.below hbx) j u hu
          have hIu : I64 u := HCI.out.2 u (List.mem_of_getElem? hu)
          obtain ⟨tu, htu⟩ : ∃ t, num u = t := ⟨_, rfl⟩
          have HTU := Lib.hid (And.intro hu htu)
          have HGr := Lib.hid (HGW.out.below hbx)
          have hszr := hbx.size
          clear hu htu hown hbx
          gi_wp2
          refine ⟨trivial, ?_⟩
          refine (CallsIn.inRound lp (callsIn_wide.2 (itoa_is hIu HGr.out HTU.out.2))).mono ?_
          rintro e w2 ⟨rfl, hb⟩
          have hrow := owns_on HOW.out.1 hb
          have HB2 := Lib.hid (chain HOW.out.2 hb)
          have hsz2 := HB2.out.size
          clear hb hcu
          gi_wp2_with (gi_at_builtin; refine wpListIn_append_own _ rfl _ _ 47 rfl W.heap.size 9 i0 (.string ByteArray.empty) 1 16 Tryd.underlying47 hi hz0 hz1 hz2 rfl (by decide) _ _ _ rfl (hrow.alloc _) ⟨w2.heap.size, 0, none⟩ 1 1 [.string tu] rfl rfl (cell_one_new _ _ _) (by simp [Value.oneCell']) (by simp only [maxLen]; omega) (by omega) (by simp; omega) ?_; intro v' w3 hown' hgrow _)
          go_roundw
          case rel =>
            refine ⟨j + 1, by omega, by go_num, ?_, (HB2.out.alloc hsz2 _).grown hgrow (by simp; omega) fun k ek => (hrow.lt k ek).1⟩
            rw [List.take_add_one, HTU.out.1]
            simpa [HTU.out.2] using hown'
          case measure => simp [intOf]; omega
        · have hjl : j = pc.length := by omega
          subst hjl
          rw [List.take_length] at hown
          have HJ := Lib.hid (join_own (pc.map num) ⟨#[44]⟩ _ wr W.heap.size (by simpa using hown) (by simp; omega) (by exact Nat.le_trans (cuts_len pc HCI.out.2) (by omega)))
          obtain ⟨tj, htj⟩ : ∃ t, (⟨(Lib.join ((pc.map num).map (·.data.toList)) [44]).toArray⟩ : ByteArray) = t := ⟨_, rfl⟩
          have hsj : tj.size ≤ 4000 := by
            have := cuts_len pc HCI.out.2
            rw [← htj]; simp only [ByteArray.size, List.size_toArray]; omega
          have HTJ := Lib.hid htj
          clear hown hbx htj
          gi_wp2
          refine ⟨trivial, ?_⟩
          refine (CallsIn.inRound lp (callsIn_wide.2 HJ.out)).mono ?_
          rintro e w2 ⟨rfl, hb⟩
          replace HE := Lib.hid (chain HOW.out.2 hb)
          have htj2 := HTJ.out
          rw [htj2]
          clear hb htj2
          have hbE := HE.out
          obtain ⟨hv0, hrow0, bL0⟩ := HV.out
          have hv := hv0.kept (below_grown hbE none) (by simp)
          have hrow := owns_on hrow0 hbE
          have bL1 := bL0.kept (below_grown hbE none) (by simp)
          have hB1 := HB.out.trans (hbE.mono HB.out.size)
          clear hv0 hrow0 hbE
          have hc := hv.cell
          gi_wp2_with (gi_at_builtin; refine wpListIn_append_own _ rfl _ _ 47 rfl w.heap.size 9 i0 (.string ByteArray.empty) 1 16 Tryd.underlying47 hi hz0 hz1 hz2 rfl (by decide) _ _ _ rfl (hrow.alloc _) ⟨w2.heap.size, 0, none⟩ 1 1 [.string (⟨#[33]⟩ ++ tj)] rfl rfl (cell_one_new _ _ _) (by simp [Value.oneCell']) (by simp only [maxLen]; omega) (by omega) (by have := hB1.size; simp; omega) ?_; intro v' w1 hown' hgrow _; obtain ⟨g', cap', rfl⟩ := ownsRow_succ hown'; obtain ⟨hv1, hv2, hr2, hk2, hb2⟩ := hv.appended (by decide) hrow hB1.size (Nat.le_refl _) hown' hgrow; have hc1 := hv1.cell; have hf1 := hv1.frozen)
          have bL2 := ((bL1.alloc _).kept hgrow (bL1.not_row (by decide) hrow)).other (B' := w.heap.size) (by omega) (.slice (some ⟨g', 0, none⟩) (pre.length + 1) cap')
          have hT : ⟨#[33]⟩ ++ tj = txt (⟨⟨3, pa, pb, pc⟩, many⟩ : Pick × Nat) := by rw [← HTJ.out]; exact text3 pa pb pc many
          exact ⟨(KeepsFrom.of_grownBy (below_grown HE.out none) (by simp)).trans (hk2.from _), ⟨(HE.out.mono HB.out.size).trans hb2, bL2.trans bL0.symm⟩, ⟨⟨⟨_, hv2, row_snoc pre _ _ hT hr2, trivial⟩, bL2⟩, hB1.trans hb2⟩⟩
    have hk2' : (k == 2) = false := by simpa using hk2
    have hk3' : (k == 3) = false := by simpa using hk3
    have HK := Lib.hid (And.intro hk2 hk3)
    clear hk2 hk3
    by_cases hm : 1 < many
    · have HM := Lib.hid hm
      have hm' : decide (1 < (many : Int)) = true := by simp; omega
      obtain ⟨tm, htm⟩ : ∃ t, num (many : Int) = t := ⟨_, rfl⟩
      have hIm : I64 (many : Int) := by unfold I64; omega
      have hsm : tm.size ≤ 21 := by subst htm; exact num_le hIm
      have HTM := Lib.hid htm
      clear htm hm
      gi_wp2
      refine ⟨trivial, ?_⟩
      refine (CallsIn.inRound lp (callsIn_wide.2 (itoa_is hIm HG1.out HTM.out))).mono ?_
      rintro e w2 ⟨rfl, hb⟩
      replace HE := Lib.hid (chain HE.out hb)
      clear hb
      have hbE := HE.out
      obtain ⟨hv0, hrow0, bL0⟩ := HV.out
      have hv := hv0.kept (below_grown hbE none) (by simp)
      have hrow := owns_on hrow0 hbE
      have bL1 := bL0.kept (below_grown hbE none) (by simp)
      have hB1 := HB.out.trans (hbE.mono HB.out.size)
      clear hv0 hrow0 hbE
      have hc := hv.cell
      gi_wp2_with (gi_at_builtin; refine wpListIn_append_own _ rfl _ _ 47 rfl w.heap.size 9 i0 (.string ByteArray.empty) 1 16 Tryd.underlying47 hi hz0 hz1 hz2 rfl (by decide) _ _ _ rfl (hrow.alloc _) ⟨w2.heap.size, 0, none⟩ 1 1 [.string (ta ++ (⟨#[120]⟩ ++ tm))] rfl rfl (cell_one_new _ _ _) (by simp [Value.oneCell']) (by simp only [maxLen]; omega) (by omega) (by have := hB1.size; simp; omega) ?_; intro v' w1 hown' hgrow _; obtain ⟨g', cap', rfl⟩ := ownsRow_succ hown'; obtain ⟨hv1, hv2, hr2, hk2, hb2⟩ := hv.appended (by decide) hrow hB1.size (Nat.le_refl _) hown' hgrow; have hc1 := hv1.cell; have hf1 := hv1.frozen)
      have bL2 := ((bL1.alloc _).kept hgrow (bL1.not_row (by decide) hrow)).other (B' := w.heap.size) (by omega) (.slice (some ⟨g', 0, none⟩) (pre.length + 1) cap')
      have hT : ta ++ (⟨#[120]⟩ ++ tm) = txt (⟨⟨k, pa, pb, pc⟩, many⟩ : Pick × Nat) := by rw [← HTA.out, ← HTM.out]; exact textM pa pb pc HK.out.1 HK.out.2 HM.out
      exact ⟨(KeepsFrom.of_grownBy (below_grown HE.out none) (by simp)).trans (hk2.from _), ⟨(HE.out.mono HB.out.size).trans hb2, bL2.trans bL0.symm⟩, ⟨⟨⟨_, hv2, row_snoc pre _ _ hT hr2, trivial⟩, bL2⟩, hB1.trans hb2⟩⟩
    · have HM := Lib.hid hm
      have hm' : decide (1 < (many : Int)) = false := by simp; omega
      clear hm
      have hbE := HE.out
      obtain ⟨hv0, hrow0, bL0⟩ := HV.out
      have hv := hv0.kept (below_grown hbE none) (by simp)
      have hrow := owns_on hrow0 hbE
      have bL1 := bL0.kept (below_grown hbE none) (by simp)
      have hB1 := HB.out.trans (hbE.mono HB.out.size)
      clear hv0 hrow0 hbE
      have hc := hv.cell
      gi_wp2_with (gi_at_builtin; refine wpListIn_append_own _ rfl _ _ 47 rfl w.heap.size 9 i0 (.string ByteArray.empty) 1 16 Tryd.underlying47 hi hz0 hz1 hz2 rfl (by decide) _ _ _ rfl (hrow.alloc _) ⟨w1.heap.size, 0, none⟩ 1 1 [.string (ta)] rfl rfl (cell_one_new _ _ _) (by simp [Value.oneCell']) (by simp only [maxLen]; omega) (by omega) (by have := hB1.size; simp; omega) ?_; intro v' w1 hown' hgrow _; obtain ⟨g', cap', rfl⟩ := ownsRow_succ hown'; obtain ⟨hv1, hv2, hr2, hk2, hb2⟩ := hv.appended (by decide) hrow hB1.size (Nat.le_refl _) hown' hgrow; have hc1 := hv1.cell; have hf1 := hv1.frozen)
      have bL2 := ((bL1.alloc _).kept hgrow (bL1.not_row (by decide) hrow)).other (B' := w.heap.size) (by omega) (.slice (some ⟨g', 0, none⟩) (pre.length + 1) cap')
      have hT : ta = txt (⟨⟨k, pa, pb, pc⟩, many⟩ : Pick × Nat) := by rw [← HTA.out]; exact text1 pa pb pc HK.out.1 HK.out.2 HM.out
      exact ⟨(KeepsFrom.of_grownBy (below_grown HE.out none) (by simp)).trans (hk2.from _), ⟨(HE.out.mono HB.out.size).trans hb2, bL2.trans bL0.symm⟩, ⟨⟨⟨_, hv2, row_snoc pre _ _ hT hr2, trivial⟩, bL2⟩, hB1.trans hb2⟩⟩
  case done =>
    rintro D ys W hD hys ⟨⟨⟨v, hv, hrow, _⟩, bL1⟩, hB1⟩ hK
    have hc := hv.cell
    have hrow' : W.ownsRow w.heap.size 9 1 v ((runsL l).map txt).length (((runsL l).map txt).map Value.string) := by
      rw [← hys]; simpa [Function.comp_def] using hrow
    have hn1 := runsL_length l
    have hn2 : (Lib.join (((runsL l).map txt).map (·.data.toList)) [32]).length ≤ (runsL l).length * 3001 := by
      have := join_len 3000 [32] (((runsL l).map txt).map (·.data.toList)) (by
        intro x hx
        rw [← hys] at hx
        simp only [List.mem_map] at hx
        obtain ⟨y, ⟨z, ⟨q, hq, rfl⟩, rfl⟩, rfl⟩ := hx
        exact txt_len q)
      simp only [List.length_map, List.length_cons, List.length_nil, Nat.reduceAdd] at this
      exact this
    have HJ := Lib.hid (join_own ((runsL l).map txt) ⟨#[32]⟩ v W w.heap.size hrow' (by simp only [List.length_map]; omega) (by show (Lib.join (((runsL l).map txt).map (·.data.toList)) [32]).length ≤ _; omega))
    have HK := Lib.hid (And.intro hK hB1)
    clear hys hrow hrow' hn1 hn2 hK hv bL1
    gi_wp2
    refine ⟨trivial, ?_⟩
    refine (callsIn_wide.2 HJ.out).mono ?_
    rintro e w2 ⟨rfl, hb⟩
    gi_wp2
    have hK2 : w2.heap[D]? = some (.deferred (some [])) := (hb.block D (Array.getElem?_eq_some_iff.1 HK.out.1).1).trans HK.out.1
    refine ⟨by simp, .inl ⟨_, _, rfl, run_takeDeferred hK2, ?_⟩⟩
    refine ⟨_, results_tmp rfl _ _ _, by exact congrArg (fun b => Ending.returned (.string b)) (text_of' l), ?_⟩
    exact (HK.out.2.trans (hb.mono HK.out.2.size)).trans (belowK_b (w := w) (Nat.le_refl _) w2 D _ _ (by omega) hK2 rfl rfl)
  case stop =>
    rintro D c pre W _ _ h _
    exact h.elim
theorem text_any (x : Value) (l : List Pick) (w : World) (hg : Good w) (hl : LAt w x l) (hlen : l.length ≤ 10000) (hcuts : ∀ p ∈ l, p.c.length ≤ 100) :
    Calls Tryd.prog 22 #[x] w fun e w' => e = .returned (.string ⟨(textL l).toArray⟩) ∧ Below w.heap.size w w' :=
  callsIn_wide.1 (text_in 6 (Nat.le_refl _) x l w hg hl hlen hcuts)
end Go.Proofs.YtlhnpaehhfimjaaDoor
