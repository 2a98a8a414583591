/-
  The worlds that hold the listed tables; the walks of script.number and word.cut.
-/
import Derived.Test.YtlhnpaehhfimjaaDoorBase
import Derived.Test.YtlhnpaehhfimjaaDoorShelf
import Derived.Lib.ItoaLen
import Derived.ChangeAgain
import Derived.WalkSmall
namespace Go.Proofs.YtlhnpaehhfimjaaDoor
open Go.RowKit
open Go.Sort (grow)
def TabAt (w : World) : Prop := Lib.TabIs Tryd.prog w "internal/strconv.uint64pow10" .u64 Lib.pow10Tab
def ErrAt (w : World) (n : String) : Prop := ∃ tp p, w.var? Tryd.prog n = some #[.iface tp p]
/-- What the rows' lists and the program's own shape give a world. -/
def Good (w : World) : Prop := TabAt w ∧ ErrAt w "strconv.ErrSyntax" ∧ ErrAt w "strconv.ErrRange" ∧ w.ShapedOpen Tryd.prog
theorem var_block {w : World} {n : String} {g : Nat} {cs : Array Value} (hg : Tryd.prog.globalNamed n = some g) (h : w.var? Tryd.prog n = some cs) : g < w.heap.size := by
  unfold World.var? at h
  rw [hg] at h
  simp only [Option.bind_some] at h
  rcases Nat.lt_or_ge g w.heap.size with h' | h'
  · exact h'
  · rw [Array.getElem?_eq_none h'] at h; cases h
theorem var_on {w w' : World} {n : String} {cs : Array Value} (h : w.var? Tryd.prog n = some cs) (hb : Below w.heap.size w w') : w'.var? Tryd.prog n = some cs := by
  cases hg : Tryd.prog.globalNamed n with
  | none => unfold World.var? at h; rw [hg] at h; cases h
  | some g => exact var?_below hb hg (var_block hg h) h
theorem TabAt.below {w w' : World} (h : TabAt w) (hb : Below w.heap.size w w') : TabAt w' := var_on h hb
theorem ErrAt.below {w w' : World} {n : String} (h : ErrAt w n) (hb : Below w.heap.size w w') : ErrAt w' n := by
  obtain ⟨tp, p, h⟩ := h
  exact ⟨tp, p, var_on h hb⟩
theorem Good.below {w w' : World} (h : Good w) (hb : Below w.heap.size w w') : Good w' :=
  ⟨h.1.below hb, h.2.1.below hb, h.2.2.1.below hb, h.2.2.2.keptBut (hb.frame (fun _ => False)) (fun _ h => h.elim)⟩
theorem below_grow (w : World) (k : Nat) (os : Array Obj) : Below w.heap.size w (grow (w.drewN k) os) := by
  have h : (grow (w.drewN k) os).heap = w.heap ++ os := by
    show (w.drewN k).heap ++ os = _
    rw [World.heap_drewN]
  refine ⟨?_, ?_, ?_, ?_, fun i hi => ?_⟩
  · rfl
  · rfl
  · rfl
  · rw [h]; simp
  · rw [h]; exact Array.getElem?_append_left hi
theorem below_drewN' (w : World) (n : Nat) : Below w.heap.size w (w.drewN n) := ⟨rfl, rfl, rfl, Nat.le_refl _, fun _ _ => rfl⟩
theorem below_bytes (w : World) (e : TypeId) (t : ByteArray) : Below w.heap.size w (Lib.bytesWorld w e t) := by
  exact Lib.bytesWorld_below w e t
def num (n : Int) : ByteArray := ⟨(Lib.itoa n).toArray⟩
theorem num_list (n : Int) : (num n).data.toList = Lib.itoa n := by unfold num; simp
theorem itoa_any (n : Int) (w : World) (hn : I64 n) (hg : Good w) :
    Calls Tryd.prog 33 #[.int .i64 n] w fun e w' => e = .returned (.string (num n)) ∧ Below w.heap.size w w' :=
  (Tryd.strconv_Itoa n hn.1 hn.2 w hg.1).mono fun e w' ⟨he, k, os, hw⟩ => ⟨he, by rw [hw]; exact below_grow w k os⟩
theorem itoa_is {n : Int} {t : ByteArray} {w : World} (hn : I64 n) (hg : Good w) (ht : num n = t) : Calls Tryd.prog 33 #[.int .i64 n] w fun e w' => e = .returned (.string t) ∧ Below w.heap.size w w' := by
  subst ht; exact itoa_any n w hn hg
/-- What Atoi hands back, told by a number and whether there is an error. -/
def AtoiEnd (v : Int) (err : Bool) (w : World) (e : Ending) (w' : World) : Prop :=
  (if err then ∃ tp p, e = .returned (.tuple #[.int .i64 v, .iface tp p]) else e = .returned (.tuple #[.int .i64 v, .nilIface])) ∧ Below w.heap.size w w'
theorem atoi_ok_any {s : ByteArray} {v : Int} (hs : s.size ≤ 281474976710656) (h : Lib.atoiAll s.data.toList = .ok v) (w : World) :
    Calls Tryd.prog 48 #[.string s] w fun e w' => e = .returned (.tuple #[.int .i64 v, .nilIface]) ∧ Below w.heap.size w w' :=
  (Tryd.strconv_Atoi_ok s (by omega) v h w).mono fun e w' ⟨he, hw⟩ => ⟨he, by
    rcases hw with rfl | ⟨t, rfl⟩
    · exact Below.refl _ _
    · exact below_bytes _ _ _⟩
def AtoiBad (w : World) (e : Ending) (w' : World) : Prop := ∃ v tp p, e = .returned (.tuple #[.int .i64 v, .iface tp p]) ∧ Below w.heap.size w w'
theorem atoi_bad_any {s : ByteArray} (hs : s.size ≤ 281474976710656) (h : ∀ v, Lib.atoiAll s.data.toList ≠ .ok v) (w : World) (hg : Good w) :
    Calls Tryd.prog 48 #[.string s] w (AtoiBad w) := by
  rcases hc : Lib.atoiAll s.data.toList with v | _ | _
  · exact absurd hc (h v)
  · obtain ⟨tp, p, hv⟩ := hg.2.1
    exact (Tryd.strconv_Atoi_syntax_var s hs hc tp p w hv).mono fun e w' ⟨N, he, _, _, hb⟩ => ⟨_, _, _, he, hb⟩
  · obtain ⟨tp, p, hv⟩ := hg.2.2.1
    exact (Tryd.strconv_Atoi_range_var s hs hc tp p w hv).mono fun e w' ⟨N, he, _, _, hb⟩ => ⟨_, _, _, he, hb⟩
/-- The value of a decimal number, or -1. -/
def numS (l : List UInt8) (most : Int) : Int :=
  match Lib.atoiAll l with
  | .ok n => if l.length ≤ 7 ∧ Lib.itoa n = l ∧ 0 ≤ n ∧ n ≤ most then n else -1
  | _ => -1
theorem numS_bad {l : List UInt8} {most : Int} (h : ∀ v, Lib.atoiAll l ≠ .ok v) : numS l most = -1 := by
  unfold numS
  split
  · rename_i n hn; exact absurd hn (h n)
  · rfl
theorem numS_ok {l : List UInt8} {most n : Int} (h : Lib.atoiAll l = .ok n) : numS l most = if l.length ≤ 7 ∧ Lib.itoa n = l ∧ 0 ≤ n ∧ n ≤ most then n else -1 := by
  unfold numS; rw [h]
theorem atoi_i64 {l : List UInt8} {n : Int} (h : Lib.atoiAll l = .ok n) : I64 n := by
  unfold Lib.atoiAll at h
  unfold I64
  split at h
  · cases h
  · simp only at h
    split at h
    · cases h
    · cases h
    · rename_i u hu
      split at h
      · cases h
      · split at h
        · cases h
        · injection h with h
          split at h <;> omega
theorem num_eq (n : Int) (s : ByteArray) : ((num n).toList == s.toList) = decide (Lib.itoa n = s.data.toList) := by
  rw [ByteArray.toList_eq, ByteArray.toList_eq, num_list]
  rw [Bool.eq_iff_iff, beq_iff_eq, decide_eq_true_eq]

set_option maxHeartbeats 1600000 in
theorem number_any (s : ByteArray) (most : Int) (w : World) (hs : s.size ≤ 281474976710656) (hg : Good w) :
    Calls Tryd.prog 37 #[.string s, .int .i64 most] w fun e w' => e = .returned (.int .i64 (numS s.data.toList most)) ∧ Below w.heap.size w w' := by
  by_cases hbad : ∀ v, Lib.atoiAll s.data.toList ≠ .ok v
  · have HN := Lib.hid (numS_bad (most := most) hbad)
    have HBAD := Lib.hid (And.intro hbad hg)
    clear hbad hg
    go_enter Tryd.func37, Tryd.ntmps37
    go_wp2_with fail
    refine (atoi_bad_any hs HBAD.out.1 _ HBAD.out.2).mono ?_
    rintro e w1 ⟨v, tp, p, rfl, hb⟩
    have HB := Lib.hid hb
    clear hb
    go_wp2_with fail
    go_ret
    exact ⟨ret_int HN.out.symm, HB.out⟩
  · obtain ⟨n, hn⟩ : ∃ n, Lib.atoiAll s.data.toList = .ok n := by
      apply Classical.byContradiction
      intro h
      exact hbad fun v hv => h ⟨v, hv⟩
    have hN := numS_ok (most := most) hn
    have hi := atoi_i64 hn
    have HN := Lib.hid (And.intro hN (And.intro hn (And.intro hi hg)))
    have hlen : s.data.toList.length = s.size := Array.length_toList
    have HL := Lib.hid hlen
    clear hbad hn hN hg hlen
    by_cases h7 : (7 : Int) < s.size
    · go_enter Tryd.func37, Tryd.ntmps37
      go_wp2_with fail
      refine (atoi_ok_any hs HN.out.2.1 _).mono ?_
      rintro e w1 ⟨rfl, hb⟩
      have HB := Lib.hid hb
      clear hb
      go_wp2_with fail
      go_ret
      exact ⟨ret_int (by rw [HN.out.1, if_neg]; intro c; have := c.1; rw [HL.out] at this; omega), HB.out⟩
    · have h7' : decide ((7 : Int) < s.size) = false := decide_eq_false h7
      have heq := num_eq n s
      by_cases hc : Lib.itoa n = s.data.toList
      · rw [decide_eq_true hc] at heq
        have HC := Lib.hid hc
        obtain ⟨t, ht⟩ : ∃ t, num n = t := ⟨_, rfl⟩
        rw [ht] at heq
        have HT := Lib.hid ht
        clear ht hc
        by_cases h0 : n < 0
        · go_enter Tryd.func37, Tryd.ntmps37
          go_wp2_with fail
          refine (atoi_ok_any hs HN.out.2.1 _).mono ?_
          rintro e w1 ⟨rfl, hb⟩
          have HB := Lib.hid hb
          clear hb
          go_wp2_with fail
          refine (itoa_is hi (HN.out.2.2.2.below HB.out) HT.out).mono ?_
          rintro e w2 ⟨rfl, hb⟩
          have HB2 := Lib.hid (chain HB.out hb)
          clear hb
          go_wp2_with fail
          go_ret
          exact ⟨ret_int (by rw [HN.out.1, if_neg]; intro c; omega), HB2.out⟩
        · have h0' : decide (n < 0) = false := decide_eq_false h0
          by_cases hm : most < n
          · go_enter Tryd.func37, Tryd.ntmps37
            go_wp2_with fail
            refine (atoi_ok_any hs HN.out.2.1 _).mono ?_
            rintro e w1 ⟨rfl, hb⟩
            have HB := Lib.hid hb
            clear hb
            go_wp2_with fail
            refine (itoa_is hi (HN.out.2.2.2.below HB.out) HT.out).mono ?_
            rintro e w2 ⟨rfl, hb⟩
            have HB2 := Lib.hid (chain HB.out hb)
            clear hb
            go_wp2_with fail
            go_ret
            exact ⟨ret_int (by rw [HN.out.1, if_neg]; intro c; omega), HB2.out⟩
          · have hm' : decide (most < n) = false := decide_eq_false hm
            go_enter Tryd.func37, Tryd.ntmps37
            go_wp2_with fail
            refine (atoi_ok_any hs HN.out.2.1 _).mono ?_
            rintro e w1 ⟨rfl, hb⟩
            have HB := Lib.hid hb
            clear hb
            go_wp2_with fail
            refine (itoa_is hi (HN.out.2.2.2.below HB.out) HT.out).mono ?_
            rintro e w2 ⟨rfl, hb⟩
            have HB2 := Lib.hid (chain HB.out hb)
            clear hb
            go_wp2_with fail
            go_ret
            exact ⟨ret_int (by rw [HN.out.1, if_pos]; exact ⟨by rw [HL.out]; omega, HC.out, by omega, by omega⟩), HB2.out⟩
      · rw [decide_eq_false hc] at heq
        have HC := Lib.hid hc
        obtain ⟨t, ht⟩ : ∃ t, num n = t := ⟨_, rfl⟩
        rw [ht] at heq
        have HT := Lib.hid ht
        clear ht hc
        go_enter Tryd.func37, Tryd.ntmps37
        go_wp2_with fail
        refine (atoi_ok_any hs HN.out.2.1 _).mono ?_
        rintro e w1 ⟨rfl, hb⟩
        have HB := Lib.hid hb
        clear hb
        go_wp2_with fail
        refine (itoa_is hi (HN.out.2.2.2.below HB.out) HT.out).mono ?_
        rintro e w2 ⟨rfl, hb⟩
        have HB2 := Lib.hid (chain HB.out hb)
        clear hb
        go_wp2_with fail
        go_ret
        exact ⟨ret_int (by rw [HN.out.1, if_neg]; intro c; exact HC.out c.2.1), HB2.out⟩

def cutS (l sep : List UInt8) : List UInt8 × List UInt8 × Bool := Lib.cut l sep
theorem cut_any (s sep : ByteArray) (w : World) (hg : Good w) (hs : s.size < 4294967281) :
    Calls Tryd.prog 36 #[.string s, .string sep] w fun e w' => e = .returned (.tuple #[.string ⟨(Lib.cut s.data.toList sep.data.toList).1.toArray⟩, .string ⟨(Lib.cut s.data.toList sep.data.toList).2.1.toArray⟩, .bool (Lib.cut s.data.toList sep.data.toList).2.2]) ∧ Below w.heap.size w w' := by
  have HG := Lib.hid (And.intro hg hs)
  clear hg hs
  go_enter Tryd.func36, Tryd.ntmps36
  go_wp2_with fail
  refine (Tryd.strings_Cut_shaped s sep _ HG.out.1.2.2.2 HG.out.2).mono ?_
  rintro e w1 ⟨rfl, n, rfl⟩
  go_wp2_with fail
  go_ret3
  exact ⟨rfl, below_drewN' w n⟩
end Go.Proofs.YtlhnpaehhfimjaaDoor
