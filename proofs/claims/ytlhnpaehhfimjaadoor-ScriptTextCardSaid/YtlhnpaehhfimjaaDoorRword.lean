/-
  The walk of hallmootref27.word.
-/
import Derived.Test.YtlhnpaehhfimjaaDoorRcuts
import Derived.Test.YtlhnpaehhfimjaaDoorTrip
namespace Go.Proofs.YtlhnpaehhfimjaaDoor
open Go.RowKit Go.Maps
theorem many_same (l : List UInt8) : numS l 1073741824 = numS l 9999999 := by
  rw [numS_val, numS_val]
  by_cases h : okD l = true ∧ l.length ≤ 7
  · have h9 := val_lt (l := l) (by have := h.1; simp only [okD, Bool.and_eq_true] at this; exact this.1.2) h.2
    rw [if_pos ⟨h.1, h.2, by omega⟩, if_pos ⟨h.1, h.2, by omega⟩]
  · rw [if_neg (fun c => h ⟨c.1, c.2.1⟩), if_neg (fun c => h ⟨c.1, c.2.1⟩)]
theorem step_hit {a b : List UInt8} (h : (120 : UInt8) ∉ a) : stepS (a ++ 120 :: b) = if numS a 3 < 0 ∨ numS b 9999999 < 1 then none else some (⟨1, numS a 3, 0, []⟩, numS b 9999999) := by
  unfold stepS
  simp only
  rw [cut_mid 120 b h]
  simp only [if_true]
  rw [many_same]
theorem step_miss {l : List UInt8} (h : (120 : UInt8) ∉ l) : stepS l = if numS l 3 < 0 then none else some (⟨1, numS l 3, 0, []⟩, 1) := by
  unfold stepS
  simp only
  rw [cut_miss h]
  simp
theorem step_odd {l : List UInt8} {c : UInt8} (hc : c ∈ l) (hd : digB c = false) (h : c ≠ 120) : stepS l = none := by
  rcases byte_or 120 l with h1 | ⟨a, b, rfl, h1⟩
  · rw [step_miss h1, numS_odd c hc hd, if_pos (by decide)]
  · rw [List.mem_append, List.mem_cons] at hc
    rw [step_hit h1]
    rcases hc with hc | hc | hc
    · rw [numS_odd c hc hd, if_pos (.inl (by decide))]
    · exact absurd hc h
    · rw [numS_odd c hc hd, if_pos (.inr (by decide))]
theorem stall_hit {a b : List UInt8} (h : (126 : UInt8) ∉ a) : stallS (a ++ 126 :: b) = if numS a 3 < 0 ∨ numS b 1048576 < 0 then none else some (⟨2, numS a 3, numS b 1048576, []⟩, 1) := by
  unfold stallS
  simp only
  rw [cut_mid 126 b h]
  simp
theorem stall_miss {l : List UInt8} (h : (126 : UInt8) ∉ l) : stallS l = none := by
  unfold stallS
  simp only
  rw [cut_miss h]
  simp
theorem crash_other {l : List UInt8} (h : l.head? ≠ some 33) : crashS l = none := by
  unfold crashS
  simp only
  rcases byte_or 33 l with h1 | ⟨a, b, rfl, h1⟩
  · rw [cut_miss h1]; simp
  · rw [cut_mid 33 b h1]
    have : a ≠ [] := fun e => h (by rw [e]; rfl)
    simp [this]
theorem word_bang (r : List UInt8) : wordS (33 :: r) = if cutsOk r then some (⟨3, 0, 0, cutsV r⟩, 1) else none := by
  have h1 : stepS (33 :: r) = none := step_odd (c := 33) (by simp) (by decide) (by decide)
  have h2 : stallS (33 :: r) = none := by
    rcases byte_or 126 (33 :: r) with h | ⟨a, b, e, h⟩
    · exact stall_miss h
    · rw [e, stall_hit h]
      cases a with
      | nil => rw [List.nil_append] at e; injection e with e _; cases e
      | cons x a =>
        rw [List.cons_append] at e
        injection e with e _
        rw [← e, numS_odd (l := 33 :: a) 33 (by simp) (by decide), if_pos (.inl (by decide))]
  have hc : Lib.cut (33 :: r) [33] = ([], r, true) := cut_mid (a := []) 33 r (by simp)
  unfold wordS
  rw [h1, h2]
  simp only
  unfold crashS
  simp only
  rw [hc]
  simp only
  rw [if_neg (by simp)]
  by_cases hr : r = []
  · subst hr
    rw [if_pos rfl]
    rfl
  · rw [if_neg hr]
    have hv : cutsV r = cutsS r := by unfold cutsV; rw [if_neg hr]
    have ho : rightB 1 ⟨3, 0, 0, cutsS r⟩ = cutsOk r := by
      unfold rightB cutsOk
      rw [hv, Bool.and_comm (withinB 32 (cutsS r))]
      simp
    rw [ho, hv]
theorem word_two {a b : List UInt8} (hh : (a ++ 126 :: b).head? ≠ some 33) (h : (126 : UInt8) ∉ a) : wordS (a ++ 126 :: b) = if numS a 3 < 0 ∨ numS b 1048576 < 0 then none else some (⟨2, numS a 3, numS b 1048576, []⟩, 1) := by
  have h1 : stepS (a ++ 126 :: b) = none := step_odd (c := 126) (by simp) (by decide) (by decide)
  unfold wordS
  rw [h1, stall_hit h, crash_other hh]
  by_cases hc : numS a 3 < 0 ∨ numS b 1048576 < 0
  · rw [if_pos hc]
  · rw [if_neg hc]
theorem word_one {l : List UInt8} (hh : l.head? ≠ some 33) (h : (126 : UInt8) ∉ l) : wordS l = stepS l := by
  unfold wordS
  rw [stall_miss h, crash_other hh]
  cases stepS l <;> rfl
theorem cuts_at {s : ByteArray} {r : List UInt8} {ok : Bool} {w : World} (hs : s.size ≤ 1000000) (hr : s.data.toList = r) (ho : cutsOk r = ok) :
    Calls Tryd.prog 39 #[.string s] w fun e w' => ∃ c n cap, e = .returned (.tuple #[.slice c n cap, .bool ok]) ∧ (ok = true → w'.ownsRow w.heap.size 3 1 (.slice c n cap) (cutsV r).length ((cutsV r).map (Value.int .i64))) ∧ Below w.heap.size w w' := by
  subst hr ho
  refine (cuts_any s w hs).mono ?_
  rintro e w' ⟨v, rfl, h1, ⟨c, n, cap, rfl⟩, hb⟩
  exact ⟨c, n, cap, rfl, h1, hb⟩
set_option maxRecDepth 20000 in
set_option maxHeartbeats 3200000 in
theorem refWord_any (s : ByteArray) (w : World) (hs : s.size ≤ 1000000) (h1 : 1 ≤ s.size) : Calls Tryd.prog 31 #[.string s] w (PickEnd (wordS s.data.toList) w) := by
  obtain ⟨x, hx⟩ := get_of_lt (of := s.data.toList) (j := 0) (by rw [size_eq]; omega)
  have hg := get_at hx (by omega)
  have HX := Lib.hid hx
  clear hx
  by_cases hb : x = 33
  · have d0 : ((x.toNat : Int) == 33) = true := by rw [hb]; rfl
    obtain ⟨R, hR⟩ : ∃ R : ByteArray, s.extract 1 s.size = R := ⟨_, rfl⟩
    have hl : s.data.toList = 33 :: R.data.toList := by
      have e : s.data.toList = [] ++ x :: s.data.toList.drop 1 := by
        rw [List.nil_append, ← drop_of_get HX.out, List.drop_zero]
      have e2 := extract_rest e
      rw [List.length_nil, Nat.zero_add, hR] at e2
      rw [e2, ← hb, ← drop_of_get HX.out, List.drop_zero]
    have hRs : R.size ≤ 1000000 := by have := congrArg List.length hl; rw [size_eq, List.length_cons, size_eq] at this; omega
    obtain ⟨ok, hok⟩ : ∃ ok, cutsOk R.data.toList = ok := ⟨_, rfl⟩
    have HS := Lib.hid (show wordS s.data.toList = if ok then some (⟨3, 0, 0, cutsV R.data.toList⟩, 1) else none by rw [hl, word_bang, hok])
    have HO := Lib.hid hok
    clear hb hl hok
    go_enter Tryd.func31, Tryd.ntmps31
    go_wp2_with fail
    refine (cuts_at hRs rfl HO.out).mono ?_
    rintro e w1 ⟨c, n, cap, rfl, hv, hb⟩
    have HB1 := Lib.hid (below_of_alloc' hb)
    have HZ1 := Lib.hid (box_later hb (by simp))
    have hz1 : w.heap.size < w1.heap.size := by have := hb.size; simp at this; omega
    have HV := Lib.hid hv
    clear hb hv hR
    have z0 := HZ1.out.1 0 _ rfl
    have z1 := HZ1.out.1 1 _ rfl
    have z2 := HZ1.out.1 2 _ rfl
    have z3 := HZ1.out.1 3 _ rfl
    have f0 := HZ1.out.2 0
    have f1 := HZ1.out.2 1
    have f2 := HZ1.out.2 2
    have f3 := HZ1.out.2 3
    simp only [List.getElem_toArray, List.getElem_cons_zero, List.getElem_cons_succ] at z0 z1 z2 z3
    cases ok with
    | false =>
      go_wp2_with fail
      have RD := fun v0 v1 v2 v3 => four_read0 (v0 := v0) (v1 := v1) (v2 := v2) (v3 := v3) z0 z1 z2 z3
      refine bodyPost_ret (v := .tuple #[.agg #[.int .i64 0, .int .i64 0, .int .i64 0, .slice none 0 0], .int .i64 0]) (by simp [results, Tryd.results31, go_sem, RD]) rfl (end_flat (by unfold I64; omega) (by unfold I64; omega) (by unfold I64; omega) (four_below HB1.out (Nat.le_refl _)) ?_)
      rw [HS.out]
      rfl
    | true =>
      obtain ⟨c2, cap2, e2, _, _⟩ := cuts_of_owns (HV.out rfl)
      injection e2 with e3 e4 e5
      subst e4
      have HI := Lib.hid (show (cutsV R.data.toList).length ≤ 64 ∧ ∀ n ∈ cutsV R.data.toList, 0 ≤ n ∧ n ≤ 32 by
        have := HO.out
        simp only [cutsOk, Bool.and_eq_true, decide_eq_true_eq, withinB, List.all_eq_true] at this
        exact ⟨this.2, this.1⟩)
      obtain ⟨cs, hcs⟩ : ∃ cs, cutsV R.data.toList = cs := ⟨_, rfl⟩
      rw [hcs] at HI HV HS ⊢
      clear hcs e3 e5 HO
      go_wp2_with fail
      have RD := fun v0 v1 v2 v3 => four_read0 (v0 := v0) (v1 := v1) (v2 := v2) (v3 := v3) z0 z1 z2 z3
      refine bodyPost_ret (v := .tuple #[.agg #[.int .i64 3, .int .i64 0, .int .i64 0, .slice c cs.length cap], .int .i64 1]) (by simp [results, Tryd.results31, go_sem, RD]) rfl ⟨⟨3, 0, 0, cs⟩, c, cap, 1, rfl, ?_, four_below HB1.out (Nat.le_refl _), ?_, ?_⟩
      · obtain ⟨c2, cap2, e2, hi2, _⟩ := cuts_of_owns (owns_set4 (HV.out trivial) (show w.heap.size < (w.alloc _).heap.size by simp))
        injection e2 with e3 _ e4
        subst e3 e4
        exact pat_cuts hi2 (by have := HI.out.1; unfold big; show cs.length ≤ _; omega) (fun n hn => by have := HI.out.2 n hn; unfold I64; omega)
      · obtain ⟨c2, cap2, e2, _, hf2⟩ := cuts_of_owns (owns_set4 (HV.out trivial) (show w.heap.size < (w.alloc _).heap.size by simp))
        injection e2 with e3 _ e4
        subst e3 e4
        exact fun a h => ⟨by have := (hf2 a h).1; simp at this; omega, (hf2 a h).2⟩
      · rw [HS.out]
        exact ⟨rfl, by omega, by omega⟩
  · have d0 : ((x.toNat : Int) == 33) = false := by
      have h := u8_beq x 33
      rw [decide_eq_false hb] at h
      exact h
    have HH := Lib.hid (show s.data.toList.head? ≠ some 33 by
      rw [List.head?_eq_getElem?, HX.out]
      exact fun e => hb (Option.some.inj e))
    clear hb
    rcases byte_or 126 s.data.toList with hno | ⟨a, b, hsp, hno⟩
    · have HW := Lib.hid (word_one HH.out hno)
      have HK := Lib.hid (index_miss 126 hno)
      clear hno
      rcases byte_or 120 s.data.toList with hno | ⟨a, b, hsp, hno⟩
      · have HK2 := Lib.hid (index_miss 120 hno)
        have HS := Lib.hid (step_miss hno)
        clear hno
        obtain ⟨n, hn⟩ : ∃ n, numS s.data.toList 3 = n := ⟨_, rfl⟩
        have gA := numS_ge s.data.toList 3
        rw [hn] at gA
        obtain ⟨g1, g2, _⟩ := gA
        have g3 := g2 (by decide)
        have HN := Lib.hid hn
        clear hn g2
        go_enter Tryd.func31, Tryd.ntmps31
        go_wp2_with fail
        refine (sign_at hs rfl HK.out).mono ?_
        rintro e w1 ⟨rfl, hw⟩
        have HB1 := Lib.hid (show Below w.heap.size w w1 by rw [← hw]; exact below_alloc _ _)
        have z0 : w1.cell? ⟨w.heap.size, 0, none⟩ = some (.int .i64 0) := by rw [← hw]; simp
        have z1 : w1.cell? ⟨w.heap.size, 1, none⟩ = some (.int .i64 0) := by rw [← hw]; simp
        have z2 : w1.cell? ⟨w.heap.size, 2, none⟩ = some (.int .i64 0) := by rw [← hw]; simp
        have z3 : w1.cell? ⟨w.heap.size, 3, none⟩ = some (.slice none 0 0) := by rw [← hw]; simp
        have f0 : w1.frozen? ⟨w.heap.size, 0, none⟩ = false := by rw [← hw]; simp
        have f1 : w1.frozen? ⟨w.heap.size, 1, none⟩ = false := by rw [← hw]; simp
        have f2 : w1.frozen? ⟨w.heap.size, 2, none⟩ = false := by rw [← hw]; simp
        have f3 : w1.frozen? ⟨w.heap.size, 3, none⟩ = false := by rw [← hw]; simp
        clear hw
        go_wp2_with fail
        refine (sign_at hs rfl HK2.out).mono ?_
        rintro e w2 ⟨rfl, rfl⟩
        go_wp2_with fail
        refine (number_at HN.out).mono ?_
        rintro e w2 ⟨rfl, rfl⟩
        by_cases h0 : n < 0
        · have d1 : decide (n < 0) = true := decide_eq_true h0
          go_wp2_with fail
          have RD := fun v0 v1 v2 v3 => four_read0 (v0 := v0) (v1 := v1) (v2 := v2) (v3 := v3) z0 z1 z2 z3
          refine bodyPost_ret (v := .tuple #[.agg #[.int .i64 0, .int .i64 0, .int .i64 0, .slice none 0 0], .int .i64 0]) (by simp [results, Tryd.results31, go_sem, RD]) rfl (end_flat (by unfold I64; omega) (by unfold I64; omega) (by unfold I64; omega) (four_below HB1.out (Nat.le_refl _)) ?_)
          rw [HW.out, HS.out, HN.out, if_pos h0]
        · have d1 : decide (n < 0) = false := decide_eq_false h0
          go_wp2_with fail
          have RD := fun v0 v1 v2 v3 => four_read0 (v0 := v0) (v1 := v1) (v2 := v2) (v3 := v3) z0 z1 z2 z3
          refine bodyPost_ret (v := .tuple #[.agg #[.int .i64 1, .int .i64 n, .int .i64 0, .slice none 0 0], .int .i64 1]) (by simp [results, Tryd.results31, go_sem, RD]) rfl (end_flat (by unfold I64; omega) (by unfold I64; omega) (by unfold I64; omega) (four_below HB1.out (Nat.le_refl _)) ?_)
          rw [HW.out, HS.out, HN.out, if_neg (by omega)]
          exact ⟨rfl, by omega, by omega⟩
      · have HK2 := Lib.hid (show Lib.index s.data.toList [120] = (a.length : Int) by rw [hsp]; exact index_mid 120 b hno)
        have HS := Lib.hid (show stepS s.data.toList = if numS a 3 < 0 ∨ numS b 9999999 < 1 then none else some (⟨1, numS a 3, 0, []⟩, numS b 9999999) by rw [hsp]; exact step_hit hno)
        obtain ⟨A, xA⟩ : ∃ A : ByteArray, s.extract 0 a.length = A := ⟨_, rfl⟩
        obtain ⟨B, xB⟩ : ∃ B : ByteArray, s.extract (a.length + 1) s.size = B := ⟨_, rfl⟩
        have HAB := Lib.hid (show A.data.toList = a ∧ B.data.toList = b from ⟨by rw [← xA, Lib.extract_from_zero, hsp]; simp, by rw [← xB]; exact extract_rest hsp⟩)
        have hla : a.length + 1 ≤ s.size := by rw [← size_eq, hsp]; simp
        clear hsp hno
        obtain ⟨n, hn⟩ : ∃ n, numS a 3 = n := ⟨_, rfl⟩
        obtain ⟨m, hm⟩ : ∃ m, numS b 9999999 = m := ⟨_, rfl⟩
        have gA := numS_ge a 3
        have gB := numS_ge b 9999999
        rw [hn] at gA
        rw [hm] at gB
        obtain ⟨g1, g2, _⟩ := gA
        obtain ⟨g4, g5, _⟩ := gB
        have g3 := g2 (by decide)
        have g6 := g5 (by decide)
        have HN := Lib.hid (And.intro hn hm)
        clear hn hm g2 g5
        go_enter Tryd.func31, Tryd.ntmps31
        go_wp2_with fail
        refine (sign_at hs rfl HK.out).mono ?_
        rintro e w1 ⟨rfl, hw⟩
        have HB1 := Lib.hid (show Below w.heap.size w w1 by rw [← hw]; exact below_alloc _ _)
        have z0 : w1.cell? ⟨w.heap.size, 0, none⟩ = some (.int .i64 0) := by rw [← hw]; simp
        have z1 : w1.cell? ⟨w.heap.size, 1, none⟩ = some (.int .i64 0) := by rw [← hw]; simp
        have z2 : w1.cell? ⟨w.heap.size, 2, none⟩ = some (.int .i64 0) := by rw [← hw]; simp
        have z3 : w1.cell? ⟨w.heap.size, 3, none⟩ = some (.slice none 0 0) := by rw [← hw]; simp
        have f0 : w1.frozen? ⟨w.heap.size, 0, none⟩ = false := by rw [← hw]; simp
        have f1 : w1.frozen? ⟨w.heap.size, 1, none⟩ = false := by rw [← hw]; simp
        have f2 : w1.frozen? ⟨w.heap.size, 2, none⟩ = false := by rw [← hw]; simp
        have f3 : w1.frozen? ⟨w.heap.size, 3, none⟩ = false := by rw [← hw]; simp
        clear hw
        go_wp2_with fail
        refine (sign_at hs rfl HK2.out).mono ?_
        rintro e w2 ⟨rfl, rfl⟩
        go_wp2_with fail
        refine (number_at (n := m) (by rw [HAB.out.2]; exact HN.out.2)).mono ?_
        rintro e w2 ⟨rfl, rfl⟩
        go_wp2_with fail
        refine (number_at (n := n) (by rw [HAB.out.1]; exact HN.out.1)).mono ?_
        rintro e w2 ⟨rfl, rfl⟩
        by_cases h0 : n < 0
        · have d1 : decide (n < 0) = true := decide_eq_true h0
          go_wp2_with fail
          have RD := fun v0 v1 v2 v3 => four_read0 (v0 := v0) (v1 := v1) (v2 := v2) (v3 := v3) z0 z1 z2 z3
          refine bodyPost_ret (v := .tuple #[.agg #[.int .i64 0, .int .i64 0, .int .i64 0, .slice none 0 0], .int .i64 0]) (by simp [results, Tryd.results31, go_sem, RD]) rfl (end_flat (by unfold I64; omega) (by unfold I64; omega) (by unfold I64; omega) (four_below HB1.out (Nat.le_refl _)) ?_)
          rw [HW.out, HS.out, HN.out.1, HN.out.2, if_pos (.inl h0)]
        · have d1 : decide (n < 0) = false := decide_eq_false h0
          by_cases h2 : m < 1
          · have d2 : decide (m < 1) = true := decide_eq_true h2
            go_wp2_with fail
            have RD := fun v0 v1 v2 v3 => four_read0 (v0 := v0) (v1 := v1) (v2 := v2) (v3 := v3) z0 z1 z2 z3
            refine bodyPost_ret (v := .tuple #[.agg #[.int .i64 0, .int .i64 0, .int .i64 0, .slice none 0 0], .int .i64 0]) (by simp [results, Tryd.results31, go_sem, RD]) rfl (end_flat (by unfold I64; omega) (by unfold I64; omega) (by unfold I64; omega) (four_below HB1.out (Nat.le_refl _)) ?_)
            rw [HW.out, HS.out, HN.out.1, HN.out.2, if_pos (.inr h2)]
          · have d2 : decide (m < 1) = false := decide_eq_false h2
            go_wp2_with fail
            have RD := fun v0 v1 v2 v3 => four_read0 (v0 := v0) (v1 := v1) (v2 := v2) (v3 := v3) z0 z1 z2 z3
            refine bodyPost_ret (v := .tuple #[.agg #[.int .i64 1, .int .i64 n, .int .i64 0, .slice none 0 0], .int .i64 m]) (by simp [results, Tryd.results31, go_sem, RD]) rfl (end_flat (by unfold I64; omega) (by unfold I64; omega) (by unfold I64; omega) (four_below HB1.out (Nat.le_refl _)) ?_)
            rw [HW.out, HS.out, HN.out.1, HN.out.2, if_neg (by omega)]
            exact ⟨rfl, by omega, by omega⟩
    · have HK := Lib.hid (show Lib.index s.data.toList [126] = (a.length : Int) by rw [hsp]; exact index_mid 126 b hno)
      have HS := Lib.hid (show wordS s.data.toList = if numS a 3 < 0 ∨ numS b 1048576 < 0 then none else some (⟨2, numS a 3, numS b 1048576, []⟩, 1) by
        have := HH.out
        rw [hsp] at this ⊢
        exact word_two this hno)
      obtain ⟨A, xA⟩ : ∃ A : ByteArray, s.extract 0 a.length = A := ⟨_, rfl⟩
      obtain ⟨B, xB⟩ : ∃ B : ByteArray, s.extract (a.length + 1) s.size = B := ⟨_, rfl⟩
      have HAB := Lib.hid (show A.data.toList = a ∧ B.data.toList = b from ⟨by rw [← xA, Lib.extract_from_zero, hsp]; simp, by rw [← xB]; exact extract_rest hsp⟩)
      have hla : a.length + 1 ≤ s.size := by rw [← size_eq, hsp]; simp
      clear hsp hno
      obtain ⟨n, hn⟩ : ∃ n, numS a 3 = n := ⟨_, rfl⟩
      obtain ⟨m, hm⟩ : ∃ m, numS b 1048576 = m := ⟨_, rfl⟩
      have gA := numS_ge a 3
      have gB := numS_ge b 1048576
      rw [hn] at gA
      rw [hm] at gB
      obtain ⟨g1, g2, _⟩ := gA
      obtain ⟨g4, g5, _⟩ := gB
      have g3 := g2 (by decide)
      have g6 := g5 (by decide)
      have HN := Lib.hid (And.intro hn hm)
      clear hn hm g2 g5
      go_enter Tryd.func31, Tryd.ntmps31
      go_wp2_with fail
      refine (sign_at hs rfl HK.out).mono ?_
      rintro e w1 ⟨rfl, hw⟩
      have HB1 := Lib.hid (show Below w.heap.size w w1 by rw [← hw]; exact below_alloc _ _)
      have z0 : w1.cell? ⟨w.heap.size, 0, none⟩ = some (.int .i64 0) := by rw [← hw]; simp
      have z1 : w1.cell? ⟨w.heap.size, 1, none⟩ = some (.int .i64 0) := by rw [← hw]; simp
      have z2 : w1.cell? ⟨w.heap.size, 2, none⟩ = some (.int .i64 0) := by rw [← hw]; simp
      have z3 : w1.cell? ⟨w.heap.size, 3, none⟩ = some (.slice none 0 0) := by rw [← hw]; simp
      have f0 : w1.frozen? ⟨w.heap.size, 0, none⟩ = false := by rw [← hw]; simp
      have f1 : w1.frozen? ⟨w.heap.size, 1, none⟩ = false := by rw [← hw]; simp
      have f2 : w1.frozen? ⟨w.heap.size, 2, none⟩ = false := by rw [← hw]; simp
      have f3 : w1.frozen? ⟨w.heap.size, 3, none⟩ = false := by rw [← hw]; simp
      clear hw
      go_wp2_with fail
      refine (number_at (n := n) (by rw [HAB.out.1]; exact HN.out.1)).mono ?_
      rintro e w2 ⟨rfl, rfl⟩
      go_wp2_with fail
      refine (number_at (n := m) (by rw [HAB.out.2]; exact HN.out.2)).mono ?_
      rintro e w2 ⟨rfl, rfl⟩
      by_cases h0 : n < 0
      · have d1 : decide (n < 0) = true := decide_eq_true h0
        go_wp2_with fail
        have RD := fun v0 v1 v2 v3 => four_read0 (v0 := v0) (v1 := v1) (v2 := v2) (v3 := v3) z0 z1 z2 z3
        refine bodyPost_ret (v := .tuple #[.agg #[.int .i64 0, .int .i64 0, .int .i64 0, .slice none 0 0], .int .i64 0]) (by simp [results, Tryd.results31, go_sem, RD]) rfl (end_flat (by unfold I64; omega) (by unfold I64; omega) (by unfold I64; omega) (four_below HB1.out (Nat.le_refl _)) ?_)
        rw [HS.out, HN.out.1, HN.out.2, if_pos (.inl h0)]
      · have d1 : decide (n < 0) = false := decide_eq_false h0
        by_cases h2 : m < 0
        · have d2 : decide (m < 0) = true := decide_eq_true h2
          go_wp2_with fail
          have RD := fun v0 v1 v2 v3 => four_read0 (v0 := v0) (v1 := v1) (v2 := v2) (v3 := v3) z0 z1 z2 z3
          refine bodyPost_ret (v := .tuple #[.agg #[.int .i64 0, .int .i64 0, .int .i64 0, .slice none 0 0], .int .i64 0]) (by simp [results, Tryd.results31, go_sem, RD]) rfl (end_flat (by unfold I64; omega) (by unfold I64; omega) (by unfold I64; omega) (four_below HB1.out (Nat.le_refl _)) ?_)
          rw [HS.out, HN.out.1, HN.out.2, if_pos (.inr h2)]
        · have d2 : decide (m < 0) = false := decide_eq_false h2
          go_wp2_with fail
          have RD := fun v0 v1 v2 v3 => four_read0 (v0 := v0) (v1 := v1) (v2 := v2) (v3 := v3) z0 z1 z2 z3
          refine bodyPost_ret (v := .tuple #[.agg #[.int .i64 2, .int .i64 n, .int .i64 m, .slice none 0 0], .int .i64 1]) (by simp [results, Tryd.results31, go_sem, RD]) rfl (end_flat (by unfold I64; omega) (by unfold I64; omega) (by unfold I64; omega) (four_below HB1.out (Nat.le_refl _)) ?_)
          rw [HS.out, HN.out.1, HN.out.2, if_neg (by omega)]
          exact ⟨rfl, by omega, by omega⟩
end Go.Proofs.YtlhnpaehhfimjaaDoor
