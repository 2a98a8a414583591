/-
  From the reading of an argument to the script, the pick, the row of bools that it is.
-/
import Derived.Test.YtlhnpaehhfimjaaDoorOpen
import Derived.Test.YtlhnpaehhfimjaaDoorNext
import Derived.SizedLaws
import Derived.DataReads
import Derived.Carry
import Derived.ReadAgain
import Derived.ChangeSame
namespace Go.Proofs.YtlhnpaehhfimjaaDoor
open Go.RowKit Go.ChangeShapes Go.WideShapes Go.ChangeAt

theorem cells3 : Tryd.prog.cellsOf 3 = 1 := by kernel_rfl
theorem cells4 : Tryd.prog.cellsOf 4 = 1 := by kernel_rfl
theorem cells22 : Tryd.prog.cellsOf 22 = 1 := by kernel_rfl
theorem cells23 : Tryd.prog.cellsOf 23 = 1 := by kernel_rfl
theorem cells25 : Tryd.prog.cellsOf 25 = 4 := by kernel_rfl
theorem bytes3 : Tryd.prog.bytesOf 3 = 8 := by kernel_rfl
theorem bytes4 : Tryd.prog.bytesOf 4 = 1 := by kernel_rfl
theorem laidOut : laidOutB Tryd.prog = true := by kernel_rfl
theorem weightsAll_at {H : Type} {P : Program} {e : TypeId} : ∀ {l : List (DataW H)} {i : Nat} {d : DataW H}, l[i]? = some d → ∀ n ∈ d.weights P e, n ∈ DataW.weightsAll P e l
  | [], _, _, h, _, _ => by simp at h
  | x :: r, 0, d, h, n, hn => by
    simp only [List.getElem?_cons_zero, Option.some.injEq] at h
    subst h
    simp only [DataW.weightsAll, List.mem_append]
    exact Or.inl hn
  | x :: r, i + 1, d, h, n, hn => by
    simp only [List.getElem?_cons_succ] at h
    simp only [DataW.weightsAll, List.mem_append]
    exact Or.inr (weightsAll_at h n hn)
theorem cells_one {W : World} {a : Addr} {cs : List Value} (h : W.cells? 0 a 1 = some cs) : ∃ c0, cs = [c0] ∧ W.cell? (a.add 0) = some c0 := by
  unfold World.cells? at h
  rw [if_pos (Nat.zero_le _)] at h
  simp only [List.range_succ, List.range_zero, List.nil_append, List.mapM_cons, List.mapM_nil, Option.bind_eq_bind, Option.bind_eq_some_iff, Option.pure_def, Option.some.injEq] at h
  obtain ⟨c0, h0, c1, rfl, rfl⟩ := h
  exact ⟨c0, rfl, h0⟩
/-- Four cells in a row. -/
theorem cells_four {W : World} {a : Addr} {cs : List Value} (h : W.cells? 0 a 4 = some cs) : ∃ c0 c1 c2 c3, cs = [c0, c1, c2, c3] ∧ W.cell? (a.add 0) = some c0 ∧ W.cell? (a.add 1) = some c1 ∧ W.cell? (a.add 2) = some c2 ∧ W.cell? (a.add 3) = some c3 := by
  unfold World.cells? at h
  rw [if_pos (Nat.zero_le _)] at h
  simp only [List.range_succ, List.range_zero, List.nil_append, List.cons_append, List.mapM_cons, List.mapM_nil, Option.bind_eq_bind, Option.bind_eq_some_iff, Option.pure_def, Option.some.injEq] at h
  obtain ⟨c0, h0, c1, ⟨c1', h1, c2, ⟨c2', h2, c3, ⟨c3', h3, c4, rfl, rfl⟩, rfl⟩, rfl⟩, rfl⟩ := h
  exact ⟨c0, c1', c2', c3', rfl, h0, h1, h2, h3⟩
theorem add_none (b off j : Nat) : (⟨b, off, none⟩ : Addr).add j = ⟨b, off + j, none⟩ := by
  unfold Addr.add
  split
  · rename_i h; subst h; rfl
  · rfl
theorem spot_none {W : World} {a : Addr} {k : Nat} {v : Value} (h : W.cell? ((a.add (0 * k)).add 0) = some v) : ∃ b off, a = ⟨b, off, none⟩ := by
  obtain ⟨b, off, spot⟩ := a
  have hsp : spot = none := by simpa [Addr.add] using World.cell?_spot h
  subst hsp
  exact ⟨b, off, rfl⟩
set_option maxRecDepth 100000
variable {H : Type} {enc : TypeId × Value → H} {W : World}

theorem ints_of_trod {fuel : Nat} {cs : List Value} {y : DataW H × List MemPlace} (h : DataW.trod enc Tryd.prog W 0 (fun _ => true) true fuel 23 cs = some y) (hz : ∀ n ∈ y.1.weights Tryd.prog 23, n ≤ reachBytes) :
    ∃ a l cap, cs = [.slice a l.length cap] ∧ l.length ≤ big ∧ (∀ n ∈ l, I64 n) ∧ IntsAt W a l := by
  have hr : reachBytes = 140737488351232 := rfl
  rcases DataW.trod_slice Tryd.underlying23 h with ⟨hc, _⟩ | ⟨a, len, cap, elems, rest, n', rfl, hc, hy, _, _, _, hlen, hE, _⟩
  · exact ⟨none, [], 0, hc, Nat.zero_le _, fun n hn => (by cases hn), fun i n hi => by simp at hi⟩
  · subst hy
    have hz4 : (elems.length + rest.length) * 8 ≤ reachBytes := hz _ (by simp [DataW.weights, Tryd.underlying23, bytes3])
    rw [cells3] at hE
    have each : ∀ i, ∃ n : Int, i < len → W.cell? ((a.add (i * 1)).add 0) = some (.int .i64 n) ∧ I64 n := by
      intro i
      by_cases hi : i < len
      · have hEi := hE i hi
        have : i < elems.length := by omega
        rw [List.getElem?_eq_getElem this] at hEi
        obtain ⟨cs', hcs, ht⟩ := Option.bind_eq_some_iff.1 hEi
        obtain ⟨c0, rfl, g0⟩ := cells_one hcs
        obtain ⟨m, hc0, _, w0⟩ := DataW.trod_int Tryd.underlying3 ht
        simp only [List.cons.injEq, and_true] at hc0
        subst hc0
        exact ⟨m, fun _ => ⟨g0, bounds_i64 w0⟩⟩
      · exact ⟨0, fun h => absurd h hi⟩
    obtain ⟨f, hf⟩ := Classical.axiomOfChoice each
    have hof : ((List.range len).map f).length = len := by simp
    refine ⟨some a, (List.range len).map f, cap, by rw [hof]; exact hc, by unfold big; omega, fun n hn => ?_, fun i n hi => ?_⟩
    · obtain ⟨i, hi, rfl⟩ := List.mem_map.1 hn
      exact (hf i (List.mem_range.1 hi)).2
    · have hlt : i < len := by
        have := (List.getElem?_eq_some_iff.1 hi).1
        omega
      have hv : f i = n := by
        rw [List.getElem?_map, List.getElem?_range hlt] at hi
        simpa using hi
      have g := (hf i hlt).1
      rw [hv] at g
      obtain ⟨b, off, rfl⟩ := spot_none ((hf 0 (by omega)).1)
      rw [add_none, add_none] at g
      exact ⟨b, off, rfl, by simpa using g⟩
theorem pick_of_trod {fuel : Nat} {cs : List Value} {y : DataW H × List MemPlace} (h : DataW.trod enc Tryd.prog W 0 (fun _ => true) true fuel 25 cs = some y) (hz : ∀ n ∈ y.1.weights Tryd.prog 25, n ≤ reachBytes) :
    ∃ p a cap, cs = [.int .i64 p.k, .int .i64 p.a, .int .i64 p.b, .slice a p.c.length cap] ∧ PAt W (.agg #[.int .i64 p.k, .int .i64 p.a, .int .i64 p.b, .slice a p.c.length cap]) p := by
  obtain ⟨xs, n, rfl, hx, hl, hn, hel⟩ := DataW.trod_struct Tryd.underlying25 h
  rw [cells25] at hl
  obtain ⟨c0, c1, c2, c3, rfl⟩ : ∃ c0 c1 c2 c3, cs = [c0, c1, c2, c3] := by
    match cs, hl with
    | [c0, c1, c2, c3], _ => exact ⟨c0, c1, c2, c3, rfl⟩
  obtain ⟨y0, y1, y2, y3, rfl⟩ : ∃ y0 y1 y2 y3, xs = [y0, y1, y2, y3] := by
    match xs, hn with
    | [y0, y1, y2, y3], _ => exact ⟨y0, y1, y2, y3, rfl⟩
  have e0 : DataW.trod enc Tryd.prog W 0 (fun _ => true) true n 3 ((([c0, c1, c2, c3] : List Value).drop 0).take (Tryd.prog.cellsOf 3)) = [y0, y1, y2, y3][0]? := hel 0 _ rfl
  have e1 : DataW.trod enc Tryd.prog W 0 (fun _ => true) true n 3 ((([c0, c1, c2, c3] : List Value).drop 1).take (Tryd.prog.cellsOf 3)) = [y0, y1, y2, y3][1]? := hel 1 _ rfl
  have e2 : DataW.trod enc Tryd.prog W 0 (fun _ => true) true n 3 ((([c0, c1, c2, c3] : List Value).drop 2).take (Tryd.prog.cellsOf 3)) = [y0, y1, y2, y3][2]? := hel 2 _ rfl
  have e3 : DataW.trod enc Tryd.prog W 0 (fun _ => true) true n 23 ((([c0, c1, c2, c3] : List Value).drop 3).take (Tryd.prog.cellsOf 23)) = [y0, y1, y2, y3][3]? := hel 3 _ rfl
  rw [cells3] at e0 e1 e2
  rw [cells23] at e3
  simp only [List.drop_zero, List.take_succ_cons, List.take_zero, List.getElem?_cons_zero, List.getElem?_cons_succ, List.drop_succ_cons] at e0 e1 e2 e3
  obtain ⟨k, hc0, _, w0⟩ := DataW.trod_int Tryd.underlying3 e0
  obtain ⟨m, hc1, _, w1⟩ := DataW.trod_int Tryd.underlying3 e1
  obtain ⟨o, hc2, _, w2⟩ := DataW.trod_int Tryd.underlying3 e2
  simp only [List.cons.injEq, and_true] at hc0 hc1 hc2
  subst hc0 hc1 hc2
  subst hx
  obtain ⟨a, l, cap, hc3, h1, h2, h3⟩ := ints_of_trod e3 (fun n hn => hz n (by
    show n ∈ DataW.weights Tryd.prog 25 (.agg [y0.1, y1.1, y2.1, y3.1])
    simp only [DataW.weights, Tryd.underlying25]
    exact DataW.weights_mem_each (j := 3) rfl rfl n hn))
  simp only [List.cons.injEq, and_true] at hc3
  subst hc3
  exact ⟨⟨k, m, o, l⟩, a, cap, rfl, ⟨a, cap, rfl, bounds_i64 w0, bounds_i64 w1, bounds_i64 w2, h1, h2, h3⟩⟩
theorem picks_of_trod {fuel : Nat} {cs : List Value} {y : DataW H × List MemPlace} (h : DataW.trod enc Tryd.prog W 0 (fun _ => true) true fuel 22 cs = some y) (hz : ∀ n ∈ y.1.weights Tryd.prog 22, n ≤ reachBytes) :
    ∃ v l, cs = [v] ∧ LAt W v l := by
  rcases DataW.trod_slice Tryd.underlying22 h with ⟨hc, _⟩ | ⟨a, len, cap, elems, rest, n', rfl, hc, hy, _, hle, hmx, hlen, hE, _⟩
  · exact ⟨_, [], hc, none, 0, rfl, Nat.le_refl _, Nat.zero_le _, fun i p hi => by simp at hi⟩
  · subst hy
    rw [cells25] at hE
    have each : ∀ i, ∃ p : Pick, i < len → ∃ c ccap, W.cell? ((a.add (i * 4)).add 0) = some (.int .i64 p.k) ∧ W.cell? ((a.add (i * 4)).add 1) = some (.int .i64 p.a) ∧ W.cell? ((a.add (i * 4)).add 2) = some (.int .i64 p.b) ∧
        W.cell? ((a.add (i * 4)).add 3) = some (.slice c p.c.length ccap) ∧ PAt W (.agg #[.int .i64 p.k, .int .i64 p.a, .int .i64 p.b, .slice c p.c.length ccap]) p := by
      intro i
      by_cases hi : i < len
      · have hEi := hE i hi
        have : i < elems.length := by omega
        rw [List.getElem?_eq_getElem this] at hEi
        obtain ⟨cs', hcs, ht⟩ := Option.bind_eq_some_iff.1 hEi
        obtain ⟨b0, b1, b2, b3, rfl, g0, g1, g2, g3⟩ := cells_four hcs
        obtain ⟨p, c, ccap, he, hp⟩ := pick_of_trod ht (fun n hn => hz n (by
          simp only [DataW.weights, Tryd.underlying22, List.mem_cons, List.mem_append]
          exact Or.inr (Or.inl (weightsAll_at (i := i) (by simp [this]) n hn))))
        simp only [List.cons.injEq, and_true] at he
        obtain ⟨rfl, rfl, rfl, rfl⟩ := he
        exact ⟨p, fun _ => ⟨c, ccap, g0, g1, g2, g3, hp⟩⟩
      · exact ⟨⟨0, 0, 0, []⟩, fun h => absurd h hi⟩
    obtain ⟨f, hf⟩ := Classical.axiomOfChoice each
    have hof : ((List.range len).map f).length = len := by simp
    refine ⟨_, (List.range len).map f, hc, some a, cap, by rw [hof], by omega, by unfold huge; unfold maxLen at hmx; omega, fun i p hi => ?_⟩
    have hlt : i < len := by
      have := (List.getElem?_eq_some_iff.1 hi).1
      omega
    have hv : f i = p := by
      rw [List.getElem?_map, List.getElem?_range hlt] at hi
      simpa using hi
    obtain ⟨c, ccap, g0, g1, g2, g3, hp⟩ := hf i hlt
    rw [hv] at g0 g1 g2 g3 hp
    obtain ⟨b, off, rfl⟩ := spot_none ((hf 0 (by omega)).choose_spec.choose_spec.1)
    simp only [add_none, Nat.add_zero] at g0 g1 g2 g3
    exact ⟨b, off, _, c, ccap, rfl, rfl, g0, g1, g2, g3, hp⟩
theorem bools_of_trod {fuel : Nat} {cs : List Value} {y : DataW H × List MemPlace} (h : DataW.trod enc Tryd.prog W 0 (fun _ => true) true fuel 26 cs = some y) (hz : ∀ n ∈ y.1.weights Tryd.prog 26, n ≤ reachBytes) :
    ∃ v l, cs = [v] ∧ BAt W v l := by
  have hr : reachBytes = 140737488351232 := rfl
  rcases DataW.trod_slice Tryd.underlying26 h with ⟨hc, _⟩ | ⟨a, len, cap, elems, rest, n', rfl, hc, hy, _, hle, hmx, hlen, hE, hS, _⟩
  · exact ⟨_, [], hc, none, 0, rfl, Nat.le_refl _, Nat.zero_le _, fun i p hi => by simp at hi⟩
  · subst hy
    have hz4 : (elems.length + rest.length) * 1 ≤ reachBytes := hz _ (by simp [DataW.weights, Tryd.underlying26, bytes4])
    have hrl := (hS rfl).1
    rw [cells4] at hE
    have each : ∀ i, ∃ n : Bool, i < len → W.cell? ((a.add (i * 1)).add 0) = some (.bool n) := by
      intro i
      by_cases hi : i < len
      · have hEi := hE i hi
        have : i < elems.length := by omega
        rw [List.getElem?_eq_getElem this] at hEi
        obtain ⟨cs', hcs, ht⟩ := Option.bind_eq_some_iff.1 hEi
        obtain ⟨c0, rfl, g0⟩ := cells_one hcs
        obtain ⟨m, hc0, _⟩ := DataW.trod_bool Tryd.underlying4 ht
        simp only [List.cons.injEq, and_true] at hc0
        subst hc0
        exact ⟨m, fun _ => g0⟩
      · exact ⟨false, fun h => absurd h hi⟩
    obtain ⟨f, hf⟩ := Classical.axiomOfChoice each
    have hof : ((List.range len).map f).length = len := by simp
    refine ⟨_, (List.range len).map f, hc, some a, cap, by rw [hof], by omega, by unfold big; omega, fun i n hi => ?_⟩
    have hlt : i < len := by
      have := (List.getElem?_eq_some_iff.1 hi).1
      omega
    have hv : f i = n := by
      rw [List.getElem?_map, List.getElem?_range hlt] at hi
      simpa using hi
    have g := hf i hlt
    rw [hv] at g
    obtain ⟨b, off, rfl⟩ := spot_none ((hf 0 (by omega)))
    rw [add_none, add_none] at g
    exact ⟨b, off, rfl, by simpa using g⟩

/-- An argument of type []Pick is a script. -/
theorem lat_of_arg {r : Reach} {b : Nat} {v : Value} {d : DataW H} {p : List MemPlace} (hv : Value.okWide Tryd.prog W r b 22 v) (h : DataW.Trod enc Tryd.prog W 0 (fun _ => true) true 22 v d p) (hz : ∀ n ∈ d.weights Tryd.prog 22, n ≤ reachBytes) : ∃ l, LAt W v l := by
  obtain ⟨a, len, cap, rfl⟩ := okWide_slice Tryd.underlying22 hv
  obtain ⟨fuel, hd⟩ := h
  obtain ⟨u, l, he, hl⟩ := picks_of_trod hd hz
  simp only [Value.cells, List.cons.injEq, and_true] at he
  subst he
  exact ⟨l, hl⟩
theorem bat_of_arg {r : Reach} {b : Nat} {v : Value} {d : DataW H} {p : List MemPlace} (hv : Value.okWide Tryd.prog W r b 26 v) (h : DataW.Trod enc Tryd.prog W 0 (fun _ => true) true 26 v d p) (hz : ∀ n ∈ d.weights Tryd.prog 26, n ≤ reachBytes) : ∃ l, BAt W v l := by
  obtain ⟨a, len, cap, rfl⟩ := okWide_slice Tryd.underlying26 hv
  obtain ⟨fuel, hd⟩ := h
  obtain ⟨u, l, he, hl⟩ := bools_of_trod hd hz
  simp only [Value.cells, List.cons.injEq, and_true] at he
  subst he
  exact ⟨l, hl⟩
theorem pat_of_arg {r : Reach} {b : Nat} {v : Value} {d : DataW H} {p : List MemPlace} (hv : Value.okWide Tryd.prog W r b 25 v) (h : DataW.Trod enc Tryd.prog W 0 (fun _ => true) true 25 v d p) (hz : ∀ n ∈ d.weights Tryd.prog 25, n ≤ reachBytes) :
    ∃ q a cap, v = .agg #[.int .i64 q.k, .int .i64 q.a, .int .i64 q.b, .slice a q.c.length cap] ∧ PAt W v q := by
  obtain ⟨cs, rfl, _⟩ := okWide_struct Tryd.underlying25 hv
  obtain ⟨fuel, hd⟩ := h
  obtain ⟨q, a, cap, he, hp⟩ := pick_of_trod hd hz
  have : cs = #[.int .i64 q.k, .int .i64 q.a, .int .i64 q.b, .slice a q.c.length cap] := by
    apply Array.toList_inj.1
    simpa [Value.cells] using he
  subst this
  exact ⟨q, a, cap, rfl, hp⟩
theorem post_true {f : Func} {s : ChangeSpec} {W' : World} {args : Array Value} {ds : List (DataW H)} {at0 : List MemPlace}
    (whole : DataW.Whole enc Tryd.prog f.params.toList s.vars false W args.toList ds [] at0) (hb : Below W.heap.size W W') (hr : f.resultTypes = #[4])
    (sres : (s.fn H (ds ++ [])).results = [.lit (.bool true)]) (sargs : (s.fn H (ds ++ [])).args = ds) (svars : ∀ sp, DataW.TrodVars enc Tryd.prog W' sp s.vars (s.fn H (ds ++ [])).vars [])
    (again : ∀ sp : Nat → Bool, (∀ p ∈ at0, sp p.block = true) → DataW.TrodAll enc Tryd.prog W' 0 sp true f.params.toList args.toList ds at0) :
    s.post enc Tryd.prog f false true false false W args (.bool true) W' := by
  have res (b : Nat) (sp : Nat → Bool) (hd : Bool) : DataW.TrodAll enc Tryd.prog W' b sp hd f.resultTypes.toList ((Value.bool true).resultList f.resultTypes.size) (s.fn H (ds ++ [])).results [] := by
    rw [hr, sres]
    exact trodAll_cons_mk (shut_bool Tryd.underlying4 _) trodAll_mk0
  rw [← sargs] at again
  have inW (p : MemPlace) (hp : p ∈ at0) : p.block < W.heap.size := whole.lt p hp
  have kept : W.keptBut W' fun p => p ∈ at0 ∧ (p ∈ ([] : List MemPlace) ∨ p ∈ at0 ++ []) :=
    World.keptBut_mono (fun p hp => ⟨hp, Or.inr (by simpa using hp)⟩) (hb.frame _)
  obtain ⟨_, _, _, _, _, frz, ndp⟩ := id whole
  refine ⟨ds, [], at0, [], at0, [], whole, res _ _ _, again _ (fun p hp => by simpa using inW p hp), svars _, World.keptBut_mono (fun p hp => ⟨hp.1, ?_⟩) kept, fun _ => ⟨ok_one hr rfl (okWide_bool_mk Tryd.underlying4 _), _, _, ([] ++ at0) ++ [], ⟨[] ++ at0, [], trodAll_append (again _ fun _ _ => rfl) (res _ _ _), svars _, rfl, ?_, ?_⟩, ?_⟩⟩
  · exact Or.inr (by simpa using hp.1)
  · intro b off hp
    have hp' : (MemPlace.cell b off) ∈ at0 := by simpa using hp
    rw [hb.frozen (inW _ hp')]
    exact frz b off (by simpa using hp')
  · intro ha
    simpa using ndp ha
  · intro p hp _
    simpa using hp
theorem again_all {W' : World} (hb : Below W.heap.size W W') {sp : Nat → Bool} (ts : List TypeId) : ∀ {vs : List Value} {ds : List (DataW H)} {ps : List MemPlace},
    (ts.all fun t => Tryd.prog.readableRec t && decide (t < Tryd.prog.types.size)) = true → DataW.TrodAll enc Tryd.prog W 0 (fun _ => true) true ts vs ds ps → (∀ p ∈ ps, p.block < W.heap.size) → (∀ p ∈ ps, sp p.block = true) →
    DataW.TrodAll enc Tryd.prog W' 0 sp true ts vs ds ps := by
  induction ts with
  | nil =>
    intro vs ds ps _ h _ _
    obtain ⟨rfl, rfl, rfl⟩ := trodAll_nil h
    exact trodAll_mk0
  | cons t ts ih =>
    intro vs ds ps hr h hl hs
    obtain ⟨v, vs', d, ds', p, q, rfl, rfl, rfl, h1, h2⟩ := trodAll_cons h
    rw [List.all_cons, Bool.and_eq_true, Bool.and_eq_true] at hr
    exact trodAll_cons_mk (WideElems.Trod_stays laidOut hr.1.1 (of_decide_eq_true hr.1.2) h1 (fun x hx => hb.same (hl x (List.mem_append_left _ hx))) (fun x hx => hs x (List.mem_append_left _ hx)))
      (ih hr.2 h2 (fun x hx => hl x (List.mem_append_right _ hx)) (fun x hx => hs x (List.mem_append_right _ hx)))
end Go.Proofs.YtlhnpaehhfimjaaDoor
