/-
  A law that returns true, makes new memory alone and leaves its input: what its row's post asks, from the walk's facts.
-/
import Derived.Test.YtnjgcjgfnjcgdaaDoorBase
import Derived.ChangeSame
import Derived.OpenShut
import Derived.ProofKit
namespace Go.Proofs.YtnjgcjgfnjcgdaaDoor
open Go.RowKit Go.ChangeShapes Go.WideShapes Go.ChangeAt

theorem post_true {H : Type} {enc : TypeId × Value → H} {f : Func} {s : ChangeSpec} {W W' : World} {args : Array Value} {ds : List (DataW H)} {at0 : List MemPlace}
    (whole : DataW.Whole enc Tryd.prog f.params.toList s.vars false W args.toList ds [] at0) (hb : Below W.heap.size W W') (hr : f.resultTypes = #[4])
    (sres : (s.fn H (ds ++ [])).results = [.lit (.bool true)]) (sargs : (s.fn H (ds ++ [])).args = ds) (svars : ∀ sp, DataW.TrodVars enc Tryd.prog W' sp s.vars (s.fn H (ds ++ [])).vars [])
    (again : ∀ sp : Nat → Bool, (∀ p ∈ at0, sp p.block = true) → DataW.TrodAll enc Tryd.prog W' 0 sp true f.params.toList args.toList ds at0) :
    s.post enc Tryd.prog f false true false false W args (.bool true) W' := by
  have res (b : Nat) (sp : Nat → Bool) (hd : Bool) : DataW.TrodAll enc Tryd.prog W' b sp hd f.resultTypes.toList ((Value.bool true).resultList f.resultTypes.size) (s.fn H (ds ++ [])).results [] := by
    rw [hr, sres]
    exact trodAll_cons_mk (shut_bool Tryd.underlying4 _) trodAll_mk0
  rw [← sargs] at again
  have inW (p : MemPlace) (hp : p ∈ at0) : p.block < W.heap.size := whole.lt p hp
  have kept : W.keptBut W' fun p => p ∈ at0 ∧ (p ∈ ([] : List MemPlace) ∨ p ∈ at0 ++ []) :=
    World.keptBut_mono (fun p hp => ⟨hp, Or.inr (by simpa using hp)⟩) (hb.frame _)
  obtain ⟨_, _, _, _, _, frz, ndp⟩ := id whole
  refine ⟨ds, [], at0, [], at0, [], whole, res _ _ _, again _ (fun p hp => by simpa using inW p hp), svars _, World.keptBut_mono (fun p hp => ⟨hp.1, ?_⟩) kept, fun _ => ⟨ok_one hr rfl (okWide_bool_mk Tryd.underlying4 _), _, _, ([] ++ at0) ++ [], ⟨[] ++ at0, [], trodAll_append (again _ fun _ _ => rfl) (res _ _ _), svars _, rfl, ?_, ?_⟩, ?_⟩⟩
  · exact Or.inr (by simpa using hp.1)
  · intro b off hp
    have hp' : (MemPlace.cell b off) ∈ at0 := by simpa using hp
    rw [hb.frozen (inW _ hp')]
    exact frz b off (by simpa using hp')
  · intro ha
    simpa using ndp ha
  · intro p hp _
    simpa using hp
end Go.Proofs.YtnjgcjgfnjcgdaaDoor
