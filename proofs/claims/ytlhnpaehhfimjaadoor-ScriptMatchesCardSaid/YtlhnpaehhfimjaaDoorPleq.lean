/-
  The plain law: the two makings of a script without stalls agree.
-/
import Derived.Test.YtlhnpaehhfimjaaDoorPlref
namespace Go.Proofs.YtlhnpaehhfimjaaDoor
def Inv (rs : List Pick) (i : Nat) (u : Int → Int) : Prop := ∀ (p : Pick) (m : Nat), i ≤ m → (u p.a < (m : Int) + 1 ↔ stillB rs p m i = false)
theorem Inv.zero (rs : List Pick) : Inv rs 0 (fun _ => 0) := fun p m _ => by simp [stillB]
theorem Inv.other {rs : List Pick} {i : Nat} {u : Int → Int} {q : Pick} (h : Inv rs i u) (hq : rs[i]? = some q) (hk : q.k ≠ 2) : Inv rs (i + 1) u := fun p m hm => by
  rw [h p m (by omega), still_succ hq]
  simp [stillC, hk]
theorem Inv.stall {rs : List Pick} {i : Nat} {u : Int → Int} {q : Pick} (h : Inv rs i u) (hq : rs[i]? = some q) (hk : q.k = 2) : Inv rs (i + 1) (fun s => if s = q.a then max (u q.a) ((i : Int) + 1 + q.b) else u s) := fun p m hm => by
  rw [still_succ hq]
  have h1 := h p m (by omega)
  by_cases e : p.a = q.a
  · rw [e] at h1
    simp only [e, if_true, Bool.or_eq_false_iff]
    rw [← h1]
    simp only [stillC, hk, e, beq_self_eq_true, Bool.true_and, decide_eq_false_iff_not]
    omega
  · simp only [e, if_false, Bool.or_eq_false_iff]
    rw [h1]
    have : ¬ q.a = p.a := fun c => e c.symm
    simp [stillC, this]
theorem go_eq (threads : Int) (rs : List Pick) : ∀ (l : List Pick) (i : Nat) (u : Int → Int), rs.drop i = l.filter (rightB threads) → Inv rs i u → plainGo threads l i u = refGo rs (rs.drop i) i
  | [], i, u, hd, _ => by rw [hd]; rfl
  | p :: ps, i, u, hd, hi => by
    rw [plainGo]
    cases hr : rightB threads p with
    | false =>
      rw [List.filter_cons_of_neg (by simp [hr])] at hd
      rw [← go_eq threads rs ps i u hd hi]
      rfl
    | true =>
      rw [List.filter_cons_of_pos hr] at hd
      have hp : rs[i]? = some p := by
        have := congrArg (fun l => l[0]?) hd
        simpa using this
      have hd2 : rs.drop (i + 1) = ps.filter (rightB threads) := by
        have := congrArg List.tail hd
        simpa using this
      have hc : ((i + 1 : Nat) : Int) = (i : Int) + 1 := by omega
      rw [drop_of_get hp, refGo, if_pos rfl]
      rcases right_kinds hr with hk | ⟨hk, _, _⟩ | hk
      · have IH := go_eq threads rs ps (i + 1) u hd2 (hi.other hp (by omega))
        rw [hc] at IH
        have := hi p i (Nat.le_refl _)
        by_cases hs : u p.a < (i : Int) + 1
        · rw [if_neg (show ¬ p.k = 2 by omega), if_pos hk, if_pos hs, if_neg (show ¬ p.k = 3 by omega), if_pos ⟨hk, this.1 hs⟩, IH]
        · rw [if_neg (show ¬ p.k = 2 by omega), if_pos hk, if_neg hs, if_neg (show ¬ p.k = 3 by omega), if_neg (fun c => hs (this.2 c.2)), IH]
      · have IH := go_eq threads rs ps (i + 1) _ hd2 (hi.stall hp hk)
        rw [hc] at IH
        rw [if_pos hk, IH, if_neg (show ¬ p.k = 3 by omega), if_neg (show ¬ (p.k = 1 ∧ _) by omega)]
      · rw [if_neg (show ¬ p.k = 2 by omega), if_neg (show ¬ p.k = 1 by omega), if_pos hk]
theorem plain_eq (threads : Int) (l : List Pick) : plainL threads l = refPlainL threads l := by
  unfold plainL refPlainL
  exact go_eq threads (l.filter (rightB threads)) l 0 _ rfl (Inv.zero _)
end Go.Proofs.YtlhnpaehhfimjaaDoor
