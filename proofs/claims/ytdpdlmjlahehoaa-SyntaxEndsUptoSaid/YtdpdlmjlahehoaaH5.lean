/- Rows that were lent: with a mark behind them. -/
import Derived.Test.YtdpdlmjlahehoaaH4
namespace Go.Ab
theorem ba_refl (b : ByteArray) : (b == b) = true := by
  cases b with
  | mk d =>
    have : (d == d) = true := beq_self_eq_true d
    exact this
def Lent {α : Type} (h : Tr Grp) (sz : Nat) (f : α → List AV) (mk : List AV) (v : AV) (xs : List α) : Prop :=
  ∃ u, v = cutA u 0 xs.length ∧ u.gs ≠ [] ∧ Row h sz u (xs.map f ++ [mk])
theorem Lent.row {α : Type} {h : Tr Grp} {sz : Nat} {f : α → List AV} {mk : List AV} {v : AV} {xs : List α} (k : Lent h sz f mk v xs) : Row h sz v (xs.map f) := by
  obtain ⟨u, rfl, -, hr⟩ := k
  have := hr.cut (Nat.zero_le xs.length) (by simp)
  rw [List.drop_zero, Nat.sub_zero, List.take_append_of_le_length (by simp), List.take_of_length_le (by simp)] at this
  exact this
theorem Lent.keep {α : Type} {X : List Nat} {s s' : St} {sz : Nat} {f : α → List AV} {mk : List AV} {v : AV} {xs : List α} (k : Lent s.h sz f mk v xs) (h : Keep X s s') (hg : ∀ g ∈ v.gs, g ∉ X) : Lent s'.h sz f mk v xs := by
  obtain ⟨u, rfl, hu, hr⟩ := k
  exact ⟨u, rfl, hu, hr.keep h (by rw [cutA_gs] at hg; exact hg)⟩
theorem row_nils (h : Tr Grp) (sz : Nat) : Row h sz .nils [] := rfl
theorem Keep.two {s s' s'' : St} (h : Keep [] s s') (k : Keep [] s' s'') : Keep [] s s'' := h.trans k fun g hg => by cases hg
/-- Groups that were not there. -/
theorem Keep.fresh {X : List Nat} {s s' s'' : St} (h : Keep [] s s') (k : Keep X s' s'') (hX : ∀ g ∈ X, Tr.get s.h g = none) : Keep [] s s'' := h.trans k fun g hg => .inr (hX g hg)
theorem Row.mk_pt' {h : Tr Grp} {sz : Nat} {v : AV} {α : Type} {f : α → List AV} {xs : List α} {mk : List AV} (k : Row h sz v (xs.map f ++ [mk])) : Pt h (elemA v xs.length) mk :=
  k.pt (by rw [List.getElem?_append_right (by simp)]; simp)
theorem natA_succ (k : IntKind) (n : Nat) : natA (.int k ((n : Int) + 1)) = some (n + 1) := by
  have : ((n : Int) + 1) = ((n + 1 : Nat) : Int) := by omega
  rw [this]; exact natA_cast _ _
theorem Lent.more {α : Type} {h : Tr Grp} {sz : Nat} {f : α → List AV} {mk : List AV} {u : AV} {xs : List α} (hr : Row h sz u (xs.map f ++ [mk])) : Row h sz (cutA u 0 (xs.length + 1)) (xs.map f ++ [mk]) := by
  have := hr.cut (Nat.zero_le (xs.length + 1)) (by simp)
  rw [List.drop_zero, Nat.sub_zero, List.take_of_length_le (by simp)] at this
  exact this
theorem Row.more {h : Tr Grp} {sz : Nat} {mk : List AV} {u : AV} {cs : List (List AV)} {n : Nat} (hn : cs.length = n) (hr : Row h sz u (cs ++ [mk])) : Row h sz (cutA u 0 (n + 1)) (cs ++ [mk]) := by
  subst hn
  have := hr.cut (Nat.zero_le (cs.length + 1)) (by simp)
  rw [List.drop_zero, Nat.sub_zero, List.take_of_length_le (by simp)] at this
  exact this
theorem Row.less {h : Tr Grp} {sz : Nat} {mk : List AV} {u : AV} {cs : List (List AV)} {n : Nat} (hn : cs.length = n) (hr : Row h sz u (cs ++ [mk])) : Row h sz (cutA u 0 n) cs := by
  subst hn
  have := hr.cut (Nat.zero_le cs.length) (by simp)
  rw [List.drop_zero, Nat.sub_zero, List.take_append_of_le_length (by simp), List.take_of_length_le (by simp)] at this
  exact this
theorem Row.mark {h : Tr Grp} {sz : Nat} {mk : List AV} {u : AV} {cs : List (List AV)} {n : Nat} (hn : cs.length = n) (hr : Row h sz u (cs ++ [mk])) : Pt h (elemA u n) mk :=
  hr.pt (by rw [List.getElem?_append_right (by omega)]; simp [hn])
/-- A row of rows. -/
def RowR {α : Type} (h : Tr Grp) (sz : Nat) (R : Tr Grp → α → List AV → Prop) (v : AV) (xs : List α) : Prop :=
  ∃ css, Row h sz v css ∧ css.length = xs.length ∧ ∀ (i : Nat) (x : α) (c : List AV), xs[i]? = some x → css[i]? = some c → R h x c
/-- A row of rows, lent: a mark behind it. -/
def LentR {α : Type} (h : Tr Grp) (sz : Nat) (R : Tr Grp → α → List AV → Prop) (mk : List AV) (v : AV) (xs : List α) : Prop :=
  ∃ u css, v = cutA u 0 xs.length ∧ u.gs ≠ [] ∧ Row h sz u (css ++ [mk]) ∧ css.length = xs.length ∧ ∀ (i : Nat) (x : α) (c : List AV), xs[i]? = some x → css[i]? = some c → R h x c
theorem LentR.row {α : Type} {h : Tr Grp} {sz : Nat} {R R' : Tr Grp → α → List AV → Prop} {mk : List AV} {v : AV} {xs : List α} (k : LentR h sz R mk v xs) (hR : ∀ x c, R h x c → R' h x c) : RowR h sz R' v xs := by
  obtain ⟨u, css, rfl, hu, hr, hl, hx⟩ := k
  exact ⟨css, hr.less hl, hl, fun i x c h1 h2 => hR _ _ (hx i x c h1 h2)⟩
theorem mem_none {s : St} (hok : s.Ok) : ∀ g ∈ [s.ctr], Tr.get s.h g = none := fun g hg => by rw [List.mem_singleton.1 hg]; exact hok _ (Nat.le_refl _)
/-- An element of a cut row is the row's. -/
theorem elemA_cut (v : AV) (h i : Nat) (hi : i < h) : elemA (cutA v 0 h) i = elemA v i := by
  cases v with
  | slc g j off sz len lo ex => simp [cutA, elemA]
  | ro nl xs =>
    simp only [cutA, elemA, List.drop_zero, Nat.sub_zero]
    rw [List.getElem?_take_of_lt hi]
  | _ => rfl
end Go.Ab
