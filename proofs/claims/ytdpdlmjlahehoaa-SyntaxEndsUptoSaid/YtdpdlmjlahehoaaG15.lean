/- A closed run of the abstract machine is a run of the model: for functions without parameters. -/
import Derived.Test.YtdpdlmjlahehoaaGF
namespace Go.Ab
open Go.RowKit
def yes (r : Option (AV × St)) : Bool := match r with
  | some (.bool b, _) => b
  | _ => false
theorem closed_run {P : Program} {T : Tab} (hm : P.follows .mixedOrders = true) (hT : TabOk P T) (hng : NoNG P) {n : Nat} {f : FuncId} (h : yes (evCall P T n f [] ⟨0, .leaf, []⟩) = true) (w : World) :
    Calls P f #[] w fun e w' => e = .returned (.bool true) ∧ Below w.heap.size w w' := by
  cases hr : evCall P T n f [] ⟨0, .leaf, []⟩ with
  | none => simp [hr, yes] at h
  | some r =>
    obtain ⟨v, s'⟩ := r
    cases v with
    | bool b =>
      simp only [hr, yes] at h
      subst h
      have hs : Sim w w.heap.size (fun _ _ => none) ⟨0, .leaf, []⟩ w :=
        { low := Below.refl _ _, big := Nat.le_refl _,
          ver := by intros; simp_all, al := by intros; simp_all, sep := by intros; simp_all, ctr := by intros; simp_all }
      refine ((call_sound (w0 := w) (B0 := w.heap.size) hm hT hng n f [] _ _ _ hr).2 _ w #[] hs CR.nil).mono fun e w' ⟨v', ρ', he, _, h2, h3⟩ => ?_
      cases h3
      exact ⟨he, h2.low⟩
    | _ => simp [hr, yes] at h
end Go.Ab
