/- A drawn region that turns nothing answers as the text's order does. -/
import Derived.Test.YtdpdlmjlahehoaaG12
namespace Go.Ab
section
variable {T : Tab} {call : FuncId → List AV → St → Option (AV × St)}
def stillOps (l : List Oper) : Bool := l.all fun o => !Op.eff o.op
theorem hoist_still : ∀ (l : List Oper) (gs : List (List AV)) (s : St), stillOps l = true → hoist false T l gs s = some (s, l.map fun _ => none)
  | [], _, _, _ => rfl
  | o :: l, gs, s, h => by
    simp only [stillOps, List.all_cons, Bool.and_eq_true, Bool.not_eq_true'] at h
    have he : Oper.early false o = false := by
      unfold Oper.early
      cases hop : o.op <;> simp
      rw [hop] at h
      simp [Op.eff] at h
    simp only [hoist, he, hoist_still l gs.tail s h.2, List.map_cons]
    rfl
theorem log_still {ops : Array Oper} : ∀ (l : List Oper) {t t' : TL} {s s' : St}, stillOps l = true → evOps T call ops l t s = some (t', s') →
    s' = s ∧ ∃ es, evLog T call ops l (l.map fun _ => none) t s = some (t', s, es) ∧ ∀ e ∈ es, e.wr = [] ∧ e.al = none
  | [], t, t', s, s', _, h => by
    simp only [evOps, Option.some.injEq, Prod.mk.injEq] at h
    obtain ⟨rfl, rfl⟩ := h
    exact ⟨rfl, [], rfl, fun e he => by cases he⟩
  | o :: l, t, t', s, s', hl, h => by
    simp only [stillOps, List.all_cons, Bool.and_eq_true, Bool.not_eq_true'] at hl
    simp only [evOps] at h
    split at h
    · cases h
    · rename_i t1 s1 h1
      obtain ⟨rfl, v, _, _⟩ := step_still (s' := s) (t' := t) hl.1 h1 (fun d _ => rfl) (fun g _ _ => rfl)
      obtain ⟨_, v', hv, h2⟩ := step_still (s' := { s1 with wr := [] }) (t' := t) hl.1 h1 (fun d _ => rfl) (fun g _ _ => rfl)
      rw [← hv] at h2
      obtain ⟨e1, es, k1, k2⟩ := log_still l hl.2 h
      refine ⟨e1, ?_⟩
      have hs : ({ s1 with wr := [] ++ s1.wr } : St) = s1 := rfl
      refine ⟨⟨(if guardA ops t o.guard = some true then readsA t o.op else none), [], none⟩ :: es, ?_, fun e he => ?_⟩
      · simp only [List.map_cons, evLog, h2]
        rw [show ({ ctr := s1.ctr, h := s1.h, wr := [] ++ s1.wr } : St) = s1 from rfl, k1]
      · rcases List.mem_cons.1 he with rfl | he
        · exact ⟨rfl, rfl⟩
        · exact k2 e he
theorem logOk_still {B : Array Nat} {l : List Entry} (h : ∀ e ∈ l, e.wr = [] ∧ e.al = none) : logOk B l = true := by
  unfold logOk
  rw [List.all_eq_true]
  intro i _
  cases hi : l[i]? with
  | none => rfl
  | some x =>
    have hx := h x (List.mem_of_getElem? hi)
    simp only [hx.2, Bool.and_true]
    cases x.rd with
    | none => rfl
    | some g =>
      simp only
      rw [List.all_eq_true]
      intro e _
      cases he : l[e]? with
      | none => simp
      | some y => simp [(h y (List.mem_of_getElem? he)).1]
/-- The region, its order drawn. -/
theorem draw_still {n id : Nat} {ops : Array Oper} {t t' : TL} {s s' : St} (hd : drawOk false ops = true) (hl : stillOps ops.toList = true) (h : evOps T call ops ops.toList t s = some (t', s')) :
    evCode T call (n + 1) (.region id ops true) t s = some (.normal, t', s') := by
  obtain ⟨rfl, es, k1, k2⟩ := log_still ops.toList hl h
  simp only [evCode, hd, if_true]
  have : evDraw T call false [] ops t s' = some (t', s') := by
    unfold evDraw
    rw [hoist_still ops.toList [] s' hl]
    simp only [k1, logOk_still k2, if_true]
  rw [this]
end
end Go.Ab
