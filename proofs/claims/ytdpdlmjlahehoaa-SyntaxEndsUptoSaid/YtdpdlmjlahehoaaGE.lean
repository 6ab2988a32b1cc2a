/- What the evaluator leaves alone. -/
import Derived.Test.YtdpdlmjlahehoaaG3
namespace Go.Ab
section
variable {T : Tab}

/-- The counter only grows; what isn't on the new part of the record is as it was. -/
structure Ext (s s' : St) : Prop where
  ctr : s.ctr ≤ s'.ctr
  wr : ∃ l, s'.wr = l ++ s.wr ∧ ∀ g, g ∉ l → s'.get g = s.get g
theorem Ext.refl (s : St) : Ext s s := ⟨Nat.le_refl _, [], rfl, fun _ _ => rfl⟩
theorem Ext.trans {a b c : St} (h : Ext a b) (k : Ext b c) : Ext a c := by
  obtain ⟨l, h1, h2⟩ := h.wr
  obtain ⟨m, k1, k2⟩ := k.wr
  refine ⟨Nat.le_trans h.ctr k.ctr, m ++ l, by rw [k1, h1, List.append_assoc], fun g hg => ?_⟩
  rw [List.mem_append, not_or] at hg
  rw [k2 g hg.1, h2 g hg.2]
theorem Ext.newG (s : St) (G : Grp) : Ext s (s.newG G) := ⟨by simp [St.newG], [s.ctr], rfl, fun g hg => St.get_newG_ne _ _ (by simpa using hg)⟩
theorem Ext.setG (s : St) (g : Nat) (G : Grp) : Ext s (s.setG g G) := ⟨by simp [St.setG], [g], rfl, fun k hk => St.get_setG_ne _ _ _ (by simpa using hk)⟩
theorem Ext.write {s s' : St} {g j off : Nat} {cs : List AV} (h : s.write g j off cs = some s') : Ext s s' := by
  unfold St.write at h
  repeat' split at h
  all_goals first | (cases h; done) | (simp only [Option.some.injEq] at h; subst h; exact Ext.setG _ _ _)
theorem Ext.app {s s' : St} {sz bytes n : Nat} {a v : AV} {ns : List AV} (h : s.app sz bytes a n ns = some (v, s')) : Ext s s' := by
  unfold St.app at h
  repeat' split at h
  all_goals first
    | (cases h; done)
    | (simp only [Option.some.injEq, Prod.mk.injEq] at h; obtain ⟨_, rfl⟩ := h; first | exact Ext.refl _ | exact Ext.newG _ _ | exact Ext.setG _ _ _ | (exact Ext.write (by assumption)))
theorem Ext.zeros {s s' : St} {t t' : TypeId} {a x v : AV} (h : appZeros T t t' a x s = some (v, s')) : Ext s s' := by
  unfold appZeros at h
  repeat' split at h
  all_goals first | (cases h; done) | (simp only [Option.some.injEq, Prod.mk.injEq] at h; obtain ⟨_, rfl⟩ := h; exact Ext.newG _ _)
theorem Ext.callA {s s' : St} {b : Builtin} {tys : List TypeId} {args : List AV} {v : AV} (h : Ab.callA T b tys args s = some (v, s')) : Ext s s' := by
  unfold Ab.callA at h
  repeat' split at h
  all_goals first
    | (cases h; done)
    | (exact Ext.app h)
    | (exact Ext.zeros h)
    | (simp only [Option.some.injEq, Prod.mk.injEq] at h; obtain ⟨_, rfl⟩ := h; first | exact Ext.refl _ | (exact Ext.write (by assumption)))
theorem Ext.op {o : Op} {t : TL} {s s' : St} {r : Res} (h : evOp T o t s = some (r, s')) : Ext s s' := by
  cases o <;> simp only [evOp] at h <;> (repeat' split at h) <;> first
    | (cases h; done)
    | (simp only [Option.some.injEq, Prod.mk.injEq] at h; obtain ⟨_, rfl⟩ := h; first | contradiction | exact Ext.refl _ | exact Ext.newG _ _ | exact Ext.setG _ _ _ | (exact Ext.write (by assumption)) | (exact Ext.callA (by assumption)))

/-- An operation that turns nothing leaves the state as it was, and is no call. -/
theorem still_op {o : Op} {t : TL} {s s' : St} {r : Res} (h : evOp T o t s = some (r, s')) (he : Op.eff o = false) : s' = s ∧ ∃ v, r = .val v := by
  cases o with
  | call c =>
    obtain ⟨cal, args, tys⟩ := c
    cases cal with
    | value f => simp [Op.eff] at he
    | invoke x m => simp [Op.eff] at he
    | builtin b =>
      simp only [evOp] at h
      repeat' split at h
      all_goals first | (cases h; done) | skip
      rename_i args' _ v s1 hc
      simp only [Option.some.injEq, Prod.mk.injEq] at h
      obtain ⟨rfl, rfl⟩ := h
      refine ⟨?_, v, rfl⟩
      unfold Ab.callA at hc
      repeat' split at hc
      all_goals first
        | (cases hc; done)
        | (simp [Op.eff] at he; done)
        | (simp only [Option.some.injEq, Prod.mk.injEq] at hc; exact hc.2.symm)
  | makeFunc fn first caps =>
    cases fn <;> simp only [evOp] at h <;> (repeat' split at h) <;> first
      | (cases h; done)
      | contradiction
      | (simp only [Option.some.injEq, Prod.mk.injEq] at h; obtain ⟨rfl, rfl⟩ := h; exact ⟨rfl, _, rfl⟩)
  | _ =>
    first
      | (exfalso; simp [Op.eff] at he; done)
      | (simp only [evOp] at h
         repeat' split at h
         all_goals first
           | (cases h; done)
           | (simp only [Option.some.injEq, Prod.mk.injEq] at h; obtain ⟨rfl, rfl⟩ := h; exact ⟨rfl, _, rfl⟩))

variable {call : FuncId → List AV → St → Option (AV × St)}
/-- The evaluator of calls leaves alone what isn't on its record. -/
def CallExt (call : FuncId → List AV → St → Option (AV × St)) : Prop := ∀ f args s v s', call f args s = some (v, s') → Ext s s'

theorem Ext.step (hc : CallExt call) {ops : Array Oper} {o : Oper} {t t' : TL} {s s' : St} (h : evStep T call ops o t s = some (t', s')) : Ext s s' := by
  unfold evStep at h
  repeat' split at h
  all_goals first
    | (cases h; done)
    | (simp only [Option.some.injEq, Prod.mk.injEq] at h; obtain ⟨_, rfl⟩ := h; first | exact Ext.refl _ | (exact Ext.op (by assumption)) | (refine Ext.trans (Ext.op (by assumption)) (hc _ _ _ _ _ (by assumption))))
theorem Ext.ops (hc : CallExt call) {ops : Array Oper} : ∀ (l : List Oper) {t t' : TL} {s s' : St}, evOps T call ops l t s = some (t', s') → Ext s s'
  | [], t, t', s, s', h => by simp only [evOps, Option.some.injEq, Prod.mk.injEq] at h; obtain ⟨_, rfl⟩ := h; exact Ext.refl _
  | o :: l, t, t', s, s', h => by
    simp only [evOps] at h
    split at h
    · cases h
    · rename_i t1 s1 h1
      exact (Ext.step hc h1).trans (Ext.ops hc l h)
theorem Ext.hoist {b : Bool} : ∀ (l : List Oper) (gs : List (List AV)) {s s' : St} {hs : List (Option (Nat × List AV))}, Ab.hoist b T l gs s = some (s', hs) → Ext s s'
  | [], gs, s, s', hs, h => by simp only [Ab.hoist, Option.some.injEq, Prod.mk.injEq] at h; obtain ⟨rfl, _⟩ := h; exact Ext.refl _
  | o :: l, gs, s, s', hs, h => by
    simp only [Ab.hoist] at h
    repeat' split at h
    all_goals first
      | (cases h; done)
      | (simp only [Option.some.injEq, Prod.mk.injEq] at h; obtain ⟨rfl, _⟩ := h; first | exact (Ext.newG _ _).trans (Ext.hoist l _ (by assumption)) | exact Ext.hoist l _ (by assumption))
/-- A record laid aside and put back. -/
theorem Ext.aside {s s1 : St} (h : Ext { s with wr := [] } s1) : Ext s { s1 with wr := s1.wr ++ s.wr } := by
  obtain ⟨l, h1, h2⟩ := h.wr
  refine ⟨h.ctr, l, by simp only [h1, List.append_nil], fun g hg => h2 g hg⟩
theorem Ext.log (hc : CallExt call) {ops : Array Oper} : ∀ (l : List Oper) (hs : List (Option (Nat × List AV))) {t t' : TL} {s s' : St} {es : List Entry}, evLog T call ops l hs t s = some (t', s', es) → Ext s s'
  | [], hs, t, t', s, s', es, h => by
    have : evLog T call ops [] hs t s = some (t, s, []) := by cases hs <;> rfl
    rw [this] at h
    simp only [Option.some.injEq, Prod.mk.injEq] at h
    obtain ⟨_, rfl, _⟩ := h
    exact Ext.refl _
  | o :: l, [], t, t', s, s', es, h => by
    simp only [evLog, Option.some.injEq, Prod.mk.injEq] at h
    obtain ⟨_, rfl, _⟩ := h
    exact Ext.refl _
  | o :: l, some (c, cs) :: hs, t, t', s, s', es, h => by
    simp only [evLog] at h
    split at h
    · cases h
    · split at h
      · cases h
      · rename_i h1
        simp only [Option.some.injEq, Prod.mk.injEq] at h
        obtain ⟨_, rfl, _⟩ := h
        exact Ext.log hc l hs h1
  | o :: l, none :: hs, t, t', s, s', es, h => by
    simp only [evLog] at h
    split at h
    · cases h
    · rename_i t1 s1 h1
      split at h
      · cases h
      · rename_i h2
        simp only [Option.some.injEq, Prod.mk.injEq] at h
        obtain ⟨_, rfl, _⟩ := h
        exact (Ext.aside (Ext.step hc h1)).trans (Ext.log hc l hs h2)
theorem Ext.draw (hc : CallExt call) {b : Bool} {gs : List (List AV)} {ops : Array Oper} {t t' : TL} {s s' : St} (h : evDraw T call b gs ops t s = some (t', s')) : Ext s s' := by
  unfold evDraw at h
  split at h
  · cases h
  · rename_i h0
    split at h
    · cases h
    · rename_i h1
      split at h
      · simp only [Option.some.injEq, Prod.mk.injEq] at h
        obtain ⟨_, rfl⟩ := h
        exact (Ext.hoist _ _ h0).trans (Ext.log hc _ _ h1)
      · cases h
theorem Ext.code (hc : CallExt call) : ∀ (n : Nat),
    (∀ (c : Code) {t t' : TL} {s s' : St} {x : Ex}, evCode T call n c t s = some (x, t', s') → Ext s s') ∧
    (∀ (b c : Code) {t t' : TL} {s s' : St} {x : Ex}, evCode.evScope T call n b c t s = some (x, t', s') → Ext s s') := by
  intro n
  induction n with
  | zero => exact ⟨fun c t t' s s' x h => by simp [evCode] at h, fun b c t t' s s' x h => by simp [evCode.evScope] at h⟩
  | succ n ih =>
    obtain ⟨ihc, ihs⟩ := ih
    refine ⟨fun c t t' s s' x h => ?_, fun b c t t' s s' x h => ?_⟩
    · cases c with
      | region id ops draw =>
        cases draw with
        | false =>
          simp only [evCode] at h
          split at h
          · cases h
          · rename_i h1
            simp only [Option.some.injEq, Prod.mk.injEq] at h
            obtain ⟨_, _, rfl⟩ := h
            exact Ext.ops hc _ h1
        | true =>
          simp only [evCode] at h
          split at h
          · split at h
            · cases h
            · rename_i h0
              simp only [Option.some.injEq, Prod.mk.injEq] at h
              obtain ⟨_, _, rfl⟩ := h
              exact Ext.draw hc h0
          · split at h
            · split at h
              · cases h
              · split at h
                · cases h
                · rename_i h0
                  simp only [Option.some.injEq, Prod.mk.injEq] at h
                  obtain ⟨_, _, rfl⟩ := h
                  exact Ext.draw hc h0
            · cases h
      | seq a b =>
        simp only [evCode] at h
        split at h
        · rename_i h1
          exact (ihc a h1).trans (ihc b h)
        · exact ihc a h
      | cond q a b =>
        simp only [evCode] at h
        split at h
        · exact ihc _ h
        · cases h
      | block id b =>
        simp only [evCode] at h
        split at h
        · rename_i h1
          split at h <;> (simp only [Option.some.injEq, Prod.mk.injEq] at h; obtain ⟨_, _, rfl⟩ := h; exact ihc b h1)
        · exact ihc b h
      | loop b =>
        simp only [evCode] at h
        split at h
        · rename_i h1
          exact (ihc b h1).trans (ihc _ h)
        · exact ihc b h
      | scope b =>
        simp only [evCode] at h
        exact ihs b b h
      | _ => simp only [evCode] at h <;> first | (cases h; done) | (simp only [Option.some.injEq, Prod.mk.injEq] at h; obtain ⟨_, _, rfl⟩ := h; exact Ext.refl _)
    · simp only [evCode.evScope] at h
      split at h
      · rename_i h1
        split at h
        · exact (ihc c h1).trans (ihs _ _ h)
        · simp only [Option.some.injEq, Prod.mk.injEq] at h
          obtain ⟨_, _, rfl⟩ := h
          exact ihc c h1
      · exact ihc c h
theorem Ext.calls {P : Program} : ∀ (n : Nat), CallExt (evCall P T n)
  | 0, f, args, s, v, s', h => by simp [evCall] at h
  | n + 1, f, args, s, v, s', h => by
    simp only [evCall] at h
    repeat' split at h
    all_goals first
      | (cases h; done)
      | (simp only [Option.some.injEq, Prod.mk.injEq] at h; obtain ⟨_, rfl⟩ := h; exact (Ext.code (Ext.calls n) n).1 _ (by assumption))
end
end Go.Ab
