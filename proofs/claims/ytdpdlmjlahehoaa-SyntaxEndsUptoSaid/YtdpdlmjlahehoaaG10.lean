/- Regions in the text's order; code; calls. -/
import Derived.Test.YtdpdlmjlahehoaaG9
import Derived.Test.YtdpdlmjlahehoaaGE
import Derived.Scope
namespace Go.Ab
open Go.RowKit
section
variable {P : Program} {w0 : World} {B0 : Nat} {T : Tab}
variable {call : FuncId → List AV → St → Option (AV × St)}

/-- What the evaluator of calls says holds. -/
def CallOk (P : Program) (w0 : World) (B0 : Nat) (call : FuncId → List AV → St → Option (AV × St)) : Prop :=
  ∀ f args (s : St) v s', call f args s = some (v, s') → Callable P f ∧ ∀ (ρ : Loc) (w : World) (args' : Array Value), Sim w0 B0 ρ s w → CR w0 B0 ρ args args'.toList →
    Calls P f args' w fun e w' => ∃ v' ρ', e = .returned v' ∧ ρ.lex s.ctr ρ' ∧ Sim w0 B0 ρ' s' w' ∧ VR w0 B0 ρ' v v'

theorem guard_sound {ρ : Loc} {t : TL} {a : Act} (ht : TR w0 B0 ρ t a.tmps) {ops : Array Oper} {o : Oper} {b : Bool} (h : guardA ops t o.guard = some b) : Region.wanted o (yielded ops a.tmps) = b := by
  unfold guardA at h
  unfold Region.wanted
  split at h
  · rename_i hg
    simp only [Option.some.injEq] at h
    subst h
    rw [hg]
  · rename_i j want hg
    rw [hg]
    simp only
    cases hd : (ops[j]?).bind (·.dst) with
    | none =>
      simp only [hd, Option.some.injEq] at h
      subst h
      simp [yielded, hd]
    | some d =>
      simp only [hd] at h
      have hy : yielded ops a.tmps j = match a.tmps[d]? with | some (.bool b) => some b | _ => none := by simp [yielded, hd]; rfl
      rw [hy]
      cases hv : a.tmps[d]? with
      | none =>
        have hs : a.tmps.size ≤ d := by rwa [Array.getElem?_eq_none_iff] at hv
        rw [ht.out d hs] at h
        simp only [Option.some.injEq] at h
        subst h
        rfl
      | some v =>
        have hr := ht.at_ d v hv
        generalize t.get d = u at h hr
        cases hr with
        | bool q =>
          simp only [Option.some.injEq] at h
          subst h
          rfl
        | poison => cases h
        | _ =>
          simp only [Option.some.injEq] at h
          subst h
          rfl


/-- One operation, done or passed over. -/
theorem step_sound (hT : TabOk P T) (hcall : CallOk P w0 B0 call) {ops : Array Oper} {i : Nat} {o : Oper} (hi : ops[i]? = some o) {ρ : Loc} {t t' : TL} {s s' : St} {a : Act} {w : World} (ht : TR w0 B0 ρ t a.tmps) (hs : Sim w0 B0 ρ s w)
    (h : evStep T call ops o t s = some (t', s')) {Q : Exit → Act → World → Prop} {K : Act → World → Prop}
    (hK : ∀ (ρ' : Loc) (v : AV) (v' : Value) (w' : World), ρ.lex s.ctr ρ' → Sim w0 B0 ρ' s' w' → VR w0 B0 ρ' v v' → t' = putA t o.dst v → K (a.put o.dst v') w') : wpOp P ops Q i K a w := by
  unfold evStep at h
  unfold wpOp
  rw [hi]
  simp only
  cases hg : guardA ops t o.guard with
  | none => simp [hg] at h
  | some b =>
    have hw := guard_sound ht hg
    cases b with
    | false =>
      simp only [hg, Option.some.injEq, Prod.mk.injEq] at h
      obtain ⟨rfl, rfl⟩ := h
      rw [if_neg (by simp [hw])]
      exact hK ρ .undef _ w (Loc.lex_refl _ _) hs .undef rfl
    | true =>
      rw [if_pos hw]
      refine .inl ?_
      simp only [hg] at h
      cases hop : evOp T o.op t s with
      | none => simp [hop] at h
      | some rs =>
        obtain ⟨r, s1⟩ := rs
        have hos := op_sound (o := o) hT ht hs hop
        cases r with
        | val v =>
          simp only [hop, Option.some.injEq, Prod.mk.injEq] at h
          obtain ⟨rfl, rfl⟩ := h
          cases hos with
          | val _ v' w' ρ' h1 h2 h3 h4 =>
          unfold Oper.wp
          rw [h1, Oper.upon_value]
          exact hK ρ' v v' w' h2 h3 h4 rfl
        | skip =>
          simp only [hop, Option.some.injEq, Prod.mk.injEq] at h
          obtain ⟨rfl, rfl⟩ := h
          cases hos with
          | skip w' h1 h2 =>
          unfold Oper.wp
          rw [h1, Oper.upon_skip]
          exact hK ρ .undef _ w' (Loc.lex_refl _ _) h2 .undef rfl
        | call f args =>
          simp only [hop] at h
          cases hc : call f args s1 with
          | none => simp [hc] at h
          | some vs =>
            obtain ⟨v, s2⟩ := vs
            simp only [hc, Option.some.injEq, Prod.mk.injEq] at h
            obtain ⟨rfl, rfl⟩ := h
            obtain ⟨hcb, hcs⟩ := hcall f args s1 v s2 hc
            cases hos with
            | call _ _ args' h1 h2 h3 =>
            unfold Oper.wp
            rw [h1 hcb, Oper.upon_enter]
            refine (hcs ρ w args' h2 h3).mono ?_
            rintro e w' ⟨v', ρ', rfl, k1, k2, k3⟩
            exact hK ρ' v v' w' (Loc.lex_trans (Loc.lex_refl _ _) k1 (Ext.op hop).ctr) k2 k3 rfl

theorem ops_sound (hT : TabOk P T) (hcall : CallOk P w0 B0 call) (hce : CallExt call) {ops : Array Oper} {Q : Exit → Act → World → Prop} : ∀ (l : List Oper) (k : Nat) {ρ : Loc} {t t' : TL} {s s' : St} {a : Act} {w : World},
    (∀ j, l[j]? = ops[k + j]?) → TR w0 B0 ρ t a.tmps → Sim w0 B0 ρ s w → evOps T call ops l t s = some (t', s') →
    (∀ (ρ' : Loc) (a' : Act) (w' : World), ρ.lex s.ctr ρ' → Sim w0 B0 ρ' s' w' → TR w0 B0 ρ' t' a'.tmps → a'.defers = a.defers → Q .normal a' w') → wpOps P ops Q (List.range' k l.length) a w
  | [], k, ρ, t, t', s, s', a, w, hl, ht, hs, h, hQ => by
    simp only [evOps, Option.some.injEq, Prod.mk.injEq] at h
    obtain ⟨rfl, rfl⟩ := h
    exact hQ ρ a w (Loc.lex_refl _ _) hs ht rfl
  | o :: l, k, ρ, t, t', s, s', a, w, hl, ht, hs, h, hQ => by
    simp only [evOps] at h
    cases h1 : evStep T call ops o t s with
    | none => simp [h1] at h
    | some ts =>
      obtain ⟨t1, s1⟩ := ts
      simp only [h1] at h
      rw [List.length_cons, List.range'_succ, wpOps_cons]
      have h0 := hl 0
      simp only [List.getElem?_cons_zero, Nat.add_zero] at h0
      refine step_sound hT hcall h0.symm ht hs h1 (fun ρ' v v' w' k1 k2 k3 k4 => ?_)
      subst k4
      refine ops_sound hT hcall hce l (k + 1) (fun j => by have := hl (j + 1); rw [Nat.add_assoc, Nat.add_comm 1 j]; simpa using this) ((TR.mono k1.1 ht).put k3 o.dst) k2 h (fun ρ2 a2 w2 q1 q2 q3 q4 => ?_)
      exact hQ ρ2 a2 w2 (Loc.lex_trans k1 q1 (Ext.step hce h1).ctr) q2 q3 (by rw [q4]; cases o.dst <;> rfl)

/-- How code ends, abstractly and in the model. -/
def ExR : Ex → Exit → Prop
  | .normal, .normal => True
  | .exit i, .exit j => i = j
  | .goto l, .goto m => l = m
  | .ret, .ret => True
  | _, _ => False

/-- What holds behind code. -/
def After (w0 : World) (B0 : Nat) (ρ : Loc) (c : Nat) (x : Ex) (t : TL) (s : St) (d : List Deferred) : Exit → Act → World → Prop := fun e a w =>
  ExR x e ∧ a.defers = d ∧ ∃ ρ' : Loc, ρ.lex c ρ' ∧ Sim w0 B0 ρ' s w ∧ TR w0 B0 ρ' t a.tmps

theorem After.mono {ρ ρ' : Loc} {c c' : Nat} (h : ρ.lex c ρ') (hc : c ≤ c') {x : Ex} {t : TL} {s : St} {d : List Deferred} {e : Exit} {a : Act} {w : World} (k : After w0 B0 ρ' c' x t s d e a w) : After w0 B0 ρ c x t s d e a w := by
  obtain ⟨k1, k2, ρ2, k3, k4, k5⟩ := k
  exact ⟨k1, k2, ρ2, Loc.lex_trans h k3 hc, k4, k5⟩

/-- In the middle of a loop. -/
def LoopAt (P : Program) (c : Code) (Q : Exit → Act → World → Prop) (a : Act) (w : World) : Prop :=
  ∀ (b : Frame) (k : List Item) (cs : List Frame), ∃ e a' w', Q e a' w' ∧ Arrives P (lone (b.at a (.code c :: .inLoop c :: k)) cs w) b k cs e a' w'
theorem LoopAt.loop {c : Code} {Q : Exit → Act → World → Prop} {a : Act} {w : World} (h : LoopAt P c Q a w) : (Code.loop c).wp P Q a w := by
  intro b k cs
  obtain ⟨e, a', w', hq, harr⟩ := h b k cs
  exact ⟨e, a', w', hq, .of_steps (.one step_loop) harr⟩
theorem LoopAt.of {c : Code} {Q : Exit → Act → World → Prop} {a : Act} {w : World} (h : c.wp P (Exit.then (LoopAt P c Q) Q) a w) : LoopAt P c Q a w := by
  intro b k cs
  obtain ⟨e, a₁, w₁, hq, harr⟩ := h b (.inLoop c :: k) cs
  cases e with
  | normal =>
    obtain ⟨e₂, a₂, w₂, hq₂, harr₂⟩ := hq b k cs
    exact ⟨e₂, a₂, w₂, hq₂, .of_steps (Steps.trans harr (.one step_inLoop)) harr₂⟩
  | exit id => exact ⟨_, a₁, w₁, hq, .pass (x := .inLoop c) rfl (fun _ _ => .inl (by simp)) harr⟩
  | goto l => exact ⟨_, a₁, w₁, hq, .pass (x := .inLoop c) rfl (fun _ _ => .inl (by simp)) harr⟩
  | ret => exact ⟨_, a₁, w₁, hq, .pass (x := .inLoop c) rfl (fun _ _ => .inl (by simp)) harr⟩
  | panic ch => exact ⟨_, a₁, w₁, hq, .pass (x := .inLoop c) rfl (fun _ _ => .inl (by simp)) harr⟩
  | outgrown => exact ⟨_, a₁, w₁, hq, .pass (x := .inLoop c) rfl (fun _ _ => .inl (by simp)) harr⟩
/-- In the middle of a scope. -/
def ScopeAt (P : Program) (c r : Code) (Q : Exit → Act → World → Prop) (a : Act) (w : World) : Prop :=
  ∀ (b : Frame) (k : List Item) (cs : List Frame), ∃ e a' w', Q e a' w' ∧ Arrives P (lone (b.at a (.code r :: .inScope c :: k)) cs w) b k cs e a' w'
theorem ScopeAt.scope {c : Code} {Q : Exit → Act → World → Prop} {a : Act} {w : World} (h : ScopeAt P c c Q a w) : (Code.scope c).wp P Q a w := by
  intro b k cs
  obtain ⟨e, a', w', hq, harr⟩ := h b k cs
  exact ⟨e, a', w', hq, .of_steps (.one step_scope) harr⟩
/-- A jump within the scope goes on in it. -/
def scopeQ (P : Program) (c : Code) (Q : Exit → Act → World → Prop) : Exit → Act → World → Prop
  | .goto l, a, w => match findLabel c l with
    | some r => ScopeAt P c r Q a w
    | none => Q (.goto l) a w
  | e, a, w => Q e a w
theorem ScopeAt.of {c r : Code} {Q : Exit → Act → World → Prop} {a : Act} {w : World} (h : r.wp P (scopeQ P c Q) a w) : ScopeAt P c r Q a w := by
  intro b k cs
  obtain ⟨e, a₁, w₁, hq, harr⟩ := h b (.inScope c :: k) cs
  cases e with
  | normal => exact ⟨.normal, a₁, w₁, hq, Steps.trans harr (.one step_inScope)⟩
  | exit id => exact ⟨.exit id, a₁, w₁, hq, fun k' hk => harr k' (by simp [exitTo, hk])⟩
  | goto l =>
    simp only [scopeQ] at hq
    cases hf : findLabel c l with
    | some r' =>
      rw [hf] at hq
      obtain ⟨e₂, a₂, w₂, hq₂, harr₂⟩ := hq b k cs
      exact ⟨e₂, a₂, w₂, hq₂, .of_steps (harr _ (by simp [gotoIn, hf])) harr₂⟩
    | none =>
      rw [hf] at hq
      exact ⟨.goto l, a₁, w₁, hq, fun k' hk => harr k' (by simp [gotoIn, hf, hk])⟩
  | ret => exact ⟨_, a₁, w₁, hq, harr⟩
  | panic ch => exact ⟨_, a₁, w₁, hq, harr⟩
  | outgrown => exact ⟨_, a₁, w₁, hq, harr⟩

/-- What draws are asked to bear (proved apart). -/
def DrawOk (P : Program) (w0 : World) (B0 : Nat) (T : Tab) (call : FuncId → List AV → St → Option (AV × St)) : Prop :=
  ∀ (b : Bool) (gs : List (List AV)) (id : Nat) (ops : Array Oper) (ρ : Loc) (t t' : TL) (s s0 s' : St) (hs : List (Option (Nat × List AV))) (l : List Entry) (a : Act) (w : World), TR w0 B0 ρ t a.tmps → Sim w0 B0 ρ s w → drawOk b ops = true →
    hoist b T ops.toList gs s = some (s0, hs) → evLog T call ops ops.toList hs t s0 = some (t', s', l) → logOk (Region.before ops) l = true → (Code.region id ops true).wp P (After w0 B0 ρ s.ctr .normal t' s' a.defers) a w

theorem draw_one (hdraw : DrawOk P w0 B0 T call) {b : Bool} {gs : List (List AV)} {id : Nat} {ops : Array Oper} {ρ : Loc} {t t' : TL} {s s' : St} {a : Act} {w : World} (ht : TR w0 B0 ρ t a.tmps) (hs : Sim w0 B0 ρ s w) (hd : drawOk b ops = true)
    (h : evDraw T call b gs ops t s = some (t', s')) : (Code.region id ops true).wp P (After w0 B0 ρ s.ctr .normal t' s' a.defers) a w := by
  unfold evDraw at h
  cases hh : hoist b T ops.toList gs s with
  | none => simp [hh] at h
  | some sh =>
    obtain ⟨s0, hl⟩ := sh
    simp only [hh] at h
    cases h1 : evLog T call ops ops.toList hl t s0 with
    | none => simp [h1] at h
    | some ts =>
      obtain ⟨t1, s1, l⟩ := ts
      simp only [h1] at h
      split at h
      · rename_i hlog
        simp only [Option.some.injEq, Prod.mk.injEq] at h
        obtain ⟨rfl, rfl⟩ := h
        exact hdraw b gs id ops ρ t t1 s s0 s1 hl l a w ht hs hd hh h1 hlog
      · cases h

theorem code_sound (hT : TabOk P T) (hcall : CallOk P w0 B0 call) (hce : CallExt call) (hdraw : DrawOk P w0 B0 T call) : ∀ (n : Nat),
    (∀ (c : Code) {ρ : Loc} {t t' : TL} {s s' : St} {x : Ex} {a : Act} {w : World}, TR w0 B0 ρ t a.tmps → Sim w0 B0 ρ s w → evCode T call n c t s = some (x, t', s') → c.wp P (After w0 B0 ρ s.ctr x t' s' a.defers) a w) ∧
    (∀ (b c : Code) {ρ : Loc} {t t' : TL} {s s' : St} {x : Ex} {a : Act} {w : World}, TR w0 B0 ρ t a.tmps → Sim w0 B0 ρ s w → evCode.evScope T call n b c t s = some (x, t', s') → ScopeAt P b c (After w0 B0 ρ s.ctr x t' s' a.defers) a w) ∧
    (∀ (c : Code) {ρ : Loc} {t t' : TL} {s s' : St} {x : Ex} {a : Act} {w : World}, TR w0 B0 ρ t a.tmps → Sim w0 B0 ρ s w → evCode T call n (.loop c) t s = some (x, t', s') → LoopAt P c (After w0 B0 ρ s.ctr x t' s' a.defers) a w) := by
  intro n
  induction n with
  | zero => exact ⟨fun c ρ t t' s s' x a w _ _ h => by simp [evCode] at h, fun b c ρ t t' s s' x a w _ _ h => by simp [evCode.evScope] at h, fun c ρ t t' s s' x a w _ _ h => by simp [evCode] at h⟩
  | succ n ih =>
    obtain ⟨ihc, ihs, ihl⟩ := ih
    have hloop : ∀ (c : Code) {ρ : Loc} {t t' : TL} {s s' : St} {x : Ex} {a : Act} {w : World}, TR w0 B0 ρ t a.tmps → Sim w0 B0 ρ s w → evCode T call (n + 1) (.loop c) t s = some (x, t', s') →
        LoopAt P c (After w0 B0 ρ s.ctr x t' s' a.defers) a w := by
      intro c ρ t t' s s' x a w ht hs h
      simp only [evCode] at h
      refine LoopAt.of ?_
      cases h1 : evCode T call n c t s with
      | none => simp [h1] at h
      | some r =>
        obtain ⟨x1, t1, s1⟩ := r
        refine wp_mono (ihc c ht hs h1) (fun e a' w' ⟨k1, k2, ρ', k3, k4, k5⟩ => ?_)
        cases x1 with
        | normal =>
          simp only [h1] at h
          cases e <;> simp only [ExR] at k1
          simp only [Exit.then]
          have := ihl c k5 k4 h
          intro fb k cs
          obtain ⟨e2, a2, w2, q1, q2⟩ := this fb k cs
          rw [k2] at q1
          exact ⟨e2, a2, w2, q1.mono k3 ((Ext.code hce n).1 _ h1).ctr, q2⟩
        | _ =>
          simp only [h1, Option.some.injEq, Prod.mk.injEq] at h
          obtain ⟨rfl, rfl, rfl⟩ := h
          cases e <;> simp only [ExR] at k1 <;> exact ⟨k1, k2, ρ', k3, k4, k5⟩
    refine ⟨fun c ρ t t' s s' x a w ht hs h => ?_, fun b c ρ t t' s s' x a w ht hs h => ?_, fun c ρ t t' s s' x a w ht hs h => hloop c ht hs h⟩
    · cases c with
      | skip =>
        simp only [evCode, Option.some.injEq, Prod.mk.injEq] at h
        obtain ⟨rfl, rfl, rfl⟩ := h
        exact wp_skip ⟨trivial, rfl, ρ, Loc.lex_refl _ _, hs, ht⟩
      | label l =>
        simp only [evCode, Option.some.injEq, Prod.mk.injEq] at h
        obtain ⟨rfl, rfl, rfl⟩ := h
        exact wp_label ⟨trivial, rfl, ρ, Loc.lex_refl _ _, hs, ht⟩
      | exit id =>
        simp only [evCode, Option.some.injEq, Prod.mk.injEq] at h
        obtain ⟨rfl, rfl, rfl⟩ := h
        exact wp_exit ⟨rfl, rfl, ρ, Loc.lex_refl _ _, hs, ht⟩
      | goto l =>
        simp only [evCode, Option.some.injEq, Prod.mk.injEq] at h
        obtain ⟨rfl, rfl, rfl⟩ := h
        exact wp_goto ⟨rfl, rfl, ρ, Loc.lex_refl _ _, hs, ht⟩
      | ret =>
        simp only [evCode, Option.some.injEq, Prod.mk.injEq] at h
        obtain ⟨rfl, rfl, rfl⟩ := h
        exact wp_ret ⟨trivial, rfl, ρ, Loc.lex_refl _ _, hs, ht⟩
      | region id ops draw =>
        cases draw with
        | false =>
          simp only [evCode] at h
          cases h1 : evOps T call ops ops.toList t s with
          | none => simp [h1] at h
          | some ts =>
            obtain ⟨t1, s1⟩ := ts
            simp only [h1, Option.some.injEq, Prod.mk.injEq] at h
            obtain ⟨rfl, rfl, rfl⟩ := h
            refine wp_region ?_
            have := ops_sound (Q := After w0 B0 ρ s.ctr .normal t1 s1 a.defers) hT hcall hce ops.toList 0 (fun j => by simp) ht hs h1 (fun ρ' a' w' k1 k2 k3 k4 => ⟨trivial, k4, ρ', k1, k2, k3⟩)
            rwa [Array.length_toList, ← List.range_eq_range'] at this
        | true =>
          simp only [evCode] at h
          split at h
          · rename_i hd
            split at h
            · cases h
            · rename_i h1
              simp only [Option.some.injEq, Prod.mk.injEq] at h
              obtain ⟨rfl, rfl, rfl⟩ := h
              exact draw_one hdraw ht hs hd h1
          · split at h
            · rename_i hd
              split at h
              · cases h
              · split at h
                · cases h
                · rename_i h1
                  simp only [Option.some.injEq, Prod.mk.injEq] at h
                  obtain ⟨rfl, rfl, rfl⟩ := h
                  exact draw_one hdraw ht hs hd h1
            · cases h
      | seq c1 c2 =>
        simp only [evCode] at h
        refine wp_seq ?_
        cases h1 : evCode T call n c1 t s with
        | none => simp [h1] at h
        | some r =>
          obtain ⟨x1, t1, s1⟩ := r
          refine wp_mono (ihc c1 ht hs h1) (fun e a' w' ⟨k1, k2, ρ', k3, k4, k5⟩ => ?_)
          cases x1 with
          | normal =>
            simp only [h1] at h
            cases e <;> simp only [ExR] at k1
            simp only [Exit.then]
            refine wp_mono (ihc c2 k5 k4 h) (fun e2 a2 w2 k => ?_)
            rw [k2] at k
            exact k.mono k3 ((Ext.code hce n).1 _ h1).ctr
          | _ =>
            simp only [h1, Option.some.injEq, Prod.mk.injEq] at h
            obtain ⟨rfl, rfl, rfl⟩ := h
            cases e <;> simp only [ExR] at k1 <;> exact ⟨k1, k2, ρ', k3, k4, k5⟩
      | cond q c1 c2 =>
        simp only [evCode] at h
        split at h
        · rename_i b hb
          have hr := ht.eval hb
          generalize he : a.eval q = q' at hr
          cases hr
          refine wp_cond he ?_
          exact ihc _ ht hs h
        · cases h
      | block id c =>
        simp only [evCode] at h
        refine wp_block ?_
        cases h1 : evCode T call n c t s with
        | none => simp [h1] at h
        | some r =>
          obtain ⟨x1, t1, s1⟩ := r
          refine wp_mono (ihc c ht hs h1) (fun e a' w' ⟨k1, k2, ρ', k3, k4, k5⟩ => ?_)
          cases x1 with
          | exit id' =>
            simp only [h1] at h
            cases e <;> simp only [ExR] at k1
            subst k1
            simp only [Exit.inBlock]
            split at h
            · rename_i hid
              simp only [Option.some.injEq, Prod.mk.injEq] at h
              obtain ⟨rfl, rfl, rfl⟩ := h
              rw [if_pos hid]
              exact ⟨trivial, k2, ρ', k3, k4, k5⟩
            · rename_i hid
              simp only [Option.some.injEq, Prod.mk.injEq] at h
              obtain ⟨rfl, rfl, rfl⟩ := h
              rw [if_neg hid]
              exact ⟨rfl, k2, ρ', k3, k4, k5⟩
          | _ =>
            simp only [h1, Option.some.injEq, Prod.mk.injEq] at h
            obtain ⟨rfl, rfl, rfl⟩ := h
            cases e <;> simp only [ExR] at k1 <;> exact ⟨k1, k2, ρ', k3, k4, k5⟩
      | loop c => exact LoopAt.loop (hloop c ht hs h)
      | scope c =>
        simp only [evCode] at h
        exact ScopeAt.scope (ihs c c ht hs h)
      | rangeFunc f ps as b => simp [evCode] at h
      | refuse why => simp [evCode] at h
    · simp only [evCode.evScope] at h
      refine ScopeAt.of ?_
      cases h1 : evCode T call n c t s with
      | none => simp [h1] at h
      | some r =>
        obtain ⟨x1, t1, s1⟩ := r
        refine wp_mono (ihc c ht hs h1) (fun e a' w' ⟨k1, k2, ρ', k3, k4, k5⟩ => ?_)
        cases x1 with
        | goto l =>
          simp only [h1] at h
          cases e <;> simp only [ExR] at k1
          subst k1
          simp only [scopeQ]
          cases hf : findLabel b l with
          | some rest =>
            simp only [hf] at h
            have := ihs b rest k5 k4 h
            intro fb k cs
            obtain ⟨e2, a2, w2, q1, q2⟩ := this fb k cs
            rw [k2] at q1
            exact ⟨e2, a2, w2, q1.mono k3 ((Ext.code hce n).1 _ h1).ctr, q2⟩
          | none =>
            simp only [hf, Option.some.injEq, Prod.mk.injEq] at h
            obtain ⟨rfl, rfl, rfl⟩ := h
            exact ⟨rfl, k2, ρ', k3, k4, k5⟩
        | _ =>
          simp only [h1, Option.some.injEq, Prod.mk.injEq] at h
          obtain ⟨rfl, rfl, rfl⟩ := h
          cases e <;> simp only [ExR] at k1 <;> exact ⟨k1, k2, ρ', k3, k4, k5⟩
end
end Go.Ab
