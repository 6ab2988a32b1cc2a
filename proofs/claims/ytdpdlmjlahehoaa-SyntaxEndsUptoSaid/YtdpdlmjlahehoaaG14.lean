/- The evaluator is right: what it says of a call holds of the call. -/
import Derived.Test.YtdpdlmjlahehoaaG13
namespace Go.Ab
open Go.RowKit
section
variable {P : Program} {w0 : World} {B0 : Nat} {T : Tab}
variable {call : FuncId → List AV → St → Option (AV × St)}

theorem draw_sound (hm : P.follows .mixedOrders = true) (hT : TabOk P T) (hcall : CallOk P w0 B0 call) (hce : CallExt call) : DrawOk P w0 B0 T call := by
  intro b gs id ops ρ t t' s s0 s' hs l a w ht hsim hd hh hlog hok
  have HS := hoist_spec _ _ _ _ _ hh
  have hx := Ext.hoist _ _ hh
  obtain ⟨tr, tr0, trn, hlen, hE, hS⟩ := log_spec ops.toList 0 hs t t' s0 s' l HS.len hlog
  simp only [Nat.zero_add, Array.length_toList, Array.getElem?_toList] at trn hlen hE hS
  have hhl : hs.length = ops.size := by rw [HS.len]; simp
  have hlogAt : ∀ i x, l[i]? = some x → (∀ g, x.rd = some g → ∀ e y, l[e]? = some y → aheadB (Region.before ops) e i = true ∨ aheadB (Region.before ops) i e = true ∨ g ∉ y.wr) ∧
      (∀ g, x.al = some g → ∀ e y, l[e]? = some y → aheadB (Region.before ops) i e = true ∨ g ∉ y.wr) := by
    intro i x hi
    have hil : i < l.length := (List.getElem?_eq_some_iff.1 hi).1
    unfold logOk at hok
    have h1 := List.all_eq_true.1 hok i (List.mem_range.2 hil)
    simp only [hi, Bool.and_eq_true] at h1
    refine ⟨fun g hg e y he => ?_, fun g hg e y he => ?_⟩
    · have h2 := h1.1
      simp only [hg] at h2
      have h3 := List.all_eq_true.1 h2 e (List.mem_range.2 (List.getElem?_eq_some_iff.1 he).1)
      simp only [he, Bool.or_eq_true, Bool.not_eq_true'] at h3
      rcases h3 with (h3 | h3) | h3
      · exact .inl h3
      · exact .inr (.inl h3)
      · exact .inr (.inr (by simpa using h3))
    · have h2 := h1.2
      simp only [hg] at h2
      have h3 := List.all_eq_true.1 h2 e (List.mem_range.2 (List.getElem?_eq_some_iff.1 he).1)
      simp only [he, Bool.or_eq_true, Bool.not_eq_true'] at h3
      rcases h3 with h3 | h3
      · exact .inl h3
      · exact .inr (by simpa using h3)
  unfold drawOk at hd
  rw [Bool.and_eq_true] at hd
  have hdn : ∀ (j : Nat) (o : Oper), ops[j]? = some o → ∀ e ∈ o.after, Region.binds .any e = true → e.on < j := by
    intro j o ho e he hb
    have h1 := List.all_eq_true.1 hd.1 j (List.mem_range.2 (Array.getElem?_eq_some_iff.1 ho).1)
    simp only [ho] at h1
    have h2 := Array.all_eq_true_iff_forall_mem.1 h1 e he
    simpa [hb] using h2
  have hup : ∀ (j : Nat), j < ops.size → ∀ i, aheadB (Region.before ops) i j = true → i < j := by
    intro j
    induction j using Nat.strongRecOn with
    | _ j ih =>
      intro hj i h
      obtain ⟨e, he, hb, h⟩ := before_spec (o := ops[j]) (by simp [hj]) h
      have hlt := hdn j ops[j] (by simp [hj]) e he hb
      rcases h with h | ⟨_, h⟩
      · omega
      · have := ih e.on hlt (by omega) i h
        omega
  have htwo : ∀ (i j : Nat) (x y : Oper), ops[i]? = some x → ops[j]? = some y → i < j → aheadB (Region.before ops) i j = true ∨ (Oper.apart ops x y = true ∧ Oper.apart ops y x = true ∧ ¬ (Oper.turns b x = true ∧ Oper.turns b y = true)) := by
    intro i j x y hi hj hlt
    have h1 := List.all_eq_true.1 hd.2 j (List.mem_range.2 (Array.getElem?_eq_some_iff.1 hj).1)
    have h2 := List.all_eq_true.1 h1 i (List.mem_range.2 hlt)
    simp only [hi, hj, Bool.or_eq_true, Bool.and_eq_true, Bool.not_eq_true'] at h2
    rcases h2 with h2 | ⟨⟨h2, h3⟩, h4⟩
    · exact .inl h2
    · exact .inr ⟨h2, h3, fun ⟨q1, q2⟩ => by rw [q1, q2] at h4; simp at h4⟩
  have R : Reg b T call ops hs s.ctr tr l := {
    hl := hhl
    earlyAt := fun i o c cs ho hc => ⟨(hE i o c cs ho hc).1, (hE i o c cs ho hc).2.1⟩
    stepAt := fun i o ho hc => by obtain ⟨s1, h1, h2, _⟩ := hS i o ho hc; exact ⟨s1, h1, h2⟩
    ear := fun i o c cs ho hc => by rw [tr0]; exact HS.ear i o c cs (by simpa using ho) hc
    late := fun i o ho hc => HS.late i o (by simpa using ho) hc
    inj := HS.inj
    lt := fun i c cs hc => by rw [tr0]; exact HS.lt i c cs hc
    rd := fun i e o oe g se ho hc hg hr hoe hce' hst => by
      obtain ⟨s1, h1, h2, h3⟩ := hS i o ho hc
      obtain ⟨s2, k1, k2, k3⟩ := hS e oe hoe hce'
      rw [hst] at k1
      cases k1
      exact (hlogAt i _ h3).1 g (by simp [hg, hr]) e _ k3
    al := fun i e oe c cs se hc hoe hce' hst => by
      have hi : i < ops.size := by rw [← hhl]; exact (List.getElem?_eq_some_iff.1 hc).1
      obtain ⟨_, _, h3⟩ := hE i ops[i] c cs (by simp [hi]) hc
      obtain ⟨s2, k1, k2, k3⟩ := hS e oe hoe hce'
      rw [hst] at k1
      cases k1
      exact (hlogAt i _ h3).2 c rfl e _ k3
    two := fun i j x y hi hj hne => by
      rcases Nat.lt_or_gt_of_ne hne with hlt | hlt
      · rcases htwo i j x y hi hj hlt with h | ⟨h, _, h2⟩
        · exact .inl h
        · exact .inr (.inr ⟨h, h2⟩)
      · rcases htwo j i y x hj hi hlt with h | ⟨_, h, h2⟩
        · exact .inr (.inl h)
        · exact .inr (.inr ⟨h, fun q => h2 ⟨q.2, q.1⟩⟩)
    up := fun i j h hj => hup j hj i h
    dn := hdn }
  refine wp_region_any hm ?_
  refine draw_steps (m := 0) (ρ := ρ) (t := t) (ρ0 := ρ) (d0 := a.defers) hT hcall hce R (by rw [tr0]; exact hx.ctr) (fun ρ' a' w' k1 k2 k3 k4 => ?_) ops.size _ a _ ?_ ?_
  · rw [trn] at k2 k3
    exact ⟨trivial, k4, ρ', k1, k2, k3⟩
  · simp [List.countP_replicate]
  · have hfalse : ∀ j, (Array.replicate ops.size false).getD j false = false := fun j => by
      simp only [Array.getD_eq_getD_getElem?, Array.getElem?_replicate]
      split <;> rfl
    refine ⟨by simp, fun j o hj h => (by rw [hfalse] at h; cases h), ht, fun d => ⟨0, by omega, (by rw [tr0]), fun j o hj hd => (by rw [hfalse]; simp)⟩, (by rw [tr0]), by omega, fun e o h1 h2 h3 => (by rw [hfalse]; simp), ?_, fun i c cs h1 _ j => ?_, Loc.lex_refl _ _, rfl⟩
    · rw [tr0]
      -- the early variables' groups are there; nothing of them lies anywhere yet
      have grow : ∀ (l : List Oper) (gs : List (List AV)) (s s' : St) (hs : List (Option (Nat × List AV))), hoist b T l gs s = some (s', hs) → ∀ {w : World}, Sim w0 B0 ρ s w → Sim w0 B0 ρ s' w := by
        intro l
        induction l with
        | nil => intro gs s s' hs h w hw; simp only [hoist, Option.some.injEq, Prod.mk.injEq] at h; obtain ⟨rfl, _⟩ := h; exact hw
        | cons o l ih =>
          intro gs s s' hs h w hw
          simp only [hoist] at h
          repeat' split at h
          all_goals first
            | (cases h; done)
            | (rename_i h2; simp only [Option.some.injEq, Prod.mk.injEq] at h; obtain ⟨rfl, _⟩ := h; first | exact ih _ _ _ _ h2 (hw.newG _) | exact ih _ _ _ _ h2 hw)
      exact (grow _ _ _ _ _ hh hsim).drew
    · cases hq : ρ c j with
      | none => rfl
      | some x =>
        have h2 := hsim.ctr _ _ _ hq
        have h3 := (HS.lt i c cs h1).1
        omega

/-- No function of the program is the one that the model answers by itself. -/
def NoNG (P : Program) : Prop := ∀ (f : FuncId) (fn : Func), P.funcs[f]? = some fn → (fn.name == "runtime.NumGoroutine") = false

def resF (tm : Array Value) : ResultVar → Sem Value
  | .tmp t => pure (tm.getD t Go.undef)
  | .cell a t => do loadVar t (← asAddr (tm.getD a Go.undef))
theorem results_eq (fn : Func) (tm : Array Value) : results fn tm = (do let vs ← fn.results.mapM (resF tm); pure (if h : vs.size = 1 then vs[0] else .tuple vs)) := rfl
theorem getD_VR {ρ : Loc} {t : TL} {a : Act} (h : TR w0 B0 ρ t a.tmps) (i : Nat) : VR w0 B0 ρ (t.get i) (a.tmps.getD i Go.undef) := h.getD i
theorem run_resM (hT : TabOk P T) {ρ : Loc} {t : TL} {s : St} {a : Act} {w : World} (ht : TR w0 B0 ρ t a.tmps) (hs : Sim w0 B0 ρ s w) : ∀ {l : List ResultVar} {us : List AV}, resA T t s l = some us →
    ∃ vs, (l.mapM (resF a.tmps)).run P w = .ok vs w ∧ CR w0 B0 ρ us vs
  | [], us, h => by
    simp only [resA, Option.some.injEq] at h
    subst h
    exact ⟨[], by simp, CR.nil⟩
  | .tmp i :: l, us, h => by
    simp only [resA] at h
    cases h1 : resA T t s l with
    | none => simp [h1] at h
    | some vs =>
      simp only [h1, Option.some.injEq] at h
      subst h
      obtain ⟨vs', k1, k2⟩ := run_resM hT ht hs h1
      exact ⟨a.tmps.getD i Go.undef :: vs', by simp [List.mapM_cons, resF, k1], CR.cons (getD_VR ht i) k2⟩
  | .cell q tt :: l, us, h => by
    simp only [resA] at h
    have hr := getD_VR ht q
    split at h
    · rename_i i g j off hti hg
      rw [hg] at hr
      split at h
      · cases h
      · rename_i cs hcs
        split at h
        · rename_i v vs hof h1
          simp only [Option.some.injEq] at h
          subst h
          obtain ⟨vs', k1, k2⟩ := run_resM hT ht hs h1
          generalize hq : a.tmps.getD q Go.undef = qv at hr
          cases hr with
          | ptr _ _ _ b st n hρ =>
          obtain ⟨xs, x1, x2, x3⟩ := hs.read hρ hcs
          have hl := run_loadVar' (P := P) (hT tt i hti) x1 x3
          refine ⟨(if i.sh.isAgg then .agg xs.toArray else xs.getD 0 Go.undef) :: vs', ?_, CR.cons (ofCells_VR hof x2) k2⟩
          simp only [List.mapM_cons, resF, hq, asAddr, Sem.run_bind, Sem.run_pure, Result.andThen_ok, hl, k1]
        · cases h
    · cases h

theorem call_sound (hm : P.follows .mixedOrders = true) (hT : TabOk P T) (hng : NoNG P) : ∀ n, CallOk P w0 B0 (evCall P T n)
  | 0 => fun f args s v s' h => by simp [evCall] at h
  | n + 1 => fun f args s v s' h => by
    have ih := call_sound hm hT hng n
    have hce := Ext.calls (T := T) (P := P) n
    simp only [evCall] at h
    split at h
    · cases h
    · rename_i fn hfn
      split at h
      · cases h
      · rename_i c hc
        refine ⟨⟨fn, hfn, by simp [hc], hng f fn hfn⟩, fun ρ w args' hs hargs => ?_⟩
        have hl : args.length = args'.size := by have := hargs.1; rwa [Array.length_toList] at this
        have htr : TR w0 B0 ρ (TL.start args fn.ntmps) (args' ++ Array.replicate (fn.ntmps - args'.size) Go.undef) := by
          have hsz : (args' ++ Array.replicate (fn.ntmps - args'.size) Go.undef).size = args'.size + (fn.ntmps - args'.size) := by simp
          refine ⟨by rw [TL.n_start, hsz, hl], fun i v hv => ?_, fun i hi => ?_⟩
          · rw [TL.get_start]
            rw [Array.getElem?_append] at hv
            split at hv
            · rename_i hlt
              have hlt' : i < args.length := by omega
              exact hargs.2 i _ v (by simp [List.getD, hlt']) (by simpa using hv)
            · rename_i hlt
              rw [Array.getElem?_replicate] at hv
              split at hv
              · cases hv
                rw [List.getD_eq_getElem?_getD, List.getElem?_eq_none (by omega)]
                exact .undef
              · cases hv
          · rw [TL.get_start, List.getD_eq_getElem?_getD, List.getElem?_eq_none (by omega)]
            rfl
        cases hev : evCode T (evCall P T n) n c (TL.start args fn.ntmps) s with
        | none => simp [hev] at h
        | some r =>
          obtain ⟨x, t1, s1⟩ := r
          have hcode : c.wp P (After w0 B0 ρ s.ctr x t1 s1 []) { tmps := args' ++ Array.replicate (fn.ntmps - args'.size) Go.undef, defers := [] } w := (code_sound hT ih hce (draw_sound hm hT ih hce) n).1 c (show TR w0 B0 ρ _ (Act.mk (args' ++ Array.replicate (fn.ntmps - args'.size) Go.undef) []).tmps from htr) hs hev
          -- the end, by either way out
          have fin : (match resA T t1 s1 fn.results.toList with
              | some [v] => some (v, s1)
              | some vs => some (.tup vs, s1)
              | none => none) = some (v, s') → (x = .normal ∨ x = .ret) → Calls P f args' w fun e w' => ∃ v' ρ', e = .returned v' ∧ ρ.lex s.ctr ρ' ∧ Sim w0 B0 ρ' s' w' ∧ VR w0 B0 ρ' v v' := by
            intro hres hx
            refine calls_of_wp hfn hc (wp_mono hcode (fun e a' w' ⟨k1, k2, ρ', k3, k4, k5⟩ => ?_))
            have hb : bodyPost P fn (fun e w' => ∃ v' ρ', e = .returned v' ∧ ρ.lex s.ctr ρ' ∧ Sim w0 B0 ρ' s' w' ∧ VR w0 B0 ρ' v v') .ret a' w' := by
              refine ⟨k2, ?_⟩
              cases hr : resA T t1 s1 fn.results.toList with
              | none => simp [hr] at hres
              | some us =>
                obtain ⟨vs, m1, m2⟩ := run_resM (P := P) hT k5 k4 hr
                have hrun : (results fn a'.tmps).run P w' = .ok (if h : vs.toArray.size = 1 then vs.toArray[0] else .tuple vs.toArray) w' := by
                  rw [results_eq, Array.mapM_eq_mapM_toList]
                  simp only [Sem.run_bind, Sem.run_map, m1, Result.andThen_ok, Sem.run_pure]
                refine ⟨_, hrun, ?_⟩
                rw [hr] at hres
                split at hres
                · rename_i u hu
                  simp only [Option.some.injEq] at hu
                  subst hu
                  simp only [Option.some.injEq, Prod.mk.injEq] at hres
                  obtain ⟨rfl, rfl⟩ := hres
                  obtain ⟨v', rfl, hv'⟩ := m2.one
                  exact ⟨v', ρ', by simp, k3, k4, hv'⟩
                · rename_i us' hne hu
                  simp only [Option.some.injEq] at hu
                  subst hu
                  simp only [Option.some.injEq, Prod.mk.injEq] at hres
                  obtain ⟨rfl, rfl⟩ := hres
                  have hne1 : ¬ vs.toArray.size = 1 := by
                    intro h1
                    have : us.length = 1 := by rw [m2.1]; simpa using h1
                    match us, this with
                    | [u], _ => exact hne u rfl
                  exact ⟨.tuple vs.toArray, ρ', by rw [dif_neg hne1], k3, k4, .tup us _ (by simpa using m2.1) (fun i u v hu hv => m2.2 i u v hu (by simpa using hv))⟩
                · cases hres
            cases e with
            | normal => exact hb
            | ret => exact hb
            | _ => rcases hx with rfl | rfl <;> exact k1.elim
          rw [hev] at h
          cases x with
          | normal => exact fin h (.inl rfl)
          | ret => exact fin h (.inr rfl)
          | exit id => simp at h
          | goto l => simp at h
end
end Go.Ab
