/- Regions that draw their order. -/
import Derived.Test.YtdpdlmjlahehoaaG10
namespace Go.Ab
open Go.RowKit
section
variable {P : Program} {w0 : World} {B0 : Nat} {T : Tab}
variable {call : FuncId → List AV → St → Option (AV × St)}

theorem log_spec {ops : Array Oper} : ∀ (rest : List Oper) (k : Nat) (hs : List (Option (Nat × List AV))) (t t' : TL) (s s' : St) (l : List Entry), hs.length = rest.length →
    evLog T call ops rest hs t s = some (t', s', l) → ∃ tr : Nat → TL × St, tr k = (t, s) ∧ tr (k + rest.length) = (t', s') ∧ l.length = rest.length ∧
      (∀ i o c cs, rest[i]? = some o → hs[i]? = some (some (c, cs)) → (∃ v, earlyVal T ops o (tr (k + i)).1 c cs = some v ∧ (tr (k + i + 1)).1 = putA (tr (k + i)).1 o.dst v) ∧ (tr (k + i + 1)).2 = (tr (k + i)).2 ∧ l[i]? = some ⟨none, [], some c⟩) ∧
      (∀ i o, rest[i]? = some o → hs[i]? = some none → ∃ s', evStep T call ops o (tr (k + i)).1 { (tr (k + i)).2 with wr := [] } = some ((tr (k + i + 1)).1, s') ∧ (tr (k + i + 1)).2 = { s' with wr := s'.wr ++ (tr (k + i)).2.wr } ∧
        l[i]? = some ⟨if guardA ops (tr (k + i)).1 o.guard = some true then readsA (tr (k + i)).1 o.op else none, s'.wr, none⟩) := by
  intro rest
  induction rest with
  | nil =>
    intro k hs t t' s s' l hl h
    cases hs with
    | nil =>
      simp only [evLog, Option.some.injEq, Prod.mk.injEq] at h
      obtain ⟨rfl, rfl, rfl⟩ := h
      exact ⟨fun _ => (t, s), rfl, rfl, rfl, fun i o c cs h => by simp at h, fun i o h => by simp at h⟩
    | cons _ _ => simp at hl
  | cons o rest ih =>
    intro k hs t t' s s' l hl h
    cases hs with
    | nil => simp at hl
    | cons q hs =>
      have hl' : hs.length = rest.length := by simpa using hl
      -- a trace with one more state ahead
      have glue : ∀ (t1 : TL) (s1 : St) (l1 : List Entry) (e1 : Entry), evLog T call ops rest hs t1 s1 = some (t', s', l1) → l = e1 :: l1 →
          (∀ c cs, q = some (c, cs) → (∃ v, earlyVal T ops o t c cs = some v ∧ t1 = putA t o.dst v) ∧ s1 = s ∧ e1 = ⟨none, [], some c⟩) →
          (q = none → ∃ s2, evStep T call ops o t { s with wr := [] } = some (t1, s2) ∧ s1 = { s2 with wr := s2.wr ++ s.wr } ∧ e1 = ⟨if guardA ops t o.guard = some true then readsA t o.op else none, s2.wr, none⟩) →
          ∃ tr : Nat → TL × St, tr k = (t, s) ∧ tr (k + (o :: rest).length) = (t', s') ∧ l.length = (o :: rest).length ∧
            (∀ i o' c cs, (o :: rest)[i]? = some o' → (q :: hs)[i]? = some (some (c, cs)) → (∃ v, earlyVal T ops o' (tr (k + i)).1 c cs = some v ∧ (tr (k + i + 1)).1 = putA (tr (k + i)).1 o'.dst v) ∧ (tr (k + i + 1)).2 = (tr (k + i)).2 ∧ l[i]? = some ⟨none, [], some c⟩) ∧
            (∀ i o', (o :: rest)[i]? = some o' → (q :: hs)[i]? = some none → ∃ s', evStep T call ops o' (tr (k + i)).1 { (tr (k + i)).2 with wr := [] } = some ((tr (k + i + 1)).1, s') ∧ (tr (k + i + 1)).2 = { s' with wr := s'.wr ++ (tr (k + i)).2.wr } ∧
              l[i]? = some ⟨if guardA ops (tr (k + i)).1 o'.guard = some true then readsA (tr (k + i)).1 o'.op else none, s'.wr, none⟩) := by
        intro t1 s1 l1 e1 h1 h2 h3 h4
        obtain ⟨tr, r1, r2, r3, r4, r5⟩ := ih (k + 1) hs t1 t' s1 s' l1 hl' h1
        obtain ⟨tr', e0, eg⟩ : ∃ tr' : Nat → TL × St, tr' k = (t, s) ∧ ∀ j, k < j → tr' j = tr j :=
          ⟨fun j => if j ≤ k then (t, s) else tr j, by simp, fun j hj => by simp; omega⟩
        refine ⟨tr', e0, ?_, by rw [h2]; simp [r3], ?_, ?_⟩
        · rw [eg _ (by simp), List.length_cons, show k + (rest.length + 1) = k + 1 + rest.length by omega]
          exact r2
        · intro i o' c cs ho hc
          cases i with
          | zero =>
            simp only [List.getElem?_cons_zero, Option.some.injEq] at ho hc
            subst ho
            obtain ⟨a1, a2, a3⟩ := h3 c cs hc
            rw [show k + 0 = k from rfl, e0, eg (k + 1) (by omega), r1, h2]
            exact ⟨a1, a2, by simp [a3]⟩
          | succ i =>
            simp only [List.getElem?_cons_succ] at ho hc
            have := r4 i o' c cs ho hc
            rw [eg (k + (i + 1)) (by omega), eg (k + (i + 1) + 1) (by omega), h2, show k + (i + 1) = k + 1 + i by omega]
            simpa using this
        · intro i o' ho hc
          cases i with
          | zero =>
            simp only [List.getElem?_cons_zero, Option.some.injEq] at ho hc
            subst ho
            obtain ⟨s2, a1, a2, a3⟩ := h4 hc
            rw [show k + 0 = k from rfl, e0, eg (k + 1) (by omega), r1, h2]
            exact ⟨s2, a1, a2, by simp [a3]⟩
          | succ i =>
            simp only [List.getElem?_cons_succ] at ho hc
            have := r5 i o' ho hc
            rw [eg (k + (i + 1)) (by omega), eg (k + (i + 1) + 1) (by omega), h2, show k + (i + 1) = k + 1 + i by omega]
            simpa using this
      cases q with
      | some cc =>
        obtain ⟨c, cs⟩ := cc
        simp only [evLog] at h
        cases hv : earlyVal T ops o t c cs with
        | none => simp [hv] at h
        | some v =>
          simp only [hv] at h
          cases h1 : evLog T call ops rest hs (putA t o.dst v) s with
          | none => simp [h1] at h
          | some r =>
            obtain ⟨t2, s2, l2⟩ := r
            simp only [h1, Option.some.injEq, Prod.mk.injEq] at h
            obtain ⟨rfl, rfl, rfl⟩ := h
            exact glue _ _ l2 _ h1 rfl (fun c' cs' hc => by cases hc; exact ⟨⟨v, hv, rfl⟩, rfl, rfl⟩) (fun hc => by cases hc)
      | none =>
        simp only [evLog] at h
        cases h0 : evStep T call ops o t { s with wr := [] } with
        | none => simp [h0] at h
        | some r0 =>
          obtain ⟨t1, s1⟩ := r0
          simp only [h0] at h
          cases h1 : evLog T call ops rest hs t1 { s1 with wr := s1.wr ++ s.wr } with
          | none => simp [h1] at h
          | some r =>
            obtain ⟨t2, s2, l2⟩ := r
            simp only [h1, Option.some.injEq, Prod.mk.injEq] at h
            obtain ⟨rfl, rfl, rfl⟩ := h
            exact glue _ _ l2 _ h1 rfl (fun c' cs' hc => by cases hc) (fun _ => ⟨s1, h0, rfl, rfl⟩)

/-! ### agreeing slots -/
def Agree (t t' : TL) (l : List Tmp) : Prop := ∀ d, d ∈ l → t.get d = t'.get d
def tmpsOf (l : List Operand) : List Tmp := l.filterMap fun | .tmp t => some t | _ => none
theorem ev_congr {t t' : TL} {x : Operand} (h : Agree t t' (tmpsOf [x])) : ev t x = ev t' x := by
  cases x with
  | tmp d =>
    have := h d (by simp [tmpsOf])
    simp [ev, this]
  | _ => rfl
theorem Agree.sub {t t' : TL} {l m : List Tmp} (h : Agree t t' l) (hs : ∀ d, d ∈ m → d ∈ l) : Agree t t' m := fun d hd => h d (hs d hd)
theorem Agree.one {t t' : TL} {l : List Operand} (h : Agree t t' (tmpsOf l)) {x : Operand} (hx : x ∈ l) : ev t x = ev t' x := by
  refine ev_congr (h.sub fun d hd => ?_)
  simp only [tmpsOf, List.mem_filterMap] at hd ⊢
  obtain ⟨y, hy, hyd⟩ := hd
  simp only [List.mem_singleton] at hy
  subst hy
  exact ⟨_, hx, hyd⟩
theorem evs_congr {t t' : TL} : ∀ {l : List Operand}, Agree t t' (tmpsOf l) → evs t l = evs t' l
  | [], _ => rfl
  | x :: l, h => by
    have h1 : ev t x = ev t' x := h.one (by simp)
    have h2 : evs t l = evs t' l := evs_congr (h.sub fun d hd => by simp only [tmpsOf, List.mem_filterMap] at hd ⊢; obtain ⟨y, hy, hyd⟩ := hd; exact ⟨y, by simp [hy], hyd⟩)
    simp only [evs, h1, h2]
theorem evParts_congr {t t' : TL} : ∀ {l : List (Nat × Operand)}, Agree t t' (tmpsOf (l.map (·.2))) → evParts t l = evParts t' l
  | [], _ => rfl
  | (i, x) :: l, h => by
    have h1 : ev t x = ev t' x := h.one (by simp)
    have h2 : evParts t l = evParts t' l := evParts_congr (h.sub fun d hd => by simp only [tmpsOf, List.mem_filterMap] at hd ⊢; obtain ⟨y, hy, hyd⟩ := hd; exact ⟨y, by simp at hy ⊢; exact .inr hy, hyd⟩)
    simp only [evParts, h1, h2]
theorem optNat_congr {t t' : TL} {x : Option Operand} (h : ∀ y, x = some y → ev t y = ev t' y) : Ab.optNat t x = Ab.optNat t' x := by
  cases x with
  | none => rfl
  | some y => simp only [Ab.optNat, h y rfl]
theorem evOp_congr {op : Op} {t t' : TL} (h : Agree t t' (tmpsOf op.operands.toList)) (s : St) : evOp T op t s = evOp T op t' s := by
  cases op with
  | move x => simp only [evOp, h.one (x := x) (by simp [Op.operands])]
  | assign x => simp only [evOp, h.one (x := x) (by simp [Op.operands])]
  | pick c x y => simp only [evOp, h.one (x := c) (by simp [Op.operands]), h.one (x := x) (by simp [Op.operands]), h.one (x := y) (by simp [Op.operands])]
  | box e x => simp only [evOp, h.one (x := x) (by simp [Op.operands])]
  | build t ps =>
    have := evParts_congr (l := ps.toList) (t := _) (t' := _) (by simpa [Op.operands] using h)
    simp only [evOp, this]
  | buildSlice t n ps =>
    have := evParts_congr (l := ps.toList) (t := _) (t' := _) (by simpa [Op.operands] using h)
    simp only [evOp, this]
  | load t x => simp only [evOp, h.one (x := x) (by simp [Op.operands])]
  | store t x y => simp only [evOp, h.one (x := x) (by simp [Op.operands]), h.one (x := y) (by simp [Op.operands])]
  | nilCheck x => simp only [evOp, h.one (x := x) (by simp [Op.operands])]
  | binOp o xt x y yt => simp only [evOp, h.one (x := x) (by simp [Op.operands]), h.one (x := y) (by simp [Op.operands])]
  | unOp o xt x => simp only [evOp, h.one (x := x) (by simp [Op.operands])]
  | convert s' d x => simp only [evOp, h.one (x := x) (by simp [Op.operands])]
  | makeFunc fn first caps =>
    have : evs t caps.toList = evs t' caps.toList := evs_congr (h.sub fun d hd => by simp only [tmpsOf, List.mem_filterMap] at hd ⊢; obtain ⟨y, hy, hyd⟩ := hd; exact ⟨y, by simp [Op.operands] at hy ⊢; exact .inr hy, hyd⟩)
    cases fn <;> simp only [evOp, this]
  | makeSlice t x y => simp only [evOp, h.one (x := x) (by simp [Op.operands]), h.one (x := y) (by simp [Op.operands])]
  | slice tt x lo hi mx =>
    have h1 := h.one (x := x) (by simp [Op.operands])
    have h2 : Ab.optNat t lo = Ab.optNat t' lo := optNat_congr fun y hy => h.one (by subst hy; simp [Op.operands])
    have h3 : Ab.optNat t hi = Ab.optNat t' hi := optNat_congr fun y hy => h.one (by subst hy; simp [Op.operands])
    have h4 : Ab.optNat t mx = Ab.optNat t' mx := optNat_congr fun y hy => h.one (by subst hy; simp [Op.operands])
    simp only [evOp, h1, h2, h3, h4]
  | fieldAddr st x f => simp only [evOp, h.one (x := x) (by simp [Op.operands])]
  | field st x f => simp only [evOp, h.one (x := x) (by simp [Op.operands])]
  | indexAddr tt x i => simp only [evOp, h.one (x := x) (by simp [Op.operands]), h.one (x := i) (by simp [Op.operands])]
  | extract x i => simp only [evOp, h.one (x := x) (by simp [Op.operands])]
  | makeMap tt x => cases x <;> rfl
  | insert tt m k x => simp only [evOp, h.one (x := m) (by simp [Op.operands]), h.one (x := k) (by simp [Op.operands]), h.one (x := x) (by simp [Op.operands])]
  | mapUpdate tt m k x => simp only [evOp, h.one (x := m) (by simp [Op.operands]), h.one (x := k) (by simp [Op.operands]), h.one (x := x) (by simp [Op.operands])]
  | lookup tt m k ok => simp only [evOp, h.one (x := m) (by simp [Op.operands]), h.one (x := k) (by simp [Op.operands])]
  | call c =>
    have h1 : evs t c.args.toList = evs t' c.args.toList := evs_congr (h.sub fun d hd => by simp only [tmpsOf, List.mem_filterMap] at hd ⊢; obtain ⟨y, hy, hyd⟩ := hd; exact ⟨y, by simp [Op.operands, Call.operands] at hy ⊢; exact .inr hy, hyd⟩)
    have h2 : ∀ f, c.callee = .value f → ev t f = ev t' f := fun f hf => h.one (by simp [Op.operands, Call.operands, hf])
    simp only [evOp]
    split
    · rename_i f hf
      simp only [h1, h2 f hf]
    · simp only [h1]
    · rfl
  | alloc e => rfl
  | _ => rfl
theorem readsA_congr {op : Op} {t t' : TL} (h : Agree t t' (tmpsOf op.operands.toList)) : readsA t op = readsA t' op := by
  cases op with
  | load tt x => simp only [readsA, h.one (x := x) (by simp [Op.operands])]
  | slice tt x lo hi mx => simp only [readsA, h.one (x := x) (by simp [Op.operands])]
  | lookup tt m k ok => simp only [readsA, h.one (x := m) (by simp [Op.operands])]
  | _ => rfl
/-- What turns nothing answers the same over every heap that has what it reads. -/
theorem evOp_heap {op : Op} {t : TL} {s s' s1 : St} {r : Res} (he : Op.eff op = false) (h : evOp T op t s = some (r, s1)) (hr : ∀ g, readsA t op = some g → s'.get g = s.get g) : evOp T op t s' = some (r, s') := by
  obtain ⟨rfl, v, rfl⟩ := still_op h he
  cases op with
  | load tt x =>
    simp only [evOp] at h ⊢
    simp only [readsA] at hr
    split at h
    · cases h
    · rename_i i hi
      cases hx : ev t x with
      | none => simp [hx] at h
      | some vx =>
        simp only [hx] at h hr ⊢
        cases vx with
        | ptr g j off =>
          simp only at h hr ⊢
          have : s'.read g j off i.cnt = s1.read g j off i.cnt := by simp only [St.read, hr g rfl]
          rw [this]
          split at h
          · cases h
          · rename_i cs hcs
            split at h
            · cases h
            · rename_i v' hv'
              simp only [Option.some.injEq, Prod.mk.injEq] at h
              obtain ⟨h, _⟩ := h
              simp only [h]
        | rop cs =>
          simp only at h ⊢
          repeat' split at h
          all_goals first
            | (cases h; done)
            | (rename_i hc _ _ hof; simp only [Option.some.injEq, Prod.mk.injEq] at h; obtain ⟨h, _⟩ := h; rw [if_pos hc]; first | (simp only [h]; done) | (rw [hof]; simp only [h]; done) | simp_all)
        | _ => simp at h
  | makeMap tt x => simp [Op.eff] at he
  | lookup tt m k ok =>
    have hes : ∀ vm, ev t m = some vm → s'.entries vm = s1.entries vm := by
      intro vm hm
      cases vm with
      | mp g => simp only [St.entries, hr g (by simp [readsA, hm])]
      | _ => rfl
    simp only [evOp] at h ⊢
    split at h
    · split at h
      · cases h
      · rename_i ie hie
        split at h
        · rename_i vm vk hm hk
          simp only [hes vm hm]
          repeat' split at h
          all_goals first
            | (cases h; done)
            | (simp only [Option.some.injEq, Prod.mk.injEq] at h; obtain ⟨h, _⟩ := h; simp_all)
        · cases h
    · cases h
  | slice tt x lo hi mx =>
    simp only [evOp] at h ⊢
    simp only [readsA] at hr
    split at h
    · rename_i v' l' h' m' hv hl hh hm
      have : arrOk T tt v' s' = arrOk T tt v' s1 := by
        unfold arrOk
        split
        · rename_i n e _ _ _ _ g j off hti
          rw [hv] at hr
          split
          · rfl
          · simp only [St.read, hr g rfl]
        · rfl
      rw [this]
      split at h
      · rename_i hao
        rw [if_pos hao]
        split at h
        · cases h
        · rename_i r hr'
          simp only [Option.some.injEq, Prod.mk.injEq] at h
          obtain ⟨h, _⟩ := h
          simp only [h]
      · cases h
    · cases h
  | call c =>
    obtain ⟨cal, args, tys⟩ := c
    cases cal with
    | value f => simp [Op.eff] at he
    | invoke x m => simp [Op.eff] at he
    | builtin b =>
      simp only [evOp] at h ⊢
      split at h
      · cases h
      · rename_i args' hargs
        split at h
        · cases h
        · rename_i v1 s2 hc
          simp only [Option.some.injEq, Prod.mk.injEq, Res.val.injEq] at h
          obtain ⟨rfl, rfl⟩ := h
          have : callA T b tys.toList args' s' = some (v1, s') := by
            unfold callA at hc ⊢
            split at hc
            · split at hc
              · cases hc
              · rename_i hq
                simp only [Option.some.injEq, Prod.mk.injEq] at hc
                simp only [hq, hc.1]
            · repeat' split at hc
              all_goals first
                | (cases hc; done)
                | (rename_i hq; simp only [Option.some.injEq, Prod.mk.injEq] at hc; simp only [hq, hc.1])
            · simp [Op.eff] at he
            · simp [Op.eff] at he
            · split at hc
              · rename_i hq
                simp only [Option.some.injEq, Prod.mk.injEq] at hc
                rw [if_pos hq, hc.1]
              · cases hc
            · split at hc
              · rename_i hq
                simp only [Option.some.injEq, Prod.mk.injEq] at hc
                rw [if_pos hq, hc.1]
              · cases hc
            · cases hc
          rw [this]
  | alloc e => simp [Op.eff] at he
  | box e x => simp [Op.eff] at he
  | buildSlice t n ps => simp [Op.eff] at he
  | store t x y => simp [Op.eff] at he
  | makeSlice t x y => simp [Op.eff] at he
  | makeFunc fn first caps =>
    cases fn <;> simp only [evOp] at h ⊢ <;> (repeat' split at h) <;> first
      | (cases h; done)
      | (simp only [Option.some.injEq, Prod.mk.injEq, Res.val.injEq] at h; obtain ⟨rfl, _⟩ := h; simp_all)
  | _ =>
    simp only [evOp] at h ⊢
    repeat' split at h
    all_goals first
      | (cases h; done)
      | (simp only [Option.some.injEq, Prod.mk.injEq, Res.val.injEq] at h; obtain ⟨rfl, _⟩ := h; simp_all; done)
end
end Go.Ab
