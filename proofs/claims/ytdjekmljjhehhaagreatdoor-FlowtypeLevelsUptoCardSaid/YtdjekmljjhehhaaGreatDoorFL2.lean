/- Parts of one proof, put together: G11 G12 G13 G14 G14b G14c GU F1 F2 F3 F4 F5 F6 GT CK GF G15. -/
import Derived.Test.YtdjekmljjhehhaaGreatDoorFL1
import Derived.Test.YtdjekmljjhehhaaGreatDoorProg
import Derived.Laws.StructEq
namespace Go.Ab
open Go.RowKit
section
variable {P : Program} {w0 : World} {B0 : Nat} {T : Tab}
variable {call : FuncId → List AV → St → Option (End × St)}

theorem log_spec {ops : Array Oper} : ∀ (rest : List Oper) (k : Nat) (hs : List (Option (Nat × List AV))) (t t' : TL) (s s' : St) (l : List Entry), hs.length = rest.length →
  evLog T call ops rest hs t s = some (t', s', l) → ∃ tr : Nat → TL × St, tr k = (t, s) ∧ tr (k + rest.length) = (t', s') ∧ l.length = rest.length ∧
   (∀ i o c cs, rest[i]? = some o → hs[i]? = some (some (c, cs)) → (∃ v, earlyVal T ops o (tr (k + i)).1 c cs = some v ∧ (tr (k + i + 1)).1 = putA (tr (k + i)).1 o.dst v) ∧ (tr (k + i + 1)).2 = (tr (k + i)).2 ∧ l[i]? = some ⟨none, [], some c⟩) ∧
   (∀ i o, rest[i]? = some o → hs[i]? = some none → ∃ s', evStep T call ops o (tr (k + i)).1 { (tr (k + i)).2 with wr := [] } = some ((tr (k + i + 1)).1, s') ∧ (tr (k + i + 1)).2 = { s' with wr := s'.wr ++ (tr (k + i)).2.wr } ∧
     l[i]? = some ⟨if guardA ops (tr (k + i)).1 o.guard = some true then readsA (tr (k + i)).1 o.op else none, s'.wr, none⟩) ∧
   (∀ i, i ≤ rest.length → (evTrace T call ops rest hs t s)[i]? = some (tr (k + i))) := by
 intro rest
 induction rest with
 | nil =>
  intro k hs t t' s s' l hl h
  cases hs with
  | nil =>
   simp only [evLog, sjj, pjj] at h
   obtain ⟨rfl, rfl, rfl⟩ := h
   exact ⟨fun _ => (t, s), rfl, rfl, rfl, fun i o c cs h => by simp at h, fun i o h => by simp at h, fun i hi => by cases Nat.le_zero.1 hi; rfl⟩
  | cons _ _ => simp at hl
 | cons o rest ih =>
  intro k hs t t' s s' l hl h
  cases hs with
  | nil => simp at hl
  | cons q hs =>
   have hl' : hs.length = rest.length := by simpa using hl
   -- a trace with one more state ahead
   have glue : ∀ (t1 : TL) (s1 : St) (l1 : List Entry) (e1 : Entry), evLog T call ops rest hs t1 s1 = some (t', s', l1) → evTrace T call ops (o :: rest) (q :: hs) t s = (t, s) :: evTrace T call ops rest hs t1 s1 → l = e1 :: l1 →
     (∀ c cs, q = some (c, cs) → (∃ v, earlyVal T ops o t c cs = some v ∧ t1 = putA t o.dst v) ∧ s1 = s ∧ e1 = ⟨none, [], some c⟩) →
     (q = none → ∃ s2, evStep T call ops o t { s with wr := [] } = some (t1, s2) ∧ s1 = { s2 with wr := s2.wr ++ s.wr } ∧ e1 = ⟨if guardA ops t o.guard = some true then readsA t o.op else none, s2.wr, none⟩) →
     ∃ tr : Nat → TL × St, tr k = (t, s) ∧ tr (k + (o :: rest).length) = (t', s') ∧ l.length = (o :: rest).length ∧
      (∀ i o' c cs, (o :: rest)[i]? = some o' → (q :: hs)[i]? = some (some (c, cs)) → (∃ v, earlyVal T ops o' (tr (k + i)).1 c cs = some v ∧ (tr (k + i + 1)).1 = putA (tr (k + i)).1 o'.dst v) ∧ (tr (k + i + 1)).2 = (tr (k + i)).2 ∧ l[i]? = some ⟨none, [], some c⟩) ∧
      (∀ i o', (o :: rest)[i]? = some o' → (q :: hs)[i]? = some none → ∃ s', evStep T call ops o' (tr (k + i)).1 { (tr (k + i)).2 with wr := [] } = some ((tr (k + i + 1)).1, s') ∧ (tr (k + i + 1)).2 = { s' with wr := s'.wr ++ (tr (k + i)).2.wr } ∧
        l[i]? = some ⟨if guardA ops (tr (k + i)).1 o'.guard = some true then readsA (tr (k + i)).1 o'.op else none, s'.wr, none⟩) ∧
      (∀ i, i ≤ (o :: rest).length → (evTrace T call ops (o :: rest) (q :: hs) t s)[i]? = some (tr (k + i))) := by
    intro t1 s1 l1 e1 h1 hT h2 h3 h4
    obtain ⟨tr, r1, r2, r3, r4, r5, r6⟩ := ih (k + 1) hs t1 t' s1 s' l1 hl' h1
    obtain ⟨tr', e0, eg⟩ : ∃ tr' : Nat → TL × St, tr' k = (t, s) ∧ ∀ j, k < j → tr' j = tr j :=
     ⟨fun j => if j ≤ k then (t, s) else tr j, by simp, fun j hj => by simp; omega⟩
    refine ⟨tr', e0, ?_, by rw [h2]; simp [r3], ?_, ?_, ?_⟩
    ·rw [eg _ (by simp), lcc, show k + (rest.length + 1) = k + 1 + rest.length by omega]
     exact r2
    ·intro i o' c cs ho hc
     cases i with
     | zero =>
      simp only [List.getElem?_cons_zero, sjj] at ho hc
      subst ho
      obtain ⟨a1, a2, a3⟩ := h3 c cs hc
      rw [show k + 0 = k from rfl, e0, eg (k + 1) (by omega), r1, h2]
      exact ⟨a1, a2, by simp [a3]⟩
     | succ i =>
      simp only [List.getElem?_cons_succ] at ho hc
      have := r4 i o' c cs ho hc
      rw [eg (k + (i + 1)) (by omega), eg (k + (i + 1) + 1) (by omega), h2, show k + (i + 1) = k + 1 + i by omega]
      simpa using this
    ·intro i o' ho hc
     cases i with
     | zero =>
      simp only [List.getElem?_cons_zero, sjj] at ho hc
      subst ho
      obtain ⟨s2, a1, a2, a3⟩ := h4 hc
      rw [show k + 0 = k from rfl, e0, eg (k + 1) (by omega), r1, h2]
      exact ⟨s2, a1, a2, by simp [a3]⟩
     | succ i =>
      simp only [List.getElem?_cons_succ] at ho hc
      have := r5 i o' ho hc
      rw [eg (k + (i + 1)) (by omega), eg (k + (i + 1) + 1) (by omega), h2, show k + (i + 1) = k + 1 + i by omega]
      simpa using this
    ·intro i hi
     rw [hT]
     cases i with
     | zero => rw [show k + 0 = k from rfl, e0]; rfl
     | succ i =>
      rw [List.getElem?_cons_succ, r6 i (by simpa using hi), eg (k + (i + 1)) (by omega), show k + (i + 1) = k + 1 + i by omega]
   cases q with
   | some cc =>
    obtain ⟨c, cs⟩ := cc
    simp only [evLog] at h
    cases hv : earlyVal T ops o t c cs with
    | none => simp [hv] at h
    | some v =>
     simp only [hv] at h
     cases h1 : evLog T call ops rest hs (putA t o.dst v) s with
     | none => simp [h1] at h
     | some r =>
      obtain ⟨t2, s2, l2⟩ := r
      simp only [h1, sjj, pjj] at h
      obtain ⟨rfl, rfl, rfl⟩ := h
      exact glue _ _ l2 _ h1 (by simp only [evTrace, hv]) rfl (fun c' cs' hc => by cases hc; exact ⟨⟨v, hv, rfl⟩, rfl, rfl⟩) (fun hc => by cases hc)
   | none =>
    simp only [evLog] at h
    cases h0 : evStep T call ops o t { s with wr := [] } with
    | none => simp [h0] at h
    | some r0 =>
     obtain ⟨t1, s1⟩ := r0
     simp only [h0] at h
     cases h1 : evLog T call ops rest hs t1 { s1 with wr := s1.wr ++ s.wr } with
     | none => simp [h1] at h
     | some r =>
      obtain ⟨t2, s2, l2⟩ := r
      simp only [h1, sjj, pjj] at h
      obtain ⟨rfl, rfl, rfl⟩ := h
      exact glue _ _ l2 _ h1 (by simp only [evTrace, h0]) rfl (fun c' cs' hc => by cases hc) (fun _ => ⟨s1, h0, rfl, rfl⟩)

structure Agree (t t' : TL) (l : List Tmp) : Prop where
 at_ : ∀ d, d ∈ l → t.get d = t'.get d
 gl : t.gl = t'.gl
def tmpsOf (l : List Operand) : List Tmp := l.filterMap fun | .tmp t => some t | _ => none
theorem ev_congr {t t' : TL} {x : Operand} (h : Agree t t' (tmpsOf [x])) : ev t x = ev t' x := by
 cases x with
 | tmp d =>
  have := h.at_ d (by simp [tmpsOf])
  simp [ev, this]
 | global g => exact congrFun h.gl g
 | _ => rfl
theorem Agree.sub {t t' : TL} {l m : List Tmp} (h : Agree t t' l) (hs : ∀ d, d ∈ m → d ∈ l) : Agree t t' m := ⟨fun d hd => h.at_ d (hs d hd), h.gl⟩
theorem Agree.one {t t' : TL} {l : List Operand} (h : Agree t t' (tmpsOf l)) {x : Operand} (hx : x ∈ l) : ev t x = ev t' x := by
 refine ev_congr (h.sub fun d hd => ?_)
 simp only [tmpsOf, List.mem_filterMap] at hd ⊢
 obtain ⟨y, hy, hyd⟩ := hd
 simp only [msi] at hy
 subst hy
 exact ⟨_, hx, hyd⟩
theorem evs_congr {t t' : TL} : ∀ {l : List Operand}, Agree t t' (tmpsOf l) → evs t l = evs t' l
 | [], _ => rfl
 | x :: l, h => by
  have h1 : ev t x = ev t' x := h.one (by simp)
  have h2 : evs t l = evs t' l := evs_congr (h.sub fun d hd => by simp only [tmpsOf, List.mem_filterMap] at hd ⊢; obtain ⟨y, hy, hyd⟩ := hd; exact ⟨y, by simp [hy], hyd⟩)
  simp only [evs, h1, h2]
theorem evParts_congr {t t' : TL} : ∀ {l : List (Nat × Operand)}, Agree t t' (tmpsOf (l.map (·.2))) → evParts t l = evParts t' l
 | [], _ => rfl
 | (i, x) :: l, h => by
  have h1 : ev t x = ev t' x := h.one (by simp)
  have h2 : evParts t l = evParts t' l := evParts_congr (h.sub fun d hd => by simp only [tmpsOf, List.mem_filterMap] at hd ⊢; obtain ⟨y, hy, hyd⟩ := hd; exact ⟨y, by simp at hy ⊢; exact .inr hy, hyd⟩)
  simp only [evParts, h1, h2]
theorem optNat_congr {t t' : TL} {x : Option Operand} (h : ∀ y, x = some y → ev t y = ev t' y) : Ab.optNat t x = Ab.optNat t' x := by
 cases x with
 | none => rfl
 | some y => simp only [Ab.optNat, h y rfl]
theorem evOp_congr {op : Op} {t t' : TL} (h : Agree t t' (tmpsOf op.operands.toList)) (s : St) : evOp T op t s = evOp T op t' s := by
 cases op with
 | move x => simp only [evOp, h.one (x := x) (by simp [Op.operands])]
 | assign x => simp only [evOp, h.one (x := x) (by simp [Op.operands])]
 | pick c x y => simp only [evOp, h.one (x := c) (by simp [Op.operands]), h.one (x := x) (by simp [Op.operands]), h.one (x := y) (by simp [Op.operands])]
 | box e x => simp only [evOp, h.one (x := x) (by simp [Op.operands])]
 | build t ps =>
  have := evParts_congr (l := ps.toList) (t := _) (t' := _) (by simpa [Op.operands] using h)
  simp only [evOp, this]
 | buildSlice t n ps =>
  have := evParts_congr (l := ps.toList) (t := _) (t' := _) (by simpa [Op.operands] using h)
  simp only [evOp, this]
 | load t x => simp only [evOp, h.one (x := x) (by simp [Op.operands])]
 | store t x y => simp only [evOp, h.one (x := x) (by simp [Op.operands]), h.one (x := y) (by simp [Op.operands])]
 | nilCheck x => simp only [evOp, h.one (x := x) (by simp [Op.operands])]
 | binOp o xt x y yt => simp only [evOp, h.one (x := x) (by simp [Op.operands]), h.one (x := y) (by simp [Op.operands])]
 | unOp o xt x => simp only [evOp, h.one (x := x) (by simp [Op.operands])]
 | convert s' d x => simp only [evOp, h.one (x := x) (by simp [Op.operands])]
 | makeFunc fn first caps =>
  have : evs t caps.toList = evs t' caps.toList := evs_congr (h.sub fun d hd => by simp only [tmpsOf, List.mem_filterMap] at hd ⊢; obtain ⟨y, hy, hyd⟩ := hd; exact ⟨y, by simp [Op.operands] at hy ⊢; exact .inr hy, hyd⟩)
  have this2 : evs t first.toList = evs t' first.toList := evs_congr (h.sub fun d hd => by simp only [tmpsOf, List.mem_filterMap] at hd ⊢; obtain ⟨y, hy, hyd⟩ := hd; exact ⟨y, by simp [Op.operands] at hy ⊢; exact .inl hy, hyd⟩)
  cases fn <;> simp only [evOp, this, this2]
 | makeSlice t x y => simp only [evOp, h.one (x := x) (by simp [Op.operands]), h.one (x := y) (by simp [Op.operands])]
 | slice tt x lo hi mx =>
  have h1 := h.one (x := x) (by simp [Op.operands])
  have h2 : Ab.optNat t lo = Ab.optNat t' lo := optNat_congr fun y hy => h.one (by subst hy; simp [Op.operands])
  have h3 : Ab.optNat t hi = Ab.optNat t' hi := optNat_congr fun y hy => h.one (by subst hy; simp [Op.operands])
  have h4 : Ab.optNat t mx = Ab.optNat t' mx := optNat_congr fun y hy => h.one (by subst hy; simp [Op.operands])
  simp only [evOp, h1, h2, h3, h4]
 | fieldAddr st x f => simp only [evOp, h.one (x := x) (by simp [Op.operands])]
 | field st x f => simp only [evOp, h.one (x := x) (by simp [Op.operands])]
 | indexAddr tt x i => simp only [evOp, h.one (x := x) (by simp [Op.operands]), h.one (x := i) (by simp [Op.operands])]
 | extract x i => simp only [evOp, h.one (x := x) (by simp [Op.operands])]
 | index tt x i => simp only [evOp, h.one (x := x) (by simp [Op.operands]), h.one (x := i) (by simp [Op.operands])]
 | makeInterface tt x => simp only [evOp, h.one (x := x) (by simp [Op.operands])]
 | typeAssert x xt a ok => simp only [evOp, h.one (x := x) (by simp [Op.operands])]
 | makeMap tt x => cases x <;> rfl
 | insert tt m k x => simp only [evOp, h.one (x := m) (by simp [Op.operands]), h.one (x := k) (by simp [Op.operands]), h.one (x := x) (by simp [Op.operands])]
 | mapUpdate tt m k x => simp only [evOp, h.one (x := m) (by simp [Op.operands]), h.one (x := k) (by simp [Op.operands]), h.one (x := x) (by simp [Op.operands])]
 | lookup tt m k ok => simp only [evOp, h.one (x := m) (by simp [Op.operands]), h.one (x := k) (by simp [Op.operands])]
 | call c =>
  have h1 : evs t c.args.toList = evs t' c.args.toList := evs_congr (h.sub fun d hd => by simp only [tmpsOf, List.mem_filterMap] at hd ⊢; obtain ⟨y, hy, hyd⟩ := hd; exact ⟨y, by simp [Op.operands, Call.operands] at hy ⊢; exact .inr hy, hyd⟩)
  have h2 : ∀ f, c.callee = .value f → ev t f = ev t' f := fun f hf => h.one (by simp [Op.operands, Call.operands, hf])
  simp only [evOp]
  split
  ·rename_i f hf
   simp only [h1, h2 f hf]
  ·simp only [h1]
  ·rfl
 | alloc e => rfl
 | _ => rfl
theorem evOp_heap {op : Op} {t : TL} {s s' s1 : St} {r : Res} (he : Op.eff op = false) (h : evOp T op t s = some (r, s1)) (hr : ∀ g, readsA t op = some g → s'.get g = s.get g) : evOp T op t s' = some (r, s') := by
 obtain ⟨rfl, v, rfl⟩ := still_op h he
 cases op with
 | load tt x =>
  simp only [evOp] at h ⊢
  simp only [readsA] at hr
  split at h
  ·cases h
  ·rename_i i hi
   cases hx : ev t x with
   | none => simp [hx] at h
   | some vx =>
    simp only [hx] at h hr ⊢
    cases vx with
    | ptr g j off =>
     simp only at h hr ⊢
     have : s'.readL g j off i.cnt = s1.readL g j off i.cnt := by simp only [St.readL, St.readF, St.read, hr g rfl]
     rw [this]
     split at h
     ·cases h
     ·rename_i cs hcs
      split at h
      ·cases h
      ·rename_i v' hv'
       simp only [sjj, pjj] at h
       obtain ⟨h, _⟩ := h
       simp only [h]
    | rop cs =>
     simp only at h ⊢
     repeat' split at h
     all_goals first
      | (cases h; done)
      | (rename_i hc _ _ hof; simp only [sjj, pjj] at h; obtain ⟨h, _⟩ := h; rw [if_pos hc]; first | (simp only [h]; done) | (rw [hof]; simp only [h]; done) | simp_all)
    | _ => simp at h
 | makeMap tt x => simp [Op.eff] at he
 | lookup tt m k ok =>
  have hes : ∀ vm, ev t m = some vm → s'.entries vm = s1.entries vm := by
   intro vm hm
   cases vm with
   | mp g => simp only [St.entries, hr g (by simp [readsA, hm])]
   | _ => rfl
  simp only [evOp] at h ⊢
  split at h
  ·split at h
   ·cases h
   ·rename_i ie hie
    split at h
    ·rename_i vm vk hm hk
     simp only [hes vm hm]
     repeat' split at h
     all_goals first
      | (cases h; done)
      | (simp only [sjj, pjj] at h; obtain ⟨h, _⟩ := h; simp_all)
    ·cases h
  ·cases h
 | slice tt x lo hi mx =>
  simp only [evOp] at h ⊢
  simp only [readsA] at hr
  split at h
  ·rename_i v' l' h' m' hv hl hh hm
   have : arrOk T tt v' s' = arrOk T tt v' s1 := by
    unfold arrOk
    split
    ·rename_i n e _ _ _ _ g j off hti
     rw [hv] at hr
     split
     ·rfl
     ·simp only [St.read, hr g rfl]
    ·rfl
   rw [this]
   split at h
   ·rename_i hao
    rw [if_pos hao]
    split at h
    ·cases h
    ·rename_i r hr'
     simp only [sjj, pjj] at h
     obtain ⟨h, _⟩ := h
     simp only [h]
   ·cases h
  ·cases h
 | call c =>
  obtain ⟨cal, args, tys⟩ := c
  cases cal with
  | value f => simp [Op.eff] at he
  | invoke x m => simp [Op.eff] at he
  | builtin b =>
   simp only [evOp] at h ⊢
   split at h
   ·cases h
   ·rename_i args' hargs
    split at h
    ·cases h
    ·rename_i v1 s2 hc
     simp only [sjj, pjj, Res.val.injEq] at h
     obtain ⟨rfl, rfl⟩ := h
     have : callA T b tys.toList args' s' = some (v1, s') := by
      unfold callA at hc ⊢
      split at hc
      ·split at hc
       ·cases hc
       ·rename_i hq
        simp only [sjj, pjj] at hc
        simp only [hc.1]
      ·repeat' split at hc
       all_goals first
        | (cases hc; done)
        | (rename_i hq; simp only [sjj, pjj] at hc; simp only [hc.1])
      ·simp [Op.eff] at he
      ·simp [Op.eff] at he
      ·split at hc
       ·rename_i hq
        simp only [sjj, pjj] at hc
        rw [if_pos hq, hc.1]
       ·cases hc
      ·split at hc
       ·rename_i hq
        simp only [sjj, pjj] at hc
        rw [if_pos hq, hc.1]
       ·cases hc
      ·cases hc
     rw [this]
 | alloc e => simp [Op.eff] at he
 | box e x => simp [Op.eff] at he
 | buildSlice t n ps => simp [Op.eff] at he
 | store t x y => simp [Op.eff] at he
 | makeSlice t x y => simp [Op.eff] at he
 | makeFunc fn first caps =>
  cases fn <;> simp only [evOp] at h ⊢ <;> (repeat' split at h) <;> first
   | (cases h; done)
   | (simp only [sjj, pjj, Res.val.injEq] at h; obtain ⟨rfl, _⟩ := h; simp_all)
 | _ =>
  simp only [evOp] at h ⊢
  repeat' split at h
  all_goals first
   | (cases h; done)
   | (simp only [sjj, pjj, Res.val.injEq] at h; obtain ⟨rfl, _⟩ := h; simp_all; done)
end
end Go.Ab
namespace Go.Ab
open Go.RowKit
section
variable {P : Program} {w0 : World} {B0 : Nat} {T : Tab}
variable {call : FuncId → List AV → St → Option (End × St)}

def bef (acc : Array Nat) (o : Oper) : Nat := o.after.foldl (fun s e => if Region.binds .any e then s ||| 2 ^ e.on ||| acc.getD e.on 0 else s) 0
theorem before_eq (ops : Array Oper) : Region.before ops = ops.foldl (init := #[]) fun acc o => acc.push (bef acc o) := rfl
theorem bef_bit {acc : Array Nat} {o : Oper} {i : Nat} (h : (bef acc o).testBit i = true) : ∃ e ∈ o.after, Region.binds .any e = true ∧ (e.on = i ∨ (acc.getD e.on 0).testBit i = true) := by
 unfold bef at h
 rw [← Array.foldl_toList] at h
 have key : ∀ (l : List Edge) (s : Nat), (l.foldl (fun s e => if Region.binds .any e then s ||| 2 ^ e.on ||| acc.getD e.on 0 else s) s).testBit i = true →
   s.testBit i = true ∨ ∃ e ∈ l, Region.binds .any e = true ∧ (e.on = i ∨ (acc.getD e.on 0).testBit i = true) := by
  intro l
  induction l with
  | nil => intro s h; exact .inl h
  | cons e l ih =>
   intro s h
   rw [fcc] at h
   rcases ih _ h with h | ⟨e', he', h1, h2⟩
   ·split at h
    ·rename_i hb
     rw [Nat.testBit_or, Nat.testBit_or, Bool.or_eq_true, Bool.or_eq_true] at h
     rcases h with (h | h) | h
     ·exact .inl h
     ·refine .inr ⟨e, by simp, hb, .inl ?_⟩
      rw [Nat.testBit_two_pow] at h
      simpa using h
     ·exact .inr ⟨e, by simp, hb, .inr h⟩
    ·exact .inl h
   ·exact .inr ⟨e', by simp [he'], h1, h2⟩
 rcases key _ _ h with h | ⟨e, he, h⟩
 ·simp at h
 ·exact ⟨e, by simpa using he, h⟩
theorem before_list : ∀ (l : List Oper) (acc : Array Nat), let r := l.foldl (fun acc o => acc.push (bef acc o)) acc
  r.size = acc.size + l.length ∧ (∀ j, j < acc.size → r[j]? = acc[j]?) ∧ ∀ j o, l[j]? = some o → ∃ pre : Array Nat, pre.size = acc.size + j ∧ (∀ k, k < pre.size → pre[k]? = r[k]?) ∧ r[acc.size + j]? = some (bef pre o)
 | [], acc => ⟨rfl, fun _ _ => rfl, fun j o h => by simp at h⟩
 | o :: l, acc => by
  obtain ⟨h1, h2, h3⟩ := before_list l (acc.push (bef acc o))
  simp only [fcc]
  rw [Array.size_push] at h1 h2 h3
  refine ⟨by rw [h1, lcc]; omega, fun j hj => ?_, fun j o' ho => ?_⟩
  ·rw [h2 j (by omega), Array.getElem?_push, if_neg (by omega)]
  ·cases j with
   | zero =>
    simp only [List.getElem?_cons_zero, sjj] at ho
    subst ho
    refine ⟨acc, rfl, fun k hk => ?_, ?_⟩
    ·rw [h2 k (by omega), Array.getElem?_push, if_neg (by omega)]
    ·rw [Nat.add_zero, h2 _ (by omega), Array.getElem?_push, if_pos rfl]
   | succ j =>
    simp only [List.getElem?_cons_succ] at ho
    obtain ⟨pre, k1, k2, k3⟩ := h3 j o' ho
    exact ⟨pre, by omega, k2, by rw [show acc.size + (j + 1) = acc.size + 1 + j by omega]; exact k3⟩
theorem before_spec {ops : Array Oper} {j : Nat} {o : Oper} (ho : ops[j]? = some o) {i : Nat} (h : aheadB (Region.before ops) i j = true) :
  ∃ e ∈ o.after, Region.binds .any e = true ∧ (e.on = i ∨ (e.on < j ∧ aheadB (Region.before ops) i e.on = true)) := by
 have hl := before_list ops.toList #[]
 simp only [Array.size_empty, Nat.zero_add] at hl
 obtain ⟨_, _, h3⟩ := hl
 obtain ⟨pre, k1, k2, k3⟩ := h3 j o (by simpa using ho)
 have hr : ops.toList.foldl (fun acc o => acc.push (bef acc o)) #[] = Region.before ops := by rw [before_eq, ← Array.foldl_toList]
 rw [hr] at k2 k3
 unfold aheadB at h
 simp only [Array.getD_eq_getD_getElem?, k3, Option.getD_some] at h
 obtain ⟨e, he, hb, h⟩ := bef_bit h
 refine ⟨e, he, hb, h.imp id fun h => ?_⟩
 by_cases hlt : e.on < j
 ·refine ⟨hlt, ?_⟩
  unfold aheadB
  rw [Array.getD_eq_getD_getElem?, ← k2 e.on (by omega), ← Array.getD_eq_getD_getElem?]
  exact h
 ·rw [Array.getD_eq_getD_getElem?, Array.getElem?_eq_none (by omega)] at h
  simp at h

def Closed (ops : Array Oper) (L : Array Bool) : Prop := ∀ j o, ops[j]? = some o → L.getD j false = true → ∀ e ∈ o.after, Region.binds .any e = true → L.getD e.on false = true
theorem ahead_listed {ops : Array Oper} {L : Array Bool} (hc : Closed ops L) : ∀ (j : Nat) (o : Oper), ops[j]? = some o → (∀ e ∈ o.after, Region.binds .any e = true → L.getD e.on false = true) → ∀ i, aheadB (Region.before ops) i j = true → L.getD i false = true := by
 intro j
 induction j using Nat.strongRecOn with
 | _ j ih =>
  intro o ho hp i h
  obtain ⟨e, he, hb, h⟩ := before_spec ho h
  have hl := hp e he hb
  rcases h with h | ⟨hlt, h⟩
  ·rw [← h]; exact hl
  ·have hs : e.on < ops.size := by have := (Array.getElem?_eq_some_iff.1 ho).1; omega
   exact ih e.on hlt ops[e.on] (by simp [hs]) (hc e.on _ (by simp [hs]) hl) i h

theorem looks_ops {ops : Array Oper} {o : Oper} {t t' : TL} (h : Agree t t' (o.looksAt ops)) : Agree t t' (tmpsOf o.op.operands.toList) := h.sub fun d hd => by
 unfold Oper.looksAt
 rw [List.mem_append]
 exact .inl hd
theorem guard_congr {ops : Array Oper} {o : Oper} {t t' : TL} (h : Agree t t' (o.looksAt ops)) : guardA ops t o.guard = guardA ops t' o.guard := by
 unfold guardA
 cases hg : o.guard with
 | none => rfl
 | some g =>
  obtain ⟨j, want⟩ := g
  simp only
  cases hd : (ops[j]?).bind (·.dst) with
  | none => rfl
  | some d =>
   simp only
   have : t.get d = t'.get d := h.at_ d (by unfold Oper.looksAt; rw [List.mem_append]; right; simp [hg, hd])
   rw [this]
theorem step_same {ops : Array Oper} {o : Oper} {t t1 t' : TL} {s s1 : St} (h : evStep T call ops o t s = some (t1, s1)) (ha : Agree t t' (o.looksAt ops)) :
  ∃ v, t1 = putA t o.dst v ∧ evStep T call ops o t' s = some (putA t' o.dst v, s1) := by
 unfold evStep at h ⊢
 rw [← guard_congr ha, ← evOp_congr (looks_ops ha) s]
 cases hg : guardA ops t o.guard with
 | none => simp [hg] at h
 | some b =>
  cases b with
  | false =>
   simp only [hg, sjj, pjj] at h ⊢
   obtain ⟨rfl, rfl⟩ := h
   exact ⟨.undef, rfl, by simp⟩
  | true =>
   simp only [hg] at h ⊢
   cases hop : evOp T o.op t s with
   | none => simp [hop] at h
   | some rs =>
    obtain ⟨r, s2⟩ := rs
    cases r with
    | val v =>
     simp only [hop, sjj, pjj] at h ⊢
     obtain ⟨rfl, rfl⟩ := h
     exact ⟨v, rfl, by simp⟩
    | skip =>
     simp only [hop, sjj, pjj] at h ⊢
     obtain ⟨rfl, rfl⟩ := h
     exact ⟨.undef, rfl, by simp⟩
    | call f args =>
     simp only [hop] at h ⊢
     cases hc : call f args s2 with
     | none => simp [hc] at h
     | some vs =>
      obtain ⟨e, s3⟩ := vs
      cases e with
      | pan v => simp [hc] at h
      | ret v =>
      simp only [hc, sjj, pjj] at h ⊢
      obtain ⟨rfl, rfl⟩ := h
      exact ⟨v, rfl, by simp⟩
theorem step_still {ops : Array Oper} {o : Oper} {t t1 t' : TL} {s s1 s' : St} (he : Op.eff o.op = false) (h : evStep T call ops o t s = some (t1, s1)) (ha : Agree t t' (o.looksAt ops))
  (hr : ∀ g, guardA ops t o.guard = some true → readsA t o.op = some g → s'.get g = s.get g) : s1 = s ∧ ∃ v, t1 = putA t o.dst v ∧ evStep T call ops o t' s' = some (putA t' o.dst v, s') := by
 unfold evStep at h ⊢
 rw [← guard_congr ha]
 cases hg : guardA ops t o.guard with
 | none => simp [hg] at h
 | some b =>
  cases b with
  | false =>
   simp only [hg, sjj, pjj] at h ⊢
   obtain ⟨rfl, rfl⟩ := h
   exact ⟨rfl, .undef, rfl, by simp⟩
  | true =>
   simp only [hg] at h ⊢
   cases hop : evOp T o.op t s with
   | none => simp [hop] at h
   | some rs =>
    obtain ⟨r, s2⟩ := rs
    obtain ⟨rfl, v, rfl⟩ := still_op hop he
    have h2 := evOp_heap (s' := s') he hop (fun g hg' => hr g hg hg')
    rw [← evOp_congr (looks_ops ha) s', h2]
    simp only [hop, sjj, pjj] at h ⊢
    obtain ⟨rfl, rfl⟩ := h
    exact ⟨rfl, v, rfl, by simp⟩

theorem step_still2 {ops : Array Oper} {o : Oper} {t t1 t' : TL} {s s1 s' : St} (he : Op.eff o.op = false) (h : evStep T call ops o t s = some (t1, s1)) (ha : Agree t t' (o.looksAt ops))
  (hr : ∀ r, guardA ops t o.guard = some true → evOp T o.op t s = some (r, s) → evOp T o.op t s' = some (r, s')) : s1 = s ∧ ∃ v, t1 = putA t o.dst v ∧ evStep T call ops o t' s' = some (putA t' o.dst v, s') := by
 unfold evStep at h ⊢
 rw [← guard_congr ha]
 cases hg : guardA ops t o.guard with
 | none => simp [hg] at h
 | some b =>
  cases b with
  | false =>
   simp only [hg, sjj, pjj] at h ⊢
   obtain ⟨rfl, rfl⟩ := h
   exact ⟨rfl, .undef, rfl, by simp⟩
  | true =>
   simp only [hg] at h ⊢
   cases hop : evOp T o.op t s with
   | none => simp [hop] at h
   | some rs =>
    obtain ⟨r, s2⟩ := rs
    obtain ⟨rfl, v, rfl⟩ := still_op hop he
    have h2 := hr _ hg hop
    rw [← evOp_congr (looks_ops ha) s', h2]
    simp only [hop, sjj, pjj] at h ⊢
    obtain ⟨rfl, rfl⟩ := h
    exact ⟨rfl, v, rfl, by simp⟩

theorem eqB_ok {x y : AV} (h : AV.eqB x y = true) : x = y := by
 unfold AV.eqB at h
 split at h
 case h_3 => simp only [beq_iff_eq] at h; rw [ByteArray.ext h]
 all_goals simp_all
theorem eqBs_ok : ∀ {xs ys : List AV}, AV.eqBs xs ys = true → xs = ys
 | [], [], _ => rfl
 | x :: r, y :: r', h => by
  simp only [AV.eqBs, Bool.and_eq_true] at h
  rw [eqB_ok h.1, eqBs_ok h.2]
 | [], _ :: _, h => by simp [AV.eqBs] at h
 | _ :: _, [], h => by simp [AV.eqBs] at h
theorem earlyVal_congr {ops : Array Oper} {o : Oper} {t t' : TL} (h : Agree t t' (o.looksAt ops)) (c : Nat) (cs : List AV) : earlyVal T ops o t c cs = earlyVal T ops o t' c cs := by
 have hop : ∀ s, evOp T o.op t s = evOp T o.op t' s := fun s => evOp_congr (looks_ops h) s
 unfold earlyVal
 rw [guard_congr h]
 cases guardA ops t' o.guard with
 | none => rfl
 | some q =>
  cases q with
  | false => rfl
  | true =>
   simp only
   cases hq : o.op <;> simp only <;> (rw [hq] at hop; rw [hop])
def EarlyMade (P : Program) (w0 : World) (B0 : Nat) (ρ : Loc) (a : Act) (o : Oper) (w : World) (c : Nat) (G : Grp) (v : AV) : Prop :=
 ∃ (V : Ver) (x : Obj) (n0 : Nat) (v' : Value), G = ⟨[V]⟩ ∧ (execOp a.eval o).run P w = .ok (.value v') (w.alloc x) ∧ (∀ (ρ' : Loc) (w' : World) (b : Nat), ρ.le ρ' → w'.heap[b]? = some x → VerR w0 B0 ρ' w' V b 0 n0) ∧
  ∀ ρ' : Loc, ρ' c 0 = some (w.heap.size, 0, n0) → VR w0 B0 ρ' v v'
theorem EarlyRun.made {P : Program} {w0 : World} {B0 : Nat} {ρ : Loc} {a : Act} {o : Oper} {w : World} {c : Nat} {cs : List AV} {v : AV} (h : EarlyRun P w0 B0 ρ a o w c cs v) : EarlyMade P w0 B0 ρ a o w c ⟨[⟨cs, 0, none⟩]⟩ v := by
 obtain ⟨arr, e, v', h1, h2, h3, h4, h5⟩ := h
 refine ⟨_, .cells arr e, arr.size, v', rfl, h1, fun ρ' w' b hle hb => VerR.arr arr e hb rfl (by simpa using h2) h3 (fun i u x hu hx => ?_) rfl, h5⟩
 simp only [Nat.zero_add] at hx
 exact (h4 i u x hu hx).mono hle
theorem early_run {P : Program} {w0 : World} {B0 : Nat} {ρ : Loc} {a : Act} {w : World} {b : Bool} {ops : Array Oper} {o : Oper} {t : TL} {c : Nat} {cs : List AV} {v : AV} (hT : TabOk P T) (ht : TR w0 B0 ρ t a.tmps) (he : Oper.early b o = true)
  (hz : earlyCells T cs o.op = some cs) (hlf : cs.all AV.leaf = true) (hg : guardA ops t o.guard = some true) (hv : earlyVal T ops o t c cs = some v) : EarlyMade P w0 B0 ρ a o w c (earlyG cs o.op) v := by
 unfold earlyVal at hv
 rw [hg] at hv
 simp only at hv
 have other : (∀ (r : Res) (s' : St), evOp T o.op t ⟨c, .leaf, []⟩ = some (r, s') → ∃ v cs, r = .val v ∧ s' = (⟨c, .leaf, []⟩ : St).newG ⟨[⟨cs, 0, none⟩]⟩ ∧ EarlyRun P w0 B0 ρ a o w c cs v) →
   (match evOp T o.op t ⟨c, .leaf, []⟩ with
     | some (.val v, s1) => match s1.get c with
       | some ⟨[⟨cs', 0, none⟩]⟩ => if AV.eqBs cs' cs then some v else none
       | _ => none
     | _ => none) = some v → EarlyRun P w0 B0 ρ a o w c cs v := by
  intro h2 hv
  split at hv
  ·rename_i v1 s1 hop
   obtain ⟨v2, cs2, e1, e2, h3⟩ := h2 _ _ hop
   cases e1
   subst e2
   have hg : ((⟨c, .leaf, []⟩ : St).newG ⟨[⟨cs2, 0, none⟩]⟩).get c = some ⟨[⟨cs2, 0, none⟩]⟩ := St.get_newG_eq _ _
   rw [hg] at hv
   split at hv
   ·rename_i cs' hcs
    simp only [sjj, Grp.mk.injEq, List.cons.injEq, Ver.mk.injEq, and_true] at hcs
    subst hcs
    split at hv
    ·rename_i hq
     simp only [sjj] at hv
     subst hv
     obtain rfl := eqBs_ok hq
     exact h3
    ·cases hv
   ·cases hv
  ·cases hv
 cases hop : o.op with
 | alloc e =>
  rw [hop] at hv hz
  simp only [sjj] at hv
  subst hv
  simp only [earlyCells] at hz
  cases hti : T e with
  | none => simp [hti] at hz
  | some ti =>
   simp only [hti, sjj] at hz
   subst hz
   exact (e_alloc hT hop hti hlf c).made
 | box e x =>
  refine (other (fun r s' h => e_box ht hop h) ?_).made
  rw [hop] at hv ⊢
  exact hv
 | buildSlice tt len parts =>
  refine (other (fun r s' h => e_buildSlice hT ht hop h) ?_).made
  rw [hop] at hv ⊢
  exact hv
 | makeSlice tt x y =>
  refine (other (fun r s' h => e_makeSlice hT ht hop h) ?_).made
  rw [hop] at hv ⊢
  exact hv
 | makeMap tt x =>
  have hx : x = none := by
   unfold Oper.early at he
   rw [hop] at he
   simpa using (Bool.and_eq_true_iff.1 he).2
  subst hx
  rw [hop] at hv
  simp only [sjj] at hv
  subst hv
  refine ⟨_, .map #[] 0, 0, .map (some w.heap.size), rfl, ?_, fun ρ' w' b hle hb => .map [] #[] 0 hb ⟨rfl, fun _ _ _ h => by simp at h⟩ rfl rfl, fun ρ' h => .mp _ _ _ h⟩
  simp only [execOp, hop, Sem.run_bind, Option.map_none, run_makeMap, Result.andThen_ok, Sem.run_pure]
 | _ => unfold Oper.early at he; rw [hop] at he; simp at he

structure HoistS (b : Bool) (T : Tab) (l : List Oper) (s s' : St) (hs : List (Option (Nat × List AV))) : Prop where
 len : hs.length = l.length
 lt : ∀ (i c : Nat) (cs : List AV), hs[i]? = some (some (c, cs)) → s.ctr ≤ c ∧ c < s'.ctr
 inj : ∀ (i j c : Nat) (cs cs' : List AV), hs[i]? = some (some (c, cs)) → hs[j]? = some (some (c, cs')) → i = j
 ear : ∀ (i : Nat) (o : Oper) (c : Nat) (cs : List AV), l[i]? = some o → hs[i]? = some (some (c, cs)) → Oper.early b o = true ∧ earlyCells T cs o.op = some cs ∧ cs.all AV.leaf = true ∧ s'.get c = some (earlyG cs o.op)
 late : ∀ (i : Nat) (o : Oper), l[i]? = some o → hs[i]? = some none → Oper.early b o = false
theorem hoist_keep {b : Bool} : ∀ (l : List Oper) (gs : List (List AV)) (s s' : St) (hs : List (Option (Nat × List AV))), hoist b T l gs s = some (s', hs) → ∀ g, g < s.ctr → s'.get g = s.get g := by
 intro l
 induction l with
 | nil => intro gs s s' hs h g _; simp only [hoist, sjj, pjj] at h; obtain ⟨rfl, _⟩ := h; rfl
 | cons o l ih =>
  intro gs s s' hs h g hg
  simp only [hoist] at h
  repeat' split at h
  all_goals first
   | (cases h; done)
   | (rename_i h2; simp only [sjj, pjj] at h; obtain ⟨rfl, _⟩ := h; first | (rw [ih _ _ _ _ h2 g (by simp [St.newG]; omega)]; exact St.get_newG_ne _ _ (by omega)) | exact ih _ _ _ _ h2 g hg)
theorem hoist_spec {b : Bool} : ∀ (l : List Oper) (gs : List (List AV)) (s s' : St) (hs : List (Option (Nat × List AV))), hoist b T l gs s = some (s', hs) → HoistS b T l s s' hs
 | [], gs, s, s', hs, h => by
  simp only [hoist, sjj, pjj] at h
  obtain ⟨rfl, rfl⟩ := h
  exact ⟨rfl, fun i c cs h => by simp at h, fun i j c cs cs' h => by simp at h, fun i o c cs h => by simp at h, fun i o h => by simp at h⟩
 | o :: l, gs, s, s', hs, h => by
  simp only [hoist] at h
  split at h
  ·rename_i hearly
   split at h
   ·cases h
   ·rename_i zs hzs
    split at h
    ·rename_i hlf
     split at h
     ·cases h
     ·rename_i s2 l2 h2
      simp only [sjj, pjj] at h
      obtain ⟨rfl, rfl⟩ := h
      have ih := hoist_spec l _ _ _ _ h2
      have hx := Ext.hoist l _ h2
      have hc : (s.newG (earlyG zs o.op)).ctr = s.ctr + 1 := rfl
      refine ⟨by simp [ih.len], fun i c cs hi => ?_, fun i j c cs cs' hi hj => ?_, fun i o' c cs ho hi => ?_, fun i o' ho hi => ?_⟩
      ·cases i with
       | zero => simp only [List.getElem?_cons_zero, sjj, pjj] at hi; obtain ⟨rfl, _⟩ := hi; have := hx.ctr; omega
       | succ i => have := ih.lt i c cs (by simpa using hi); omega
      ·cases i with
       | zero =>
        cases j with
        | zero => rfl
        | succ j =>
         simp only [List.getElem?_cons_zero, sjj, pjj] at hi
         have := ih.lt j c cs' (by simpa using hj)
         omega
       | succ i =>
        cases j with
        | zero =>
         simp only [List.getElem?_cons_zero, sjj, pjj] at hj
         have := ih.lt i c cs (by simpa using hi)
         omega
        | succ j => have := ih.inj i j c cs cs' (by simpa using hi) (by simpa using hj); omega
      ·cases i with
       | zero =>
        simp only [List.getElem?_cons_zero, sjj, pjj] at ho hi
        obtain ⟨rfl, rfl⟩ := hi
        subst ho
        refine ⟨hearly, ?_, hlf, ?_⟩
        ·cases hop : o.op with
         | alloc e => rw [hop] at hzs; simpa [earlyCells] using hzs
         | makeMap tt x => rw [hop] at hzs; simp only [earlyCells] at hzs ⊢; exact hzs
         | _ => simp [earlyCells]
        ·rw [hoist_keep l _ _ _ _ h2 s.ctr (by rw [hc]; omega)]
         exact St.get_newG_eq _ _
       | succ i => exact ih.ear i o' c cs (by simpa using ho) (by simpa using hi)
      ·cases i with
       | zero => simp at hi
       | succ i => exact ih.late i o' (by simpa using ho) (by simpa using hi)
    ·cases h
  ·rename_i hearly
   split at h
   ·cases h
   ·rename_i s2 l2 h2
    simp only [sjj, pjj] at h
    obtain ⟨rfl, rfl⟩ := h
    have ih := hoist_spec l _ _ _ _ h2
    refine ⟨by simp [ih.len], fun i c cs hi => ?_, fun i j c cs cs' hi hj => ?_, fun i o' c cs ho hi => ?_, fun i o' ho hi => ?_⟩
    ·cases i with
     | zero => simp at hi
     | succ i => exact ih.lt i c cs (by simpa using hi)
    ·cases i with
     | zero => simp at hi
     | succ i =>
      cases j with
      | zero => simp at hj
      | succ j => have := ih.inj i j c cs cs' (by simpa using hi) (by simpa using hj); omega
    ·cases i with
     | zero => simp at hi
     | succ i => exact ih.ear i o' c cs (by simpa using ho) (by simpa using hi)
    ·cases i with
     | zero =>
      simp only [List.getElem?_cons_zero, sjj] at ho
      subst ho
      simpa using hearly
     | succ i => exact ih.late i o' (by simpa using ho) (by simpa using hi)
end
end Go.Ab
namespace Go.Ab
open Go.RowKit
section
variable {P : Program} {w0 : World} {B0 : Nat} {T : Tab}
variable {call : FuncId → List AV → St → Option (End × St)}

structure Reg (b : Bool) (T : Tab) (call : FuncId → List AV → St → Option (End × St)) (ops : Array Oper) (hs : List (Option (Nat × List AV))) (c0 : Nat) (tr : Nat → TL × St) (l : List Entry) : Prop where
 hl : hs.length = ops.size
 earlyAt : ∀ (i : Nat) (o : Oper) (c : Nat) (cs : List AV), ops[i]? = some o → hs[i]? = some (some (c, cs)) → (∃ v, earlyVal T ops o (tr i).1 c cs = some v ∧ (tr (i + 1)).1 = putA (tr i).1 o.dst v) ∧ (tr (i + 1)).2 = (tr i).2
 stepAt : ∀ (i : Nat) (o : Oper), ops[i]? = some o → hs[i]? = some none → ∃ s', evStep T call ops o (tr i).1 { (tr i).2 with wr := [] } = some ((tr (i + 1)).1, s') ∧ (tr (i + 1)).2 = { s' with wr := s'.wr ++ (tr i).2.wr }
 ear : ∀ (i : Nat) (o : Oper) (c : Nat) (cs : List AV), ops[i]? = some o → hs[i]? = some (some (c, cs)) → Oper.early b o = true ∧ earlyCells T cs o.op = some cs ∧ cs.all AV.leaf = true ∧ (tr 0).2.get c = some (earlyG cs o.op)
 late : ∀ (i : Nat) (o : Oper), ops[i]? = some o → hs[i]? = some none → Oper.early b o = false
 inj : ∀ (i j c : Nat) (cs cs' : List AV), hs[i]? = some (some (c, cs)) → hs[j]? = some (some (c, cs')) → i = j
 lt : ∀ (i c : Nat) (cs : List AV), hs[i]? = some (some (c, cs)) → c0 ≤ c ∧ c < (tr 0).2.ctr
 /-- What is read isn't turned by what has no order with the reader. -/
 rd : ∀ (i e : Nat) (o oe : Oper) (g : Nat) (se : St), ops[i]? = some o → hs[i]? = some none → guardA ops (tr i).1 o.guard = some true → readsA (tr i).1 o.op = some g → ops[e]? = some oe → hs[e]? = some none →
  evStep T call ops oe (tr e).1 { (tr e).2 with wr := [] } = some ((tr (e + 1)).1, se) → aheadB (Region.before ops) e i = true ∨ aheadB (Region.before ops) i e = true ∨ g ∉ se.wr ∨ ∃ v s1 s2, evOp T o.op (tr i).1 (tr e).2 = some (.val v, s1) ∧ evOp T o.op (tr i).1 (tr (e + 1)).2 = some (.val v, s2)
 /-- An early variable is turned behind its own operation alone. -/
 al : ∀ (i e : Nat) (oe : Oper) (c : Nat) (cs : List AV) (se : St), hs[i]? = some (some (c, cs)) → ops[e]? = some oe → hs[e]? = some none →
  evStep T call ops oe (tr e).1 { (tr e).2 with wr := [] } = some ((tr (e + 1)).1, se) → aheadB (Region.before ops) i e = true ∨ c ∉ se.wr
 /-- Two operations without an order. -/
 two : ∀ (i j : Nat) (x y : Oper), ops[i]? = some x → ops[j]? = some y → i ≠ j → aheadB (Region.before ops) i j = true ∨ aheadB (Region.before ops) j i = true ∨ (Oper.apart ops x y = true ∧ ¬ (Oper.turns b x = true ∧ Oper.turns b y = true))
 up : ∀ (i j : Nat), aheadB (Region.before ops) i j = true → j < ops.size → i < j
 dn : ∀ (j : Nat) (o : Oper), ops[j]? = some o → ∀ e ∈ o.after, Region.binds .any e = true → e.on < j

variable {ops : Array Oper} {hs : List (Option (Nat × List AV))} {b : Bool} {c0 : Nat} {tr : Nat → TL × St} {l : List Entry}

theorem Reg.hsAt (R : Reg b T call ops hs c0 tr l) {i : Nat} {o : Oper} (ho : ops[i]? = some o) : ∃ q, hs[i]? = some q := by
 have : i < ops.size := (Array.getElem?_eq_some_iff.1 ho).1
 exact ⟨hs[i]'(by rw [R.hl]; exact this), by simp⟩
theorem Reg.opAt (_R : Reg b T call ops hs c0 tr l) {i : Nat} (hi : i < ops.size) : ∃ o, ops[i]? = some o := ⟨ops[i], by simp [hi]⟩
theorem Reg.stay (_hce : CallExt call) (R : Reg b T call ops hs c0 tr l) {k : Nat} {o : Oper} (ho : ops[k]? = some o) (hn : ¬ (Oper.turns b o = true ∧ hs[k]? = some none)) : (tr (k + 1)).2 = (tr k).2 := by
 obtain ⟨q, hq⟩ := R.hsAt ho
 cases q with
 | some cc => exact (R.earlyAt k o cc.1 cc.2 ho hq).2
 | none =>
  have hlate := R.late k o ho hq
  have he : Op.eff o.op = false := by
   cases h : Op.eff o.op with
   | false => rfl
   | true => exact absurd ⟨by simp [Oper.turns, h, hlate], hq⟩ hn
  obtain ⟨s', h1, h2⟩ := R.stepAt k o ho hq
  have := (step_still (s' := { (tr k).2 with wr := [] }) he h1 ⟨fun d _ => rfl, rfl⟩ (fun g _ _ => rfl)).1
  subst this
  rw [h2]
  simp
theorem Reg.ctrLe (hce : CallExt call) (R : Reg b T call ops hs c0 tr l) {k : Nat} (hk : k < ops.size) : (tr k).2.ctr ≤ (tr (k + 1)).2.ctr := by
 obtain ⟨o, ho⟩ := R.opAt hk
 obtain ⟨q, hq⟩ := R.hsAt ho
 cases q with
 | some cc => rw [(R.earlyAt k o cc.1 cc.2 ho hq).2]; exact nlr _
 | none =>
  obtain ⟨s', h1, h2⟩ := R.stepAt k o ho hq
  rw [h2]
  exact (Ext.step hce h1).ctr
theorem Reg.ctr0 (hce : CallExt call) (R : Reg b T call ops hs c0 tr l) : ∀ k, k ≤ ops.size → (tr 0).2.ctr ≤ (tr k).2.ctr
 | 0, _ => nlr _
 | k + 1, h => Nat.le_trans (R.ctr0 hce k (by omega)) (R.ctrLe hce (by omega))
theorem Reg.putAt (R : Reg b T call ops hs c0 tr l) {k : Nat} {o : Oper} (ho : ops[k]? = some o) : ∃ v, (tr (k + 1)).1 = putA (tr k).1 o.dst v := by
 obtain ⟨q, hq⟩ := R.hsAt ho
 cases q with
 | some cc => obtain ⟨v, _, h⟩ := (R.earlyAt k o cc.1 cc.2 ho hq).1; exact ⟨v, h⟩
 | none =>
  obtain ⟨s', h1, h2⟩ := R.stepAt k o ho hq
  obtain ⟨v, hv, _⟩ := step_same h1 ⟨fun d _ => rfl, rfl⟩
  exact ⟨v, hv⟩
theorem putA_gl (t : TL) (d : Option Tmp) (v : AV) : (putA t d v).gl = t.gl := by
 cases d with
 | none => rfl
 | some d => exact TL.gl_set _ _ _
theorem Reg.tmpG (R : Reg b T call ops hs c0 tr l) : ∀ k, k ≤ ops.size → (tr k).1.gl = (tr 0).1.gl
 | 0, _ => rfl
 | k + 1, h => by
  obtain ⟨o, ho⟩ := R.opAt (i := k) (by omega)
  obtain ⟨v, hv⟩ := R.putAt ho
  rw [hv, putA_gl, R.tmpG k (by omega)]
theorem Reg.tmpN (R : Reg b T call ops hs c0 tr l) : ∀ k, k ≤ ops.size → (tr k).1.n = (tr 0).1.n
 | 0, _ => rfl
 | k + 1, hk => by
  obtain ⟨ok, hok⟩ := R.opAt (show k < ops.size by omega)
  obtain ⟨v, hv⟩ := R.putAt hok
  rw [hv, putA_n]
  exact R.tmpN k (by omega)
theorem Reg.tmpOut (R : Reg b T call ops hs c0 tr l) {d : Tmp} (hd : (tr 0).1.n ≤ d) : ∀ k, k ≤ ops.size → (tr k).1.get d = (tr 0).1.get d
 | 0, _ => rfl
 | k + 1, hk => by
  obtain ⟨ok, hok⟩ := R.opAt (show k < ops.size by omega)
  obtain ⟨v, hv⟩ := R.putAt hok
  rw [hv]
  have hn := R.tmpN k (by omega)
  cases ok.dst with
  | none => exact R.tmpOut hd k (by omega)
  | some d' =>
   simp only [putA]
   rw [TL.get_set, if_neg (fun e => by omega)]
   exact R.tmpOut hd k (by omega)
theorem Reg.slot (R : Reg b T call ops hs c0 tr l) {d : Tmp} : ∀ (n p : Nat), p + n ≤ ops.size → (∀ j o, p ≤ j → j < p + n → ops[j]? = some o → o.dst ≠ some d) → (tr (p + n)).1.get d = (tr p).1.get d
 | 0, p, _, _ => rfl
 | n + 1, p, hle, h => by
  obtain ⟨o, ho⟩ := R.opAt (show p + n < ops.size by omega)
  obtain ⟨v, hv⟩ := R.putAt ho
  have ih := R.slot n p (by omega) (fun j o h1 h2 h3 => h j o h1 (by omega) h3)
  rw [← Nat.add_assoc, hv, ← ih]
  have hd := h (p + n) o (by omega) (by omega) ho
  cases hdst : o.dst with
  | none => rfl
  | some d' =>
   simp only [putA]
   rw [TL.get_set, if_neg (fun e => hd (by rw [hdst, e.1]))]
theorem Reg.slot2 (R : Reg b T call ops hs c0 tr l) {d : Tmp} {p q : Nat} (hp : p ≤ ops.size) (hq : q ≤ ops.size) (h : ∀ j o, ops[j]? = some o → o.dst = some d → (j < p ↔ j < q)) : (tr p).1.get d = (tr q).1.get d := by
 rcases Nat.le_total p q with hle | hle
 ·obtain ⟨n, rfl⟩ := Nat.exists_eq_add_of_le hle
  exact (R.slot n p hq (fun j o h1 h2 h3 h4 => by have := h j o h3 h4; omega)).symm
 ·obtain ⟨n, rfl⟩ := Nat.exists_eq_add_of_le hle
  exact R.slot n q hp (fun j o h1 h2 h3 h4 => by have := h j o h3 h4; omega)
theorem Reg.state (hce : CallExt call) (R : Reg b T call ops hs c0 tr l) : ∀ (n p : Nat), p + n ≤ ops.size → (∀ j o, p ≤ j → j < p + n → ops[j]? = some o → ¬ (Oper.turns b o = true ∧ hs[j]? = some none)) → (tr (p + n)).2 = (tr p).2
 | 0, p, _, _ => rfl
 | n + 1, p, hle, h => by
  obtain ⟨o, ho⟩ := R.opAt (show p + n < ops.size by omega)
  rw [← Nat.add_assoc, R.stay hce ho (h (p + n) o (by omega) (by omega) ho)]
  exact R.state hce n p (by omega) (fun j o h1 h2 h3 => h j o h1 (by omega) h3)
theorem Reg.state2 (hce : CallExt call) (R : Reg b T call ops hs c0 tr l) {p q : Nat} (hp : p ≤ ops.size) (hq : q ≤ ops.size) (h : ∀ j o, ops[j]? = some o → Oper.turns b o = true → hs[j]? = some none → (j < p ↔ j < q)) : (tr p).2 = (tr q).2 := by
 rcases Nat.le_total p q with hle | hle
 ·obtain ⟨n, rfl⟩ := Nat.exists_eq_add_of_le hle
  exact (R.state hce n p hq (fun j o h1 h2 h3 ⟨h4, h5⟩ => by have := h j o h3 h4 h5; omega)).symm
 ·obtain ⟨n, rfl⟩ := Nat.exists_eq_add_of_le hle
  exact R.state hce n q hp (fun j o h1 h2 h3 ⟨h4, h5⟩ => by have := h j o h3 h4 h5; omega)
theorem Reg.group (hce : CallExt call) (R : Reg b T call ops hs c0 tr l) {g : Nat} : ∀ (n p : Nat), p + n ≤ ops.size →
  (∀ j o se, p ≤ j → j < p + n → ops[j]? = some o → hs[j]? = some none → evStep T call ops o (tr j).1 { (tr j).2 with wr := [] } = some ((tr (j + 1)).1, se) → Oper.turns b o = true → g ∉ se.wr) → (tr (p + n)).2.get g = (tr p).2.get g
 | 0, p, _, _ => rfl
 | n + 1, p, hle, h => by
  have ih := R.group hce n p (by omega) (fun j o se h1 h2 h3 => h j o se h1 (by omega) h3)
  obtain ⟨o, ho⟩ := R.opAt (show p + n < ops.size by omega)
  rw [← Nat.add_assoc, ← ih]
  by_cases ht : Oper.turns b o = true ∧ hs[p + n]? = some none
  ·obtain ⟨s', h1, h2⟩ := R.stepAt (p + n) o ho ht.2
   have hn := h (p + n) o s' (by omega) (by omega) ho ht.2 h1 ht.1
   obtain ⟨m, k1, k2⟩ := (Ext.step hce h1).wr
   simp only [List.append_nil] at k1
   rw [k1] at hn
   have := k2 g hn
   rw [h2]
   exact this
  ·rw [R.stay hce ho ht]
theorem Reg.group2 (hce : CallExt call) (R : Reg b T call ops hs c0 tr l) {g p q : Nat} (hp : p ≤ ops.size) (hq : q ≤ ops.size)
  (h : ∀ j o se, ops[j]? = some o → hs[j]? = some none → evStep T call ops o (tr j).1 { (tr j).2 with wr := [] } = some ((tr (j + 1)).1, se) → Oper.turns b o = true → (j < p ↔ j < q) ∨ g ∉ se.wr) : (tr p).2.get g = (tr q).2.get g := by
 rcases Nat.le_total p q with hle | hle
 ·obtain ⟨n, rfl⟩ := Nat.exists_eq_add_of_le hle
  exact (R.group hce n p hq (fun j o se h1 h2 h3 h4 h5 h6 => by rcases h j o se h3 h4 h5 h6 with h | h <;> first | omega | exact h)).symm
 ·obtain ⟨n, rfl⟩ := Nat.exists_eq_add_of_le hle
  exact R.group hce n q hp (fun j o se h1 h2 h3 h4 h5 h6 => by rcases h j o se h3 h4 h5 h6 with h | h <;> first | omega | exact h)

theorem Reg.same (hce : CallExt call) (R : Reg b T call ops hs c0 tr l) {i : Nat} {o : Oper} (ho : ops[i]? = some o) (hq : hs[i]? = some none) (he : Op.eff o.op = false) (hg : guardA ops (tr i).1 o.guard = some true) {r : Res} : ∀ (n p : Nat), p + n ≤ ops.size →
  (∀ j oj, p ≤ j → j < p + n → ops[j]? = some oj → hs[j]? = some none → Oper.turns b oj = true → ¬ (aheadB (Region.before ops) j i = true ∨ aheadB (Region.before ops) i j = true)) →
  (evOp T o.op (tr i).1 (tr p).2 = some (r, (tr p).2) ↔ evOp T o.op (tr i).1 (tr (p + n)).2 = some (r, (tr (p + n)).2))
 | 0, p, _, _ => Iff.rfl
 | n + 1, p, hle, h => by
  refine (R.same hce ho hq he hg n p (by omega) fun j oj h1 h2 => h j oj h1 (by omega)).trans ?_
  obtain ⟨oj, hoj⟩ := R.opAt (show p + n < ops.size by omega)
  rw [← Nat.add_assoc]
  by_cases ht : Oper.turns b oj = true ∧ hs[p + n]? = some none
  ·have hno := h (p + n) oj (by omega) (by omega) hoj ht.2 ht.1
   obtain ⟨s', h1, h2⟩ := R.stepAt (p + n) oj hoj ht.2
   obtain ⟨m, k1, k2⟩ := (Ext.step hce h1).wr
   simp only [List.append_nil] at k1
   have key : (∀ g, readsA (tr i).1 o.op = some g → g ∉ s'.wr) → (evOp T o.op (tr i).1 (tr (p + n)).2 = some (r, (tr (p + n)).2) ↔ evOp T o.op (tr i).1 (tr (p + n + 1)).2 = some (r, (tr (p + n + 1)).2)) := by
    intro hk
    have hs1 : ∀ g, readsA (tr i).1 o.op = some g → (tr (p + n + 1)).2.get g = (tr (p + n)).2.get g := fun g hg' => by
     have := k2 g (by rw [← k1]; exact hk g hg')
     rw [h2]
     exact this
    exact ⟨fun h => evOp_heap he h hs1, fun h => evOp_heap he h fun g hg' => (hs1 g hg').symm⟩
   cases hr : readsA (tr i).1 o.op with
   | none => exact key fun g hg' => by rw [hr] at hg'; cases hg'
   | some g =>
    rcases R.rd i (p + n) o oj g s' ho hq hg hr hoj ht.2 h1 with k | k | k | ⟨v, s1, s2, q1, q2⟩
    ·exact absurd (.inl k) hno
    ·exact absurd (.inr k) hno
    ·exact key fun g' hg' => by rw [hr] at hg'; cases hg'; exact k
    ·obtain ⟨rfl, _⟩ := still_op q1 he
     obtain ⟨rfl, _⟩ := still_op q2 he
     rw [q1, q2]
     simp only [sjj, pjj, and_true]
  ·rw [R.stay hce hoj ht]
theorem Reg.same2 (hce : CallExt call) (R : Reg b T call ops hs c0 tr l) {i m : Nat} {o : Oper} (ho : ops[i]? = some o) (hq : hs[i]? = some none) (he : Op.eff o.op = false) (hg : guardA ops (tr i).1 o.guard = some true) {r : Res} (hi : i ≤ ops.size) (hm : m ≤ ops.size)
  (h : ∀ j oj, ops[j]? = some oj → hs[j]? = some none → Oper.turns b oj = true → (aheadB (Region.before ops) j i = true ∨ aheadB (Region.before ops) i j = true) → (j < m ↔ j < i)) (hr : evOp T o.op (tr i).1 (tr i).2 = some (r, (tr i).2)) : evOp T o.op (tr i).1 (tr m).2 = some (r, (tr m).2) := by
 rcases Nat.le_total i m with hle | hle
 ·obtain ⟨n, rfl⟩ := Nat.exists_eq_add_of_le hle
  exact (R.same hce ho hq he hg n i hm fun j oj h1 h2 h3 h4 h5 h6 => by have := h j oj h3 h4 h5 h6; omega).1 hr
 ·obtain ⟨n, rfl⟩ := Nat.exists_eq_add_of_le hle
  exact (R.same hce ho hq he hg n m hi fun j oj h1 h2 h3 h4 h5 h6 => by have := h j oj h3 h4 h5 h6; omega).2 hr

structure Mid (b : Bool) (w0 : World) (B0 : Nat) (ops : Array Oper) (hs : List (Option (Nat × List AV))) (c0 : Nat) (tr : Nat → TL × St) (ρ0 : Loc) (d0 : List Deferred) (L : Array Bool) (a : Act) (w : World) (ρ : Loc) (t : TL) (m : Nat) : Prop where
 size : L.size = ops.size
 closed : Closed ops L
 tr_ : TR w0 B0 ρ t a.tmps
 slots : ∀ d : Tmp, ∃ p, p ≤ ops.size ∧ t.get d = (tr p).1.get d ∧ ∀ (j : Nat) (o : Oper), ops[j]? = some o → o.dst = some d → (L.getD j false = true ↔ j < p)
 tn : t.n = (tr 0).1.n
 gl : t.gl = (tr 0).1.gl
 mle : m ≤ ops.size
 heap : ∀ (e : Nat) (o : Oper), ops[e]? = some o → Oper.turns b o = true → hs[e]? = some none → (L.getD e false = true ↔ e < m)
 sim : Sim w0 B0 ρ (tr m).2 w
 wait : ∀ (i c : Nat) (cs : List AV), hs[i]? = some (some (c, cs)) → L.getD i false = false → ∀ j, ρ c j = none
 lex : ρ0.lex c0 ρ
 def_ : a.defers = d0

theorem getD_true_false {L : Array Bool} {j n : Nat} (hs : L.size = n) (hj : j < n) : L.getD j true = L.getD j false := by
 have : j < L.size := by omega
 simp [this]

theorem early_nodefer {b : Bool} {o : Oper} (h : Oper.early b o = true) : ∀ c, o.op ≠ .defer c := by
 intro c hc
 unfold Oper.early at h
 rw [hc] at h
 cases h
theorem draw_steps {rd : Option Nat} (hT : TabOk P T) (hcall : CallOk P w0 B0 call) (hce : CallExt call) (R : Reg b T call ops hs c0 tr l) (hc0 : c0 ≤ (tr 0).2.ctr) {ρ0 : Loc} {d0 : List Deferred} {Q : Exit → Act → World → Prop}
  (hQ : ∀ (ρ : Loc) (a : Act) (w : World), ρ0.lex c0 ρ → Sim w0 B0 ρ (tr ops.size).2 w → TR w0 B0 ρ (tr ops.size).1 a.tmps → a.defers = d0 → Q .normal a w) :
  ∀ (fuel : Nat) (L : Array Bool) (a : Act) (w : World) (ρ : Loc) (t : TL) (m : Nat), (L.toList.countP (· == false)) = fuel → Mid b w0 B0 ops hs c0 tr ρ0 d0 L a w ρ t m → wpAnyIn (Fen rd) 0 P .any ops Q fuel L a w := by
 intro fuel
 induction fuel with
 | zero =>
  intro L a w ρ t m hcount M
  have hall : ∀ j, j < ops.size → L.getD j false = true := by
   intro j hj
   have hjl : j < L.size := by rw [M.size]; exact hj
   rw [List.countP_eq_zero] at hcount
   have := hcount L[j] (by simp)
   simp [hjl]
   simpa using this
  refine ⟨?_, ?_⟩
  ·rw [List.eq_nil_iff_forall_not_mem]
   intro j hj
   obtain ⟨h1, o, h2, _⟩ := mem_ready.1 hj
   have hjn := (Array.getElem?_eq_some_iff.1 h2).1
   rw [getD_true_false M.size hjn, hall j hjn] at h1
   cases h1
  ·have hst : (tr m).2 = (tr ops.size).2 := R.state2 hce M.mle (nlr _) (fun j o h1 h2 h3 => by
      have hjn := (Array.getElem?_eq_some_iff.1 h1).1
      have := (M.heap j o h1 h2 h3).1 (hall j hjn)
      omega)
   refine hQ ρ a w M.lex (hst ▸ M.sim) ?_ M.def_
   refine M.tr_.congr (by rw [M.tn, R.tmpN ops.size (nlr _)]) (fun d => ?_) (by rw [M.gl, R.tmpG ops.size (nlr _)])
   obtain ⟨p, hp, h1, h2⟩ := M.slots d
   rw [h1]
   exact R.slot2 hp (nlr _) (fun j o k1 k2 => by
     have hjn := (Array.getElem?_eq_some_iff.1 k1).1
     have := (h2 j o k1 k2).1 (hall j hjn)
     omega)
 | succ fuel ih =>
  intro L a w ρ t m hcount M
  -- the first that is not listed is ready
  have hex : Region.ready .any ops L ≠ [] := by
   have : 0 < L.toList.countP (· == false) := by omega
   rw [List.countP_pos_iff] at this
   obtain ⟨b, hb, hbf⟩ := this
   obtain ⟨j0, hj0, hb0⟩ := List.mem_iff_getElem.1 hb
   have hex : ∃ j, j < ops.size ∧ L.getD j false = false := ⟨j0, by rw [← M.size]; simpa using hj0, by
     have h1 : j0 < L.size := by simpa using hj0
     simp [h1]
     simp at hb0
     rw [hb0]
     simpa using hbf⟩
   have : ∀ n, (∃ j, j < ops.size ∧ L.getD j false = false ∧ j ≤ n) → ∃ j, j < ops.size ∧ L.getD j false = false ∧ ∀ k, k < j → L.getD k false = true := by
    intro n
    induction n using Nat.strongRecOn with
    | _ n ihn =>
     rintro ⟨j, h1, h2, h3⟩
     by_cases hk : ∃ k, k < j ∧ L.getD k false = false
     ·obtain ⟨k, hk1, hk2⟩ := hk
      exact ihn k (by omega) ⟨k, by omega, hk2, nlr _⟩
     ·exact ⟨j, h1, h2, fun k hk1 => by
         cases hq : L.getD k false with
         | true => rfl
         | false => exact absurd ⟨k, hk1, hq⟩ hk⟩
   obtain ⟨j, h1, h2⟩ := hex
   obtain ⟨j, h1, h2, h3⟩ := this j ⟨j, h1, h2, nlr _⟩
   obtain ⟨o, ho⟩ := R.opAt h1
   have : j ∈ Region.ready .any ops L := mem_ready.2 ⟨by rw [getD_true_false M.size h1]; exact h2, o, ho, fun e he hb => h3 _ (R.dn j o ho e he hb)⟩
   intro hnil
   rw [hnil] at this
   cases this
  refine ⟨fun h => absurd h hex, fun i hi => ?_⟩
  obtain ⟨hi1, o, ho, hpred⟩ := mem_ready.1 hi
  have hin : i < ops.size := (Array.getElem?_eq_some_iff.1 ho).1
  have hiL : i < L.size := by rw [M.size]; exact hin
  have hunl : L.getD i false = false := by rw [← getD_true_false M.size hin]; exact hi1
  have hahead : ∀ k, aheadB (Region.before ops) k i = true → L.getD k false = true := ahead_listed M.closed i o ho hpred
  have hbehind : ∀ k, k < ops.size → aheadB (Region.before ops) i k = true → L.getD k false = false := by
   intro k hk h
   cases hq : L.getD k false with
   | false => rfl
   | true =>
    obtain ⟨ok, hok⟩ := R.opAt hk
    have := ahead_listed M.closed k ok hok (M.closed k ok hok hq) i h
    rw [hunl] at this
    cases this
  -- an operation that has an order with this one is listed just if it comes ahead in the text
  have hord : ∀ k, k < ops.size → (aheadB (Region.before ops) k i = true ∨ aheadB (Region.before ops) i k = true) → (L.getD k false = true ↔ k < i) := by
   intro k hk h
   rcases h with h | h
   ·have := R.up k i h hin
    exact ⟨fun _ => this, fun _ => hahead k h⟩
   ·have h1 := R.up i k h hk
    have h2 := hbehind k hk h
    rw [h2]
    exact ⟨fun h => (by cases h), fun h => (by omega)⟩
  have hset : ∀ j, (L.setIfInBounds i true).getD j false = if j = i then true else L.getD j false := by
   intro j
   by_cases hji : j = i
   ·subst hji; simp [hiL]
   ·rw [if_neg hji]
    simp [Array.getElem?_setIfInBounds_ne (Ne.symm hji)]
  have hcount' : ((L.setIfInBounds i true).toList.countP (· == false)) = fuel := by
   rw [Array.toList_setIfInBounds, List.countP_set (by simpa using hiL)]
   have : L.toList[i]'(by simpa using hiL) = false := by
    have := hunl
    simp [hiL] at this
    simpa using this
   rw [this, hcount]
   simp
  have hclosed' : Closed ops (L.setIfInBounds i true) := by
   intro j oj hj hl e he hb
   rw [hset] at hl ⊢
   by_cases hji : j = i
   ·subst hji
    rw [ho] at hj
    cases hj
    have := hpred e he hb
    split
    ·rfl
    ·exact this
   ·rw [if_neg hji] at hl
    have := M.closed j oj hj hl e he hb
    split
    ·rfl
    ·exact this
  -- the slots that it looks at hold what they hold in the text's order
  have hagree : Agree (tr i).1 t (o.looksAt ops) := by
   refine ⟨fun d hd => ?_, by rw [M.gl, R.tmpG i (by omega)]⟩
   obtain ⟨p, hp, h1, h2⟩ := M.slots d
   rw [h1]
   refine R.slot2 (by omega) hp (fun j oj hj hdj => ?_)
   rw [← h2 j oj hj hdj]
   by_cases hji : j = i
   ·subst hji
    rw [hunl]
    exact ⟨fun h => (by omega), fun h => (by cases h)⟩
   ·have hjn := (Array.getElem?_eq_some_iff.1 hj).1
    rcases R.two j i oj o hj ho hji with h | h | ⟨h, _⟩
    ·exact (hord j hjn (.inl h)).symm
    ·exact (hord j hjn (.inr h)).symm
    ·exact absurd hd ((Oper.apart_spec h).1 d hdj)
  -- the slots behind it
  have hslots' : ∀ (v : AV), (tr (i + 1)).1 = putA (tr i).1 o.dst v → t.n = (tr i).1.n → ∀ d : Tmp, ∃ p, p ≤ ops.size ∧ (putA t o.dst v).get d = (tr p).1.get d ∧
    ∀ (j : Nat) (o' : Oper), ops[j]? = some o' → o'.dst = some d → ((L.setIfInBounds i true).getD j false = true ↔ j < p) := by
   intro v hv hlen d
   by_cases hd : o.dst = some d
   ·refine ⟨i + 1, by omega, ?_, fun j oj hj hdj => ?_⟩
    ·rw [hv, hd]
     simp only [putA]
     rw [TL.get_set, TL.get_set, hlen]
     by_cases hb : d = d ∧ d < (tr i).1.n
     ·rw [if_pos hb, if_pos hb]
     ·have hdn : (tr 0).1.n ≤ d := by
       have hq := R.tmpN i (by omega)
       have hq2 : ¬ d < (tr i).1.n := fun h => hb ⟨rfl, h⟩
       rw [hq] at hq2
       exact Nat.le_of_not_lt hq2
      rw [if_neg hb, if_neg hb]
      obtain ⟨p, hp, h1, _⟩ := M.slots d
      rw [h1, R.tmpOut hdn p hp, R.tmpOut hdn i (by omega)]
    ·rw [hset]
     by_cases hji : j = i
     ·subst hji; simp
     ·rw [if_neg hji]
      have hjn := (Array.getElem?_eq_some_iff.1 hj).1
      have : L.getD j false = true ↔ j < i := by
       rcases R.two j i oj o hj ho hji with h | h | ⟨h, _⟩
       ·exact hord j hjn (.inl h)
       ·exact hord j hjn (.inr h)
       ·exact absurd hd ((Oper.apart_spec h).2.1 d hdj)
      rw [this]
      omega
   ·obtain ⟨p, hp, h1, h2⟩ := M.slots d
    refine ⟨p, hp, ?_, fun j oj hj hdj => ?_⟩
    ·rw [← h1]
     cases hdst : o.dst with
     | none => rfl
     | some d' =>
      simp only [putA]
      rw [TL.get_set, if_neg (fun e => hd (by rw [hdst, e.1]))]
    ·rw [hset, if_neg (fun e => by subst e; rw [ho] at hj; cases hj; exact hd hdj)]
     exact h2 j oj hj hdj
  have hlent : t.n = (tr i).1.n := by rw [M.tn, R.tmpN i (by omega)]
  obtain ⟨q, hq⟩ := R.hsAt ho
  cases q with
  | some cc =>
   -- what is laid early
   obtain ⟨c, cs⟩ := cc
   obtain ⟨hearly, hzs, hlf, hget⟩ := R.ear i o c cs ho hq
   have hcl := R.lt i c cs hq
   have hget' : (tr m).2.get c = some (earlyG cs o.op) := by
    rw [← hget]
    refine R.group2 hce M.mle (by omega) (fun j oj se h1 h2 h3 h4 => ?_)
    have hjn := (Array.getElem?_eq_some_iff.1 h1).1
    rcases R.al i j oj c cs se hq h1 h2 h3 with h | h
    ·left
     have h5 := hbehind j hjn h
     have := M.heap j oj h1 h4 h2
     rw [h5] at this
     simp at this
     omega
    ·exact .inr h
   have hρ : ∀ j, ρ c j = none := M.wait i c cs hq hunl
   obtain ⟨v, hval, hv⟩ := (R.earlyAt i o c cs ho hq).1
   rw [earlyVal_congr hagree] at hval
   have hgs : ∃ q, guardA ops t o.guard = some q := by
    unfold earlyVal at hval
    cases hq : guardA ops t o.guard with
    | none => simp [hq] at hval
    | some q => exact ⟨q, rfl⟩
   obtain ⟨q, hgd⟩ := hgs
   cases q with
   | false =>
    -- it isn't wanted
    have hvu : v = .undef := by
     unfold earlyVal at hval
     rw [hgd] at hval
     simpa using hval.symm
    subst hvu
    unfold wpOpIn
    rw [ho]
    simp only
    rw [if_neg (by rw [guard_sound M.tr_ hgd]; exact Bool.false_ne_true)]
    refine ⟨fun _ _ => trivial, ?_⟩
    refine ih _ _ _ ρ (putA t o.dst .undef) m hcount' ⟨by simp [M.size], hclosed', ?_, hslots' _ hv hlent, (by rw [putA_n, M.tn]), (by rw [putA_gl, M.gl]), M.mle, ?_, M.sim, ?_, M.lex, ?_⟩
    ·exact M.tr_.put .undef o.dst
    ·intro e' o' h1 h2 h3
     rw [hset, if_neg (fun e => by subst e; rw [hq] at h3; cases h3)]
     exact M.heap e' o' h1 h2 h3
    ·intro i' c' cs' h1 h2 j
     rw [hset] at h2
     by_cases hii : i' = i
     ·rw [if_pos hii] at h2; cases h2
     ·rw [if_neg hii] at h2
      exact M.wait i' c' cs' h1 h2 j
    ·rw [← M.def_]; cases o.dst <;> rfl
   | true =>
   obtain ⟨V, x, n0, v', hVG, hrun, hver, hvr⟩ := early_run (P := P) (w0 := w0) (B0 := B0) (ρ := ρ) (w := w) hT M.tr_ hearly hzs hlf hgd hval
   have hlt : c < (tr m).2.ctr := by have := R.ctr0 hce m M.mle; omega
   obtain ⟨hle, hsim⟩ := M.sim.layG hlt hρ (by rw [hget', hVG]) hver
   have hlex : ρ.lex c0 (ρ.put c 0 (w.heap.size, 0, n0)) := Loc.put_lex (hρ 0) (.inl hcl.1)
   unfold wpOpIn
   rw [ho]
   simp only
   rw [if_pos (guard_sound M.tr_ hgd)]
   refine ⟨fun _ _ => trivial, ?_⟩
   rw [sem_op (early_nodefer hearly), hrun, Oper.uponIn_value]
   refine ih _ _ _ (ρ.put c 0 (w.heap.size, 0, n0)) (putA t o.dst v) m hcount' ⟨by simp [M.size], hclosed', ?_, hslots' _ hv hlent, (by rw [putA_n, M.tn]), (by rw [putA_gl, M.gl]), M.mle, ?_, hsim, ?_, Loc.lex_trans M.lex hlex (nlr _), ?_⟩
   ·exact (TR.mono hle M.tr_).put (hvr _ Loc.put_eq) o.dst
   ·intro e' o' h1 h2 h3
    rw [hset, if_neg (fun e => by subst e; rw [hq] at h3; cases h3)]
    exact M.heap e' o' h1 h2 h3
   ·intro i' c' cs' h1 h2 j
    rw [hset] at h2
    by_cases hii : i' = i
    ·rw [if_pos hii] at h2; cases h2
    ·rw [if_neg hii] at h2
     have hcc : c' ≠ c := fun e => hii (R.inj i' i c cs' cs (e ▸ h1) hq)
     have := M.wait i' c' cs' h1 h2 j
     unfold Loc.put
     rw [if_neg (fun h => hcc h.1)]
     exact this
   ·rw [← M.def_]; cases o.dst <;> rfl
  | none =>
   obtain ⟨s', h1, h2⟩ := R.stepAt i o ho hq
   have hlate := R.late i o ho hq
   by_cases hturn : Oper.turns b o = true
   ·-- a turn: the state is the text's
    have hst : (tr m).2 = (tr i).2 := R.state2 hce M.mle (by omega) (fun j oj k1 k2 k3 => by
      have hjn := (Array.getElem?_eq_some_iff.1 k1).1
      rw [← M.heap j oj k1 k2 k3]
      by_cases hji : j = i
      · subst hji
        rw [hunl]
        exact ⟨fun h => (by cases h), fun h => (by omega)⟩
      · rcases R.two j i oj o k1 ho hji with h | h | ⟨_, h⟩
        · exact hord j hjn (.inl h)
        · exact hord j hjn (.inr h)
        · exact absurd ⟨k2, hturn⟩ h)
    obtain ⟨v, hv, hstep⟩ := step_same h1 hagree
    have hsim0 : Sim w0 B0 ρ { (tr i).2 with wr := [] } w := (hst ▸ M.sim).wr []
    refine step_sound hT hcall ho M.tr_ hsim0 hstep (fun ρ' v' u' w' k1 k2 k3 k4 => ?_)
    have hctr : c0 ≤ (tr i).2.ctr := Nat.le_trans hc0 (R.ctr0 hce i (by omega))
    refine ih _ _ _ ρ' (putA t o.dst v) (i + 1) hcount' ⟨by simp [M.size], hclosed', ?_, hslots' v hv hlent, (by rw [putA_n, M.tn]), (by rw [putA_gl, M.gl]), by omega, ?_, ?_, ?_, Loc.lex_trans M.lex k1 hctr, ?_⟩
    ·rw [k4]; exact (TR.mono k1.1 M.tr_).put k3 o.dst
    ·intro e' o' q1 q2 q3
     rw [hset]
     by_cases hei : e' = i
     ·subst hei; simp
     ·rw [if_neg hei]
      have hen := (Array.getElem?_eq_some_iff.1 q1).1
      have : L.getD e' false = true ↔ e' < i := by
       rcases R.two e' i o' o q1 ho hei with h | h | ⟨_, h⟩
       ·exact hord e' hen (.inl h)
       ·exact hord e' hen (.inr h)
       ·exact absurd ⟨q2, hturn⟩ h
      rw [this]
      omega
    ·rw [h2]; exact k2.wr _
    ·intro i' c' cs' q1 q2 j
     rw [hset] at q2
     by_cases hii : i' = i
     ·rw [if_pos hii] at q2; cases q2
     ·rw [if_neg hii] at q2
      refine k1.2 c' ?_ (M.wait i' c' cs' q1 q2) j
      have := (R.lt i' c' cs' q1).2
      exact Nat.lt_of_lt_of_le this (R.ctr0 hce i (by omega))
    ·rw [← M.def_]; cases o.dst <;> rfl
   ·-- it turns nothing
    have he : Op.eff o.op = false := by
     cases h : Op.eff o.op with
     | false => rfl
     | true => exact absurd (by simp [Oper.turns, h, hlate]) hturn
    have hrd : ∀ r, guardA ops (tr i).1 o.guard = some true → evOp T o.op (tr i).1 { (tr i).2 with wr := [] } = some (r, { (tr i).2 with wr := [] }) → evOp T o.op (tr i).1 { (tr m).2 with wr := [] } = some (r, { (tr m).2 with wr := [] }) := by
     intro r hg1 hr
     have hr' : evOp T o.op (tr i).1 (tr i).2 = some (r, (tr i).2) := evOp_heap he hr fun _ _ => rfl
     refine evOp_heap he (R.same2 hce ho hq he hg1 (by omega) M.mle (fun j oj k1 k2 k3 k4 => ?_) hr') fun _ _ => rfl
     have hjn := (Array.getElem?_eq_some_iff.1 k1).1
     rw [← M.heap j oj k1 k3 k2]
     exact hord j hjn k4
    obtain ⟨hs1, v, hv, hstep⟩ := step_still2 he h1 hagree hrd
    have hsim0 : Sim w0 B0 ρ { (tr m).2 with wr := [] } w := M.sim.wr []
    refine step_sound hT hcall ho M.tr_ hsim0 hstep (fun ρ' v' u' w' k1 k2 k3 k4 => ?_)
    have hctr : c0 ≤ (tr m).2.ctr := Nat.le_trans hc0 (R.ctr0 hce m M.mle)
    refine ih _ _ _ ρ' (putA t o.dst v) m hcount' ⟨by simp [M.size], hclosed', ?_, hslots' v hv hlent, (by rw [putA_n, M.tn]), (by rw [putA_gl, M.gl]), M.mle, ?_, ?_, ?_, Loc.lex_trans M.lex k1 hctr, ?_⟩
    ·rw [k4]; exact (TR.mono k1.1 M.tr_).put k3 o.dst
    ·intro e' o' q1 q2 q3
     rw [hset, if_neg (fun e => by subst e; rw [ho] at q1; cases q1; exact hturn q2)]
     exact M.heap e' o' q1 q2 q3
    ·have := k2.wr (tr m).2.wr
     exact this
    ·intro i' c' cs' q1 q2 j
     rw [hset] at q2
     by_cases hii : i' = i
     ·rw [if_pos hii] at q2; cases q2
     ·rw [if_neg hii] at q2
      refine k1.2 c' ?_ (M.wait i' c' cs' q1 q2) j
      have := (R.lt i' c' cs' q1).2
      exact Nat.lt_of_lt_of_le this (R.ctr0 hce m M.mle)
    ·rw [← M.def_]; cases o.dst <;> rfl
end
end Go.Ab
namespace Go.Ab
open Go.RowKit
section
variable {P : Program} {w0 : World} {B0 : Nat} {T : Tab}
variable {call : FuncId → List AV → St → Option (End × St)}

theorem log_ds {ops : Array Oper} : ∀ (l : List Oper) (hs : List (Option (Nat × List AV))) {t t' : TL} {s s' : St} {es : List Entry}, evLog T call ops l hs t s = some (t', s', es) → t'.ds = t.ds ∧ t'.rd = t.rd
 | [], hs, t, t', s, s', es, h => by
  have : evLog T call ops [] hs t s = some (t, s, []) := by cases hs <;> rfl
  rw [this] at h
  simp only [sjj, pjj] at h
  obtain ⟨rfl, _⟩ := h
  exact ⟨rfl, rfl⟩
 | o :: l, [], t, t', s, s', es, h => by
  simp only [evLog, sjj, pjj] at h
  obtain ⟨rfl, _⟩ := h
  exact ⟨rfl, rfl⟩
 | o :: l, some (c, cs) :: hs, t, t', s, s', es, h => by
  simp only [evLog] at h
  split at h
  ·cases h
  ·split at h
   ·cases h
   ·rename_i h1
    simp only [sjj, pjj] at h
    obtain ⟨rfl, _⟩ := h
    have := log_ds l hs h1
    rwa [putA_ds, putA_rd] at this
 | o :: l, none :: hs, t, t', s, s', es, h => by
  simp only [evLog] at h
  split at h
  ·cases h
  ·rename_i h1
   split at h
   ·cases h
   ·rename_i h2
    simp only [sjj, pjj] at h
    obtain ⟨rfl, _⟩ := h
    have q := log_ds l hs h2
    have r := evStep_ds h1
    exact ⟨q.1.trans r.1, q.2.trans r.2⟩

theorem logOk_2 {ops : Array Oper} {tr : List (TL × St)} {B : Array Nat} {l : List Entry} (h : logOk B l = true) : logOk2 T ops tr B l = true := by
 unfold logOk at h
 unfold logOk2
 refine aet.2 fun i hi => ?_
 have h1 := aet.1 h i hi
 cases hx : l[i]? with
 | none => rfl
 | some x =>
  simp only [hx, Bool.and_eq_true] at h1 ⊢
  refine ⟨?_, h1.2⟩
  have h2 := h1.1
  cases hr : x.rd with
  | none => rfl
  | some g =>
   simp only [hr] at h2 ⊢
   refine aet.2 fun e he => ?_
   have h3 := aet.1 h2 e he
   cases hy : l[e]? with
   | none => rw [hy] at h3; exact h3
   | some y =>
    simp only [hy, Bool.or_eq_true] at h3 ⊢
    rcases h3 with h3 | h3
    ·exact .inl h3
    ·exact .inr (.inl h3)
theorem draw_sound {rd : Option Nat} (hm : P.follows .mixedOrders = true) (hT : TabOk P T) (hcall : CallOk P w0 B0 call) (hce : CallExt call) {b : Bool} {gs : List (List AV)} {id : Nat} {ops : Array Oper} {ρ : Loc} {t t' : TL} {s s0 s' : St} {hs : List (Option (Nat × List AV))} {l : List Entry} {a : Act} {w : World}
  (ht : TR w0 B0 ρ t a.tmps) (hdf : DsR w0 B0 ρ t.ds a.defers) (hrd : RdR ρ t.rd rd) (hsim : Sim w0 B0 ρ s w) (hd : drawOk b ops = true) (hh : hoist b T ops.toList gs s = some (s0, hs)) (hlog : evLog T call ops ops.toList hs t s0 = some (t', s', l)) (hok : logOk2 T ops (evTrace T call ops ops.toList hs t s0) (Region.before ops) l = true) :
  (Code.region id ops true).wpIn (Fen rd) 0 P (After w0 B0 ρ s.ctr rd .normal t' s') a w := by
 have HS := hoist_spec _ _ _ _ _ hh
 have hx := Ext.hoist _ _ hh
 obtain ⟨tr, tr0, trn, hlen, hE, hS, hTr⟩ := log_spec ops.toList 0 hs t t' s0 s' l HS.len hlog
 simp only [Nat.zero_add, Array.length_toList, Array.getElem?_toList] at trn hlen hE hS hTr
 have hhl : hs.length = ops.size := by rw [HS.len]; simp
 have hlogAt : ∀ i x, l[i]? = some x → (∀ g, x.rd = some g → ∀ e y, l[e]? = some y → aheadB (Region.before ops) e i = true ∨ aheadB (Region.before ops) i e = true ∨ g ∉ y.wr ∨ sameB T ops (evTrace T call ops ops.toList hs t s0) i e = true) ∧
   (∀ g, x.al = some g → ∀ e y, l[e]? = some y → aheadB (Region.before ops) i e = true ∨ g ∉ y.wr) := by
  intro i x hi
  have hil : i < l.length := (ges.1 hi).1
  unfold logOk2 at hok
  have h1 := aet.1 hok i (List.mem_range.2 hil)
  simp only [hi, Bool.and_eq_true] at h1
  refine ⟨fun g hg e y he => ?_, fun g hg e y he => ?_⟩
  ·have h2 := h1.1
   simp only [hg] at h2
   have h3 := aet.1 h2 e (List.mem_range.2 (ges.1 he).1)
   simp only [he, Bool.or_eq_true, Bool.not_eq_true'] at h3
   rcases h3 with (h3 | h3) | h3 | h3
   ·exact .inl h3
   ·exact .inr (.inl h3)
   ·exact .inr (.inr (.inl (by simpa using h3)))
   ·exact .inr (.inr (.inr h3))
  ·have h2 := h1.2
   simp only [hg] at h2
   have h3 := aet.1 h2 e (List.mem_range.2 (ges.1 he).1)
   simp only [he, Bool.or_eq_true, Bool.not_eq_true'] at h3
   rcases h3 with h3 | h3
   ·exact .inl h3
   ·exact .inr (by simpa using h3)
 unfold drawOk at hd
 rw [Bool.and_eq_true] at hd
 have hdn : ∀ (j : Nat) (o : Oper), ops[j]? = some o → ∀ e ∈ o.after, Region.binds .any e = true → e.on < j := by
  intro j o ho e he hb
  have h1 := aet.1 hd.1 j (List.mem_range.2 (Array.getElem?_eq_some_iff.1 ho).1)
  simp only [ho] at h1
  have h2 := Array.all_eq_true_iff_forall_mem.1 h1 e he
  simpa [hb] using h2
 have hup : ∀ (j : Nat), j < ops.size → ∀ i, aheadB (Region.before ops) i j = true → i < j := by
  intro j
  induction j using Nat.strongRecOn with
  | _ j ih =>
   intro hj i h
   obtain ⟨e, he, hb, h⟩ := before_spec (o := ops[j]) (by simp [hj]) h
   have hlt := hdn j ops[j] (by simp [hj]) e he hb
   rcases h with h | ⟨_, h⟩
   ·omega
   ·have := ih e.on hlt (by omega) i h
    omega
 have htwo : ∀ (i j : Nat) (x y : Oper), ops[i]? = some x → ops[j]? = some y → i < j → aheadB (Region.before ops) i j = true ∨ (Oper.apart ops x y = true ∧ Oper.apart ops y x = true ∧ ¬ (Oper.turns b x = true ∧ Oper.turns b y = true)) := by
  intro i j x y hi hj hlt
  have h1 := aet.1 hd.2 j (List.mem_range.2 (Array.getElem?_eq_some_iff.1 hj).1)
  have h2 := aet.1 h1 i (List.mem_range.2 hlt)
  simp only [hi, hj, Bool.or_eq_true, Bool.and_eq_true, Bool.not_eq_true'] at h2
  rcases h2 with h2 | ⟨⟨h2, h3⟩, h4⟩
  ·exact .inl h2
  ·exact .inr ⟨h2, h3, fun ⟨q1, q2⟩ => by rw [q1, q2] at h4; simp at h4⟩
 have R : Reg b T call ops hs s.ctr tr l := {
   hl := hhl
   earlyAt := fun i o c cs ho hc => ⟨(hE i o c cs ho hc).1, (hE i o c cs ho hc).2.1⟩
   stepAt := fun i o ho hc => by obtain ⟨s1, h1, h2, _⟩ := hS i o ho hc; exact ⟨s1, h1, h2⟩
   ear := fun i o c cs ho hc => by rw [tr0]; exact HS.ear i o c cs (by simpa using ho) hc
   late := fun i o ho hc => HS.late i o (by simpa using ho) hc
   inj := HS.inj
   lt := fun i c cs hc => by rw [tr0]; exact HS.lt i c cs hc
   rd := fun i e o oe g se ho hc hg hr hoe hce' hst => by
     obtain ⟨s1, h1, h2, h3⟩ := hS i o ho hc
     obtain ⟨s2, k1, k2, k3⟩ := hS e oe hoe hce'
     rw [hst] at k1
     cases k1
     rcases (hlogAt i _ h3).1 g (by simp [hg, hr]) e _ k3 with k | k | k | k
     · exact .inl k
     · exact .inr (.inl k)
     · exact .inr (.inr (.inl k))
     · refine .inr (.inr (.inr ?_))
       have hin := (Array.getElem?_eq_some_iff.1 ho).1
       have hen := (Array.getElem?_eq_some_iff.1 hoe).1
       simp only [sameB, ho, hTr i (by omega), hTr e (by omega), hTr (e + 1) (by omega)] at k
       split at k
       · rename_i q1 q2
         rw [eqB_ok k] at q1
         exact ⟨_, _, _, q1, q2⟩
       · cases k
   al := fun i e oe c cs se hc hoe hce' hst => by
     have hi : i < ops.size := by rw [← hhl]; exact (ges.1 hc).1
     obtain ⟨_, _, h3⟩ := hE i ops[i] c cs (by simp [hi]) hc
     obtain ⟨s2, k1, k2, k3⟩ := hS e oe hoe hce'
     rw [hst] at k1
     cases k1
     exact (hlogAt i _ h3).2 c rfl e _ k3
   two := fun i j x y hi hj hne => by
     rcases Nat.lt_or_gt_of_ne hne with hlt | hlt
     · rcases htwo i j x y hi hj hlt with h | ⟨h, _, h2⟩
       · exact .inl h
       · exact .inr (.inr ⟨h, h2⟩)
     · rcases htwo j i y x hj hi hlt with h | ⟨_, h, h2⟩
       · exact .inr (.inl h)
       · exact .inr (.inr ⟨h, fun q => h2 ⟨q.2, q.1⟩⟩)
   up := fun i j h hj => hup j hj i h
   dn := hdn }
 refine wpIn_region_any hm ?_
 refine draw_steps (m := 0) (ρ := ρ) (t := t) (ρ0 := ρ) (d0 := a.defers) hT hcall hce R (by rw [tr0]; exact hx.ctr) (fun ρ' a' w' k1 k2 k3 k4 => ?_) ops.size _ a _ ?_ ?_
 ·rw [trn] at k2 k3
  have hds := log_ds _ _ hlog
  exact ⟨ρ', k1, trivial, k2, k3, by rw [hds.1, k4]; exact hdf.mono k1.1, by rw [hds.2]; exact hrd.mono k1.1⟩
 ·simp [List.countP_replicate]
 ·have hfalse : ∀ j, (Array.replicate ops.size false).getD j false = false := fun j => by
   simp only [Array.getD_eq_getD_getElem?, Array.getElem?_replicate]
   split <;> rfl
  refine ⟨by simp, fun j o hj h => (by rw [hfalse] at h; cases h), ht, fun d => ⟨0, by omega, (by rw [tr0]), fun j o hj hd => (by rw [hfalse]; simp)⟩, (by rw [tr0]), (by rw [tr0]), by omega, fun e o h1 h2 h3 => (by rw [hfalse]; simp), ?_, fun i c cs h1 _ j => ?_, Loc.lex_refl _ _, rfl⟩
  ·rw [tr0]
   -- the early variables' groups are there; nothing of them lies anywhere yet
   have grow : ∀ (l : List Oper) (gs : List (List AV)) (s s' : St) (hs : List (Option (Nat × List AV))), hoist b T l gs s = some (s', hs) → ∀ {w : World}, Sim w0 B0 ρ s w → Sim w0 B0 ρ s' w := by
    intro l
    induction l with
    | nil => intro gs s s' hs h w hw; simp only [hoist, sjj, pjj] at h; obtain ⟨rfl, _⟩ := h; exact hw
    | cons o l ih =>
     intro gs s s' hs h w hw
     simp only [hoist] at h
     repeat' split at h
     all_goals first
      | (cases h; done)
      | (rename_i h2; simp only [sjj, pjj] at h; obtain ⟨rfl, _⟩ := h; first | exact ih _ _ _ _ h2 (hw.newG _) | exact ih _ _ _ _ h2 hw)
   exact (grow _ _ _ _ _ hh hsim).drew
  ·cases hq : ρ c j with
   | none => rfl
   | some x =>
    have h2 := hsim.ctr _ _ _ hq
    have h3 := (HS.lt i c cs h1).1
    omega



set_option maxHeartbeats 1600000 in
theorem range_sound {rd : Option Nat} (_hT : TabOk P T) (hcall : CallOk P w0 B0 call) (hce : CallExt call) {f : Operand} {ps : Array Tmp} {asg bd : Code} {gf : FuncId} {caps : List AV} {arr : Array Value} {ρ : Loc} {t t' : TL} {s s1 s2 s' : St} {x : Ex} {a : Act} {w : World} {dg : Nat} {mk : List DefA} {v : AV} {r : LRec}
  (h0 : gf < yb) (ha1 : caps.length = arr.size) (ha2 : ∀ (i : Nat) (u : AV) (v : Value), caps[i]? = some u → arr[i]? = some v → VR w0 B0 ρ u v) (hef : a.eval f = .func (.func gf) #[] arr)
  (ht : TR w0 B0 ρ t a.tmps) (hd : DsR w0 B0 ρ t.ds a.defers) (hr : RdR ρ t.rd rd) (hs : Sim w0 B0 ρ s w) (hst : loopStart t s = some (dg, mk, s1))
  (hc : call gf (.fn (yb + s1.ctr) [] :: caps) (s1.newOwn (.loop ⟨.ready, none, t, ps, asg, bd, dg⟩)) = some (.ret v, s2)) (hlr : s2.loop s1.ctr = some r) (hb : r.state ≠ .busy)
  (hj : ∀ (c : Code) (ρ' : Loc) (a' : Act) (w' : World), r.pend = some c → ρ.lex s.ctr ρ' → TR w0 B0 ρ' { t with ds := mk ++ t.ds } a'.tmps → DsR w0 B0 ρ' (mk ++ t.ds) a'.defers → RdR ρ' t.rd rd → Sim w0 B0 ρ' (s2.setOwn s1.ctr (.loop { r with state := .exhausted })) w' → c.wpIn (Fen rd) 0 P (After w0 B0 ρ' (s2.setOwn s1.ctr (.loop { r with state := .exhausted })).ctr rd x t' s') a' w')
  (hn : r.pend = none → x = .normal ∧ t' = { t with ds := mk ++ t.ds } ∧ s' = s2.setOwn s1.ctr (.loop { r with state := .exhausted })) :
  (Code.rangeFunc f ps asg bd).wpIn (Fen rd) 0 P (After w0 B0 ρ s.ctr rd x t' s') a w := by
 refine wpIn_rangeFunc fun fn _ => ?_
 -- the blocks that are laid
 have start : ∃ (mark : List Deferred) (w1 : World) (ρ1 : Loc) (bd' n' : Nat), ρ.lex s.ctr ρ1 ∧ Sim w0 B0 ρ1 s1 w1 ∧ DsR w0 B0 ρ1 (mk ++ t.ds) (mark ++ a.defers) ∧ ρ1 dg 0 = some (bd', 0, n') ∧
   (Instr.enterLoop fn a.tmps ps asg bd (Fen rd).round).run P w = .ok (w1.heap.size, mark) (w1.alloc (.loop { state := .ready, pending := none, fn, tmps := a.tmps, params := ps, assign := asg, body := bd, defers := bd' })) := by
  unfold loopStart at hst
  split at hst
  ·rename_i hrd
   rw [hrd] at hr
   cases rd with
   | some b => exact hr.elim
   | none =>
   simp only [sjj, pjj] at hst
   obtain ⟨rfl, rfl, rfl⟩ := hst
   obtain ⟨ρ1, k1, k2, k3⟩ := hs.new_own (.dfr true) (.deferred (some [])) 0 fun ρ' w' b _ hb => .own _ _ rfl hb (.dfr true) rfl rfl
   refine ⟨[{ target := .collected w.heap.size, args := #[] }], w.alloc (.deferred (some [])), ρ1, w.heap.size, 0, k1, k3, ⟨.col _ _ _ k2, hd.mono k1.1⟩, k2, ?_⟩
   have := run_enterLoop_outer (P := P) (w := w) fn a.tmps ps asg bd
   rw [World.size_alloc]
   exact this
  ·rename_i g hrd
   rw [hrd] at hr
   cases rd with
   | none => exact hr.elim
   | some b =>
   obtain ⟨n, hρ⟩ := hr
   split at hst
   ·rename_i r0 hl0
    simp only [sjj, pjj] at hst
    obtain ⟨rfl, rfl, rfl⟩ := hst
    obtain ⟨V, x0, _, hw, ho⟩ := hs.loop hρ hl0
    cases ho with
    | loop _ _ b' n' k1 k2 k3 k4 k5 k6 k7 k8 =>
    refine ⟨[], w, ρ, b', n', Loc.lex_refl _ _, hs, hd, k7, ?_⟩
    have := run_enterLoop_inner (P := P) hw fn a.tmps ps asg bd
    rw [k8] at this
    exact this
   ·cases hst
 obtain ⟨mark, w1, ρ1, bd', n', m1, m2, m3, m4, m5⟩ := start
 have hs1 : s.ctr ≤ s1.ctr := (Ext.loopStart hst).ctr
 obtain ⟨ρ2, k1, k2, k3⟩ := m2.new_own (.loop ⟨.ready, none, t, ps, asg, bd, dg⟩) (.loop { state := .ready, pending := none, fn, tmps := a.tmps, params := ps, assign := asg, body := bd, defers := bd' }) 0
  fun ρ' w' b hle hb => .own _ _ rfl hb (.loop _ _ bd' n' rfl rfl ((ht.mono m1.1).mono hle) rfl rfl rfl (hle _ _ _ m4) rfl) rfl rfl
 have hle2 : ρ.lex s.ctr ρ2 := Loc.lex_trans m1 k1 hs1
 obtain ⟨W2, hW2⟩ : ∃ W, W = w1.alloc (.loop { state := .ready, pending := none, fn, tmps := a.tmps, params := ps, assign := asg, body := bd, defers := bd' }) := ⟨_, rfl⟩
 rw [← hW2] at k3 m5
 obtain ⟨hcb, hcs⟩ := ((hcall _ _ _ _ _ hc).1 h0).resolve_right fun h => h.1 _ _ _ rfl
 obtain ⟨fn', c1, c2, c3⟩ := hcb
 have hcr : CR w0 B0 ρ2 (.fn (yb + s1.ctr) [] :: caps) (#[Value.func (.yield w1.heap.size) #[] #[]] ++ arr).toList := by
  rw [Array.toList_append]
  exact CR.cons (.yld _ _ _ k2) ⟨by simpa using ha1, fun i u v hu hv => (ha2 i u v hu (by simpa using hv)).mono hle2.1⟩
 have hcs' := hcs ρ2 W2 _ k3 hcr
 refine ⟨w1.heap.size, mark, W2, { target := .fn (.func gf) arr, args := #[Value.func (.yield w1.heap.size) #[] #[]] }, W2, gf, #[Value.func (.yield w1.heap.size) #[] #[]] ++ arr, W2, m5, ?_, fun _ _ => trivial, ?_, fun h => (by cases h), CallsIn.mono hcs' ?_⟩
 ·have hy : a.eval (.const (.func (.yield w1.heap.size) #[] #[])) = .func (.yield w1.heap.size) #[] #[] := rfl
  simp [resolve, hef, Deferred.ofValue, hy]
 ·simp only [invoke, callFunc, Sem.run_bind, run_program, Result.andThen_ok, c1, c3, c2, Bool.false_eq_true, if_false, Sem.run_pure]
 ·rintro e w3 ⟨ρ3, q1, q2, q3⟩
  cases e with
  | panicked ch => exact q3.elim
  | outgrown => exact q3.elim
  | returned v' =>
   have hle3 : ρ.lex s.ctr ρ3 := Loc.lex_trans hle2 q1 (by show s.ctr ≤ s1.ctr + 1; omega)
   have hρ3 := q1.1 _ _ _ k2
   obtain ⟨V, x0, hG, hw, ho⟩ := q2.loop hρ3 hlr
   have hx0 : x0.state = r.state ∧ x0.pending = r.pend := by
    cases ho with
    | loop _ _ b' n' k1 k2 => exact ⟨k1, k2⟩
   have hend := run_endLoop (P := P) hw (by rw [hx0.1]; exact hb)
   have hput := q2.put_loop hρ3 hG hw ho .exhausted r.pend
   rw [← hx0.2] at hput
   have hput' : Sim w0 B0 ρ3 (s2.setOwn s1.ctr (.loop { r with state := .exhausted })) (w3.putObj w1.heap.size (.loop { x0 with state := .exhausted })) := by
    have e1 : ({ r with state := LoopState.exhausted, pend := x0.pending } : LRec) = { r with state := .exhausted } := by rw [hx0.2]
    rw [e1] at hput
    exact hput
   generalize w3.putObj w1.heap.size (.loop { x0 with state := .exhausted }) = W4 at hend hput'
   refine ⟨x0.pending, W4, hend, ?_⟩
   rw [hx0.2]
   have hD : DsR w0 B0 ρ3 (mk ++ t.ds) (mark ++ a.defers) := (m3.mono k1.1).mono q1.1
   cases hp : r.pend with
   | none =>
    obtain ⟨rfl, rfl, rfl⟩ := hn hp
    exact ⟨ρ3, hle3, trivial, hput', (ht.mono hle3.1).congr rfl (fun _ => rfl) rfl, hD, hr.mono hle3.1⟩
   | some c =>
    refine wpIn_mono (hj c ρ3 { a with defers := mark ++ a.defers } _ hp hle3 ((ht.mono hle3.1).congr rfl (fun _ => rfl) rfl) hD (hr.mono hle3.1) hput') fun e2 a2 w2 k => k.mono hle3 ?_
    have e2 := (hce _ _ _ _ _ hc).ctr
    have e3 : s1.ctr ≤ (s1.newOwn (.loop ⟨.ready, none, t, ps, asg, bd, dg⟩)).ctr := by show s1.ctr ≤ s1.ctr + 1; omega
    show s.ctr ≤ s2.ctr
    omega
theorem draw_one {rd : Option Nat} (hm : P.follows .mixedOrders = true) (hT : TabOk P T) (hcall : CallOk P w0 B0 call) (hce : CallExt call) {b : Bool} {gs : List (List AV)} {id : Nat} {ops : Array Oper} {ρ : Loc} {t t' : TL} {s s' : St} {a : Act} {w : World} (ht : TR w0 B0 ρ t a.tmps) (hdf : DsR w0 B0 ρ t.ds a.defers) (hrd : RdR ρ t.rd rd) (hs : Sim w0 B0 ρ s w) (hd : drawOk b ops = true)
  (h : evDraw T call b gs ops t s = some (t', s')) : (Code.region id ops true).wpIn (Fen rd) 0 P (After w0 B0 ρ s.ctr rd .normal t' s') a w := by
 unfold evDraw at h
 cases hh : hoist b T ops.toList gs s with
 | none => simp [hh] at h
 | some sh =>
  obtain ⟨s0, hl⟩ := sh
  simp only [hh] at h
  cases h1 : evLog T call ops ops.toList hl t s0 with
  | none => simp [h1] at h
  | some ts =>
   obtain ⟨t1, s1, l⟩ := ts
   simp only [h1] at h
   split at h
   ·rename_i hlog
    simp only [sjj, pjj] at h
    obtain ⟨rfl, rfl⟩ := h
    exact draw_sound hm hT hcall hce ht hdf hrd hs hd hh h1 (logOk_2 hlog)
   ·split at h
    ·rename_i hlog
     simp only [sjj, pjj] at h
     obtain ⟨rfl, rfl⟩ := h
     exact draw_sound hm hT hcall hce ht hdf hrd hs hd hh h1 hlog
    ·cases h

theorem code_sound (hm : P.follows .mixedOrders = true) (hT : TabOk P T) (hcall : CallOk P w0 B0 call) (hce : CallExt call) : ∀ (n : Nat),
  (∀ (c : Code) {rd : Option Nat} {ρ : Loc} {t t' : TL} {s s' : St} {x : Ex} {a : Act} {w : World}, TR w0 B0 ρ t a.tmps → DsR w0 B0 ρ t.ds a.defers → RdR ρ t.rd rd → Sim w0 B0 ρ s w → evCode T call n c t s = some (x, t', s') → c.wpIn (Fen rd) 0 P (After w0 B0 ρ s.ctr rd x t' s') a w) ∧
  (∀ (b c : Code) {rd : Option Nat} {ρ : Loc} {t t' : TL} {s s' : St} {x : Ex} {a : Act} {w : World}, TR w0 B0 ρ t a.tmps → DsR w0 B0 ρ t.ds a.defers → RdR ρ t.rd rd → Sim w0 B0 ρ s w → evCode.evScope T call n b c t s = some (x, t', s') → ScopeAt P rd b c (After w0 B0 ρ s.ctr rd x t' s') a w) ∧
  (∀ (c : Code) {rd : Option Nat} {ρ : Loc} {t t' : TL} {s s' : St} {x : Ex} {a : Act} {w : World}, TR w0 B0 ρ t a.tmps → DsR w0 B0 ρ t.ds a.defers → RdR ρ t.rd rd → Sim w0 B0 ρ s w → evCode T call n (.loop c) t s = some (x, t', s') → LoopAt P rd c (After w0 B0 ρ s.ctr rd x t' s') a w) := by
 intro n
 induction n with
 | zero => exact ⟨fun c rd ρ t t' s s' x a w _ _ _ _ h => by simp [evCode] at h, fun b c rd ρ t t' s s' x a w _ _ _ _ h => by simp [evCode.evScope] at h, fun c rd ρ t t' s s' x a w _ _ _ _ h => by simp [evCode] at h⟩
 | succ n ih =>
  obtain ⟨ihc, ihs, ihl⟩ := ih
  have hloop : ∀ (c : Code) {rd : Option Nat} {ρ : Loc} {t t' : TL} {s s' : St} {x : Ex} {a : Act} {w : World}, TR w0 B0 ρ t a.tmps → DsR w0 B0 ρ t.ds a.defers → RdR ρ t.rd rd → Sim w0 B0 ρ s w → evCode T call (n + 1) (.loop c) t s = some (x, t', s') →
    LoopAt P rd c (After w0 B0 ρ s.ctr rd x t' s') a w := by
   intro c rd ρ t t' s s' x a w ht hd hr hs h
   simp only [evCode] at h
   refine LoopAt.of ?_
   cases h1 : evCode T call n c t s with
   | none => simp [h1] at h
   | some r =>
    obtain ⟨x1, t1, s1⟩ := r
    refine wpIn_mono (ihc c ht hd hr hs h1) (fun e a' w' ⟨ρ', k3, k1, k4, k5, k6, k7⟩ => ?_)
    cases x1 with
    | normal =>
     simp only [h1] at h
     cases e <;> simp only [ExR] at k1
     simp only [Exit.then]
     have := ihl c k5 k6 k7 k4 h
     intro fb k cs hfb
     obtain ⟨e2, a2, w2, q1, q2⟩ := this fb k cs hfb
     exact ⟨e2, a2, w2, q1.mono k3 ((Ext.code hce n).1 _ h1).ctr, q2⟩
    | _ =>
     simp only [h1, sjj, pjj] at h
     obtain ⟨rfl, rfl, rfl⟩ := h
     cases e <;> simp only [ExR] at k1 <;> exact ⟨ρ', k3, k1, k4, k5, k6, k7⟩
  refine ⟨fun c rd ρ t t' s s' x a w ht hd hr hs h => ?_, fun b c rd ρ t t' s s' x a w ht hd hr hs h => ?_, fun c rd ρ t t' s s' x a w ht hd hr hs h => hloop c ht hd hr hs h⟩
  ·cases c with
   | skip =>
    simp only [evCode, sjj, pjj] at h
    obtain ⟨rfl, rfl, rfl⟩ := h
    exact wpIn_skip ⟨ρ, Loc.lex_refl _ _, trivial, hs, ht, hd, hr⟩
   | label l =>
    simp only [evCode, sjj, pjj] at h
    obtain ⟨rfl, rfl, rfl⟩ := h
    exact wpIn_label ⟨ρ, Loc.lex_refl _ _, trivial, hs, ht, hd, hr⟩
   | exit id =>
    simp only [evCode, sjj, pjj] at h
    obtain ⟨rfl, rfl, rfl⟩ := h
    exact wpIn_exit ⟨ρ, Loc.lex_refl _ _, rfl, hs, ht, hd, hr⟩
   | goto l =>
    simp only [evCode, sjj, pjj] at h
    obtain ⟨rfl, rfl, rfl⟩ := h
    exact wpIn_goto ⟨ρ, Loc.lex_refl _ _, rfl, hs, ht, hd, hr⟩
   | ret =>
    simp only [evCode, sjj, pjj] at h
    obtain ⟨rfl, rfl, rfl⟩ := h
    exact wpIn_ret ⟨ρ, Loc.lex_refl _ _, trivial, hs, ht, hd, hr⟩
   | region id ops draw =>
    cases draw with
    | false =>
     simp only [evCode] at h
     cases h1 : evOps T call ops ops.toList t s with
     | none =>
      simp only [h1] at h
      split at h
      ·cases h
      ·rename_i v t1 s1 h2
       simp only [sjj, pjj] at h
       obtain ⟨rfl, rfl, rfl⟩ := h
       refine wpIn_region ?_
       have := opsP_sound (rd := rd) (Q := After w0 B0 ρ s.ctr rd (.panic v) t1 s1) hT hcall hce ops.toList 0 (fun j => by simp) ht hd hr hs h2 (fun ρ' v' a' w' k1 k2 k3 k4 k5 k6 => ⟨ρ', k1, ⟨v', rfl, k6⟩, k2, k3, k4, k5⟩)
       rwa [Array.length_toList, ← List.range_eq_range'] at this
     | some ts =>
      obtain ⟨t1, s1⟩ := ts
      simp only [h1, sjj, pjj] at h
      obtain ⟨rfl, rfl, rfl⟩ := h
      refine wpIn_region ?_
      have := ops_sound (rd := rd) (Q := After w0 B0 ρ s.ctr rd .normal t1 s1) hT hcall hce ops.toList 0 (fun j => by simp) ht hd hr hs h1 (fun ρ' a' w' k1 k2 k3 k4 k5 => ⟨ρ', k1, trivial, k2, k3, k4, k5⟩)
      rwa [Array.length_toList, ← List.range_eq_range'] at this
    | true =>
     simp only [evCode] at h
     split at h
     ·rename_i hdo
      split at h
      ·cases h
      ·rename_i h1
       simp only [sjj, pjj] at h
       obtain ⟨rfl, rfl, rfl⟩ := h
       exact draw_one hm hT hcall hce ht hd hr hs hdo h1
     ·split at h
      ·rename_i hdo
       split at h
       ·cases h
       ·split at h
        ·cases h
        ·rename_i h1
         simp only [sjj, pjj] at h
         obtain ⟨rfl, rfl, rfl⟩ := h
         exact draw_one hm hT hcall hce ht hd hr hs hdo h1
      ·cases h
   | seq c1 c2 =>
    simp only [evCode] at h
    refine wpIn_seq ?_
    cases h1 : evCode T call n c1 t s with
    | none => simp [h1] at h
    | some r =>
     obtain ⟨x1, t1, s1⟩ := r
     refine wpIn_mono (ihc c1 ht hd hr hs h1) (fun e a' w' ⟨ρ', k3, k1, k4, k5, k6, k7⟩ => ?_)
     cases x1 with
     | normal =>
      simp only [h1] at h
      cases e <;> simp only [ExR] at k1
      simp only [Exit.then]
      refine wpIn_mono (ihc c2 k5 k6 k7 k4 h) (fun e2 a2 w2 k => ?_)
      exact k.mono k3 ((Ext.code hce n).1 _ h1).ctr
     | _ =>
      simp only [h1, sjj, pjj] at h
      obtain ⟨rfl, rfl, rfl⟩ := h
      cases e <;> simp only [ExR] at k1 <;> exact ⟨ρ', k3, k1, k4, k5, k6, k7⟩
   | cond q c1 c2 =>
    simp only [evCode] at h
    split at h
    ·rename_i b hb
     have hrq := ht.eval hb
     generalize he : a.eval q = q' at hrq
     cases hrq
     refine wpIn_cond he ?_
     exact ihc _ ht hd hr hs h
    ·cases h
   | block id c =>
    simp only [evCode] at h
    refine wpIn_block ?_
    cases h1 : evCode T call n c t s with
    | none => simp [h1] at h
    | some r =>
     obtain ⟨x1, t1, s1⟩ := r
     refine wpIn_mono (ihc c ht hd hr hs h1) (fun e a' w' ⟨ρ', k3, k1, k4, k5, k6, k7⟩ => ?_)
     cases x1 with
     | exit id' =>
      simp only [h1] at h
      cases e <;> simp only [ExR] at k1
      subst k1
      simp only [Exit.inBlock]
      split at h
      ·rename_i hid
       simp only [sjj, pjj] at h
       obtain ⟨rfl, rfl, rfl⟩ := h
       rw [if_pos hid]
       exact ⟨ρ', k3, trivial, k4, k5, k6, k7⟩
      ·rename_i hid
       simp only [sjj, pjj] at h
       obtain ⟨rfl, rfl, rfl⟩ := h
       rw [if_neg hid]
       exact ⟨ρ', k3, rfl, k4, k5, k6, k7⟩
     | _ =>
      simp only [h1, sjj, pjj] at h
      obtain ⟨rfl, rfl, rfl⟩ := h
      cases e <;> simp only [ExR] at k1 <;> exact ⟨ρ', k3, k1, k4, k5, k6, k7⟩
   | loop c => exact LoopAt.loop (hloop c ht hd hr hs h)
   | scope c =>
    simp only [evCode] at h
    exact ScopeAt.scope (ihs c c ht hd hr hs h)
   | rangeFunc f ps asg bd =>
    simp only [evCode] at h
    split at h
    ·rename_i gf caps hf
     split at h
     ·cases h
     rename_i hyb
     have hyb : gf < yb := Nat.lt_of_not_le hyb
     have rf := ht.eval hf
     generalize hef : a.eval f = f' at rf
     cases rf with
     | yld gr b n hρ => exact absurd hyb (Nat.not_lt.2 (Nat.le_add_right _ _))
     | fn _ _ arr h0 ha1 ha2 =>
     split at h
     ·cases h
     ·rename_i dg mk s1 hst
      split at h
      ·rename_i v s2 hc
       split at h
       ·cases h
       ·rename_i r hlr
        split at h
        ·cases h
        ·rename_i hbusy
         split at h
         ·rename_i hp
          exact range_sound hT hcall hce h0 ha1 ha2 hef ht hd hr hs hst hc hlr (by simpa using hbusy) (fun c ρ' a' w' q1 q2 q3 q4 q5 q6 => by rw [hp] at q1; cases q1) (fun _ => by
            simp only [sjj, pjj] at h
            obtain ⟨rfl, rfl, rfl⟩ := h
            exact ⟨rfl, rfl, rfl⟩)
         ·rename_i c hp
          exact range_sound hT hcall hce h0 ha1 ha2 hef ht hd hr hs hst hc hlr (by simpa using hbusy) (fun c' ρ' a' w' q1 q2 q3 q4 q5 q6 => by
            rw [hp] at q1
            cases q1
            exact ihc c q3 q4 q5 q6 h) (fun q1 => by rw [hp] at q1; cases q1)
      ·cases h
    ·cases h
   | refuse why => simp [evCode] at h
  ·simp only [evCode.evScope] at h
   refine ScopeAt.of ?_
   cases h1 : evCode T call n c t s with
   | none => simp [h1] at h
   | some r =>
    obtain ⟨x1, t1, s1⟩ := r
    refine wpIn_mono (ihc c ht hd hr hs h1) (fun e a' w' ⟨ρ', k3, k1, k4, k5, k6, k7⟩ => ?_)
    cases x1 with
    | goto l =>
     simp only [h1] at h
     cases e <;> simp only [ExR] at k1
     subst k1
     simp only [scopeQ]
     cases hf : findLabel b l with
     | some rest =>
      simp only [hf] at h
      have := ihs b rest k5 k6 k7 k4 h
      intro fb k cs hfb
      obtain ⟨e2, a2, w2, q1, q2⟩ := this fb k cs hfb
      exact ⟨e2, a2, w2, q1.mono k3 ((Ext.code hce n).1 _ h1).ctr, q2⟩
     | none =>
      simp only [hf, sjj, pjj] at h
      obtain ⟨rfl, rfl, rfl⟩ := h
      exact ⟨ρ', k3, rfl, k4, k5, k6, k7⟩
    | _ =>
     simp only [h1, sjj, pjj] at h
     obtain ⟨rfl, rfl, rfl⟩ := h
     cases e <;> simp only [ExR] at k1 <;> exact ⟨ρ', k3, k1, k4, k5, k6, k7⟩
end
end Go.Ab
namespace Go.Ab
open Go.RowKit
section
variable {P : Program} {w0 : World} {B0 : Nat} {T : Tab}
variable {call : FuncId → List AV → St → Option (End × St)}

theorem TR.setL {ρ : Loc} : ∀ (ps : List Tmp) (args : List AV) (vs : List Value) {t : TL} {tm : Array Value}, TR w0 B0 ρ t tm → CR w0 B0 ρ args vs → TR w0 B0 ρ (TL.setL ps args t) ((ps.zip vs).foldl (fun tmps (t, a) => tmps.setIfInBounds t a) tm)
 | [], args, vs, t, tm, h, _ => by
  have : TL.setL [] args t = t := by cases args <;> rfl
  rw [this]
  exact h
 | p :: ps, [], vs, t, tm, h, hc => by
  have : vs = [] := List.length_eq_zero_iff.1 hc.1.symm
  subst this
  exact h
 | p :: ps, x :: args, [], t, tm, h, hc => by have := hc.1; simp at this
 | p :: ps, x :: args, v :: vs, t, tm, h, hc => by
  have h1 := TR.put (a := { tmps := tm, defers := [] }) h (hc.2 0 x v rfl rfl) (some p)
  refine TR.setL ps args vs h1 ⟨by simpa using hc.1, fun i u y hu hy => hc.2 (i + 1) u y (by simpa using hu) (by simpa using hy)⟩

theorem round_sound (hm : P.follows .mixedOrders = true) (hT : TabOk P T) (hcall : CallOk P w0 B0 call) (hce : CallExt call) {n g : Nat} {args : List AV} {s s' : St} {e : End} (h : evRound T call n g args s = some (e, s'))
  {ρ : Loc} {w : World} {args' : Array Value} {b n' : Nat} (hρ : ρ g 0 = some (b, 0, n')) (hs : Sim w0 B0 ρ s w) (ha : CR w0 B0 ρ args args'.toList) :
  ∃ fn tmps asg body, (Instr.yield b args').run P w = .ok (.round b fn tmps asg body) w ∧ RoundIn Fence.wide 0 P b fn tmps asg body w (CallPost w0 B0 ρ s.ctr e s') := by
 unfold evRound at h
 split at h
 ·cases h
 ·rename_i r hlr
  split at h
  ·rename_i hc
   obtain ⟨hlen, hready⟩ := hc
   obtain ⟨V, x0, hG, hw, ho⟩ := hs.loop hρ hlr
   cases ho with
   | loop _ _ b' n2 o1 o2 o3 o4 o5 o6 o7 o8 =>
   have hsz : args'.size = x0.params.size := by rw [o4, ← hlen, ha.1, Array.length_toList]
   refine ⟨x0.fn, _, x0.assign, x0.body, run_yield hw hsz, roundIn_of_wpIn trivial ?_⟩
   split at h
   ·rename_i t1 s1 h1
    have htr : TR w0 B0 ρ { TL.setL r.ps.toList args r.t with ds := [], rd := some g } ((x0.params.zip args').foldl (fun tmps (t, a) => tmps.setIfInBounds t a) x0.tmps) := by
     have := TR.setL r.ps.toList args args'.toList o3 ha
     rw [o4, ← Array.foldl_toList, Array.toList_zip]
     exact this.congr rfl (fun _ => rfl) rfl
    have hcode : r.asg.wpIn (Fen (some b)) 0 P (After w0 B0 ρ s.ctr (some b) .normal t1 s1) { tmps := (x0.params.zip args').foldl (fun tmps (t, a) => tmps.setIfInBounds t a) x0.tmps, defers := [] } w := (code_sound hm hT hcall hce n).1 r.asg htr trivial ⟨n', hρ⟩ hs h1
    rw [o5]
    refine wpIn_mono hcode fun e1 a1 w1 ⟨ρ1, k1, k2, k3, k4, k5, k6⟩ => ?_
    cases e1 <;> first | exact k2.elim | skip
    split at h
    ·cases h
    ·rename_i r1 hl1
     split at h
     ·rename_i hr1
      obtain ⟨V1, x1, hG1, hw1, ho1⟩ := k3.loop (k1.1 _ _ _ hρ) hl1
      have hx1 : x1.state = r1.state ∧ x1.pending = r1.pend := by
       cases ho1 with
       | loop _ _ b' n' q1 q2 => exact ⟨q1, q2⟩
      have hrun := run_beginRound (P := P) hw1 (by rw [hx1.1]; simpa using hr1)
      have hput := k3.put_loop (k1.1 _ _ _ hρ) hG1 hw1 ho1 .busy x1.pending
      have e1 : ({ r1 with state := LoopState.busy, pend := x1.pending } : LRec) = { r1 with state := .busy } := by rw [hx1.2]
      rw [e1] at hput
      refine ⟨_, hrun, ?_⟩
      split at h
      ·rename_i x t2 s2 h2
       split at h
       ·rename_i r2 jp hl2 hds hjp
        simp only [sjj, pjj] at h
        obtain ⟨rfl, rfl⟩ := h
        rw [o6]
        refine wpIn_mono (show r.body.wpIn (Fen (some b)) 0 P (After w0 B0 ρ1 _ (some b) x t2 s2) a1 _ from (code_sound hm hT hcall hce n).1 r.body k4 k5 k6 hput h2) fun e2 a2 w2 ⟨ρ2, q1, q2, q3, q4, q5, q6⟩ => ?_
        have hle2 : ρ.lex s.ctr ρ2 := Loc.lex_trans k1 q1 (by have := ((Ext.code hce n).1 _ h1).ctr; show s.ctr ≤ s1.ctr; exact this)
        obtain ⟨V2, x2, hG2, hw2, ho2⟩ := q3.loop (hle2.1 _ _ _ hρ) hl2
        have hend := run_endRound (P := P) jp hw2
        have hput2 := q3.put_loop (hle2.1 _ _ _ hρ) hG2 hw2 ho2 (if jp.isNone then .ready else .done) jp
        have fin : ∃ v w', (Instr.endRound b jp).run P w2 = .ok v w' ∧ CallPost w0 B0 ρ s.ctr (.ret (.bool jp.isNone)) (s2.setOwn g (.loop { r2 with state := if jp.isNone then .ready else .done, pend := jp })) (.returned v) w' :=
         ⟨_, _, hend, ρ2, hle2, hput2, .bool _⟩
        unfold Ex.jump at hjp
        cases x with
        | normal => cases e2 <;> first | exact q2.elim | (cases hjp; exact fin)
        | exit id => cases e2 <;> first | exact q2.elim | (cases hjp; cases q2; exact fin)
        | goto l => cases e2 <;> first | exact q2.elim | (cases hjp; cases q2; exact fin)
        | ret => cases e2 <;> first | exact q2.elim | (cases hjp; exact fin)
        | panic v => cases hjp
       ·cases h
      ·cases h
     ·cases h
   ·cases h
  ·cases h

def MdR (w0 : World) (B0 : Nat) (ρ : Loc) : Md → Bool → FrameMode → Prop
 | .ret, false, u => u = .returning
 | .ret, true, _ => False
 | .pan v, rc, u => ∃ v', u = .panicking [{ v := v', recovered := rc }] ∧ VR w0 B0 ρ v v'
theorem MdR.mono {ρ ρ' : Loc} (h : ρ.le ρ') {md : Md} {rc : Bool} {u : FrameMode} (r : MdR w0 B0 ρ md rc u) : MdR w0 B0 ρ' md rc u := by
 cases md with
 | ret => cases rc <;> exact r
 | pan v => exact r.imp fun _ k => ⟨k.1, k.2.mono h⟩
theorem recS {a : Act} {o : Oper} {w : World} (h : isRec o.op = true) : (execOp a.eval o).run P w = .ok .recover w := by
 unfold isRec at h
 split at h
 ·rename_i azz ty hop
  have : azz = #[] := Array.eq_empty_of_size_eq_zero (by simpa using h)
  subst this
  simp [execOp, hop, resolve, invoke, builtin]
 ·cases h
theorem opsS_sound (hT : TabOk P T) {ops : Array Oper} {c0 : Frame} {cs0 : List Frame} {Q : Exit → Act → List Frame → World → Prop} : ∀ (l : List Oper) (k : Nat) {ρ : Loc} {t t' : TL} {s s' : St} {a : Act} {w : World} {md : Md} {rc rc' : Bool} {u : FrameMode},
  (∀ j, l[j]? = ops[k + j]?) → TR w0 B0 ρ t a.tmps → DsR w0 B0 ρ t.ds a.defers → RdR ρ t.rd none → Sim w0 B0 ρ s w → MdR w0 B0 ρ md rc u → evOpsS T ops l t s md rc = some (t', s', rc') →
  (∀ (ρ' : Loc) (a' : Act) (w' : World) (u' : FrameMode), ρ.lex s.ctr ρ' → Sim w0 B0 ρ' s' w' → TR w0 B0 ρ' t' a'.tmps → DsR w0 B0 ρ' t'.ds a'.defers → RdR ρ' t'.rd none → MdR w0 B0 ρ' md rc' u' → Q .normal a' ({ c0 with mode := u' } :: cs0) w') → wpOpsSIn (Fen none) 0 P ops Q (List.range' k l.length) a ({ c0 with mode := u } :: cs0) w
 | [], k, ρ, t, t', s, s', a, w, md, rc, rc', u, hl, ht, hd, hrd, hs, hmd, h, hQ => by
  simp only [evOpsS, sjj, pjj] at h
  obtain ⟨rfl, rfl, rfl⟩ := h
  exact hQ ρ a w u (Loc.lex_refl _ _) hs ht hd hrd hmd
 | o :: l, k, ρ, t, t', s, s', a, w, md, rc, rc', u, hl, ht, hd, hrd, hs, hmd, h, hQ => by
  have h0 := hl 0
  simp only [List.getElem?_cons_zero, Nat.add_zero] at h0
  have hl' : ∀ j, l[j]? = ops[k + 1 + j]? := fun j => by have := hl (j + 1); rw [Nat.add_assoc, Nat.add_comm 1 j]; simpa using this
  rw [lcc, List.range'_succ]
  unfold wpOpsSIn
  rw [← h0]
  simp only
  refine ⟨fun _ _ => trivial, ?_⟩
  have put : ∀ (ρ1 : Loc) (v : AV) (v' : Value), ρ.le ρ1 → VR w0 B0 ρ1 v v' → TR w0 B0 ρ1 (putA t o.dst v) (a.put o.dst v').tmps ∧ DsR w0 B0 ρ1 (putA t o.dst v).ds (a.put o.dst v').defers ∧ RdR ρ1 (putA t o.dst v).rd none := fun ρ1 v v' hle hv =>
   ⟨(TR.mono hle ht).put hv o.dst, by rw [putA_ds]; have := hd.mono hle; cases o.dst <;> exact this, by rw [putA_rd]; exact hrd.mono hle⟩
  simp only [evOpsS] at h
  split at h
  ·cases h
  ·rename_i hg
   rw [if_neg (by rw [guard_sound ht hg]; exact Bool.false_ne_true)]
   obtain ⟨p1, p2, p3⟩ := put ρ .undef Go.undef (Loc.le_refl _) .undef
   exact opsS_sound hT l (k + 1) hl' p1 p2 p3 hs hmd h hQ
  ·rename_i hg
   rw [if_pos (guard_sound ht hg)]
   split at h
   ·rename_i v hrec
    rw [recS hrec]
    simp only
    obtain ⟨v', rfl, hv⟩ := hmd
    obtain ⟨p1, p2, p3⟩ := put ρ v v' (Loc.le_refl _) hv
    exact opsS_sound hT l (k + 1) (u := .panicking [{ v := v', recovered := true }]) hl' p1 p2 p3 hs (show MdR w0 B0 ρ (.pan v) true _ from ⟨v', rfl, hv⟩) h hQ
   ·rename_i md rc _ _ _ hrec hne
    rw [recS hrec]
    simp only
    obtain ⟨p1, p2, p3⟩ := put ρ .nili .nilIface (Loc.le_refl _) .nili
    have hno : recoverD ({ c0 with mode := u } :: cs0) = none := by
     cases md with
     | ret =>
      cases rc with
      | true => exact hmd.elim
      | false => rw [show u = .returning from hmd]; rfl
     | pan v =>
      cases rc with
      | true => obtain ⟨v', rfl, _⟩ := hmd; rfl
      | false => exact (hne v rfl rfl).elim
    rw [hno]
    exact opsS_sound hT l (k + 1) hl' p1 p2 p3 hs hmd h hQ
   ·split at h
    ·rename_i v s1 hop
     cases op_sound (o := o) hT ht hs hop with
     | val _ v' w' ρ1 k1 k2 k3 k4 =>
     rw [k1]
     simp only
     obtain ⟨p1, p2, p3⟩ := put ρ1 v v' k2.1 k4
     exact opsS_sound hT l (k + 1) hl' p1 p2 p3 k3 (hmd.mono k2.1) h fun ρ' a' w' u' q1 q2 q3 q4 q5 q6 => hQ ρ' a' w' u' (Loc.lex_trans k2 q1 (Ext.op hop).ctr) q2 q3 q4 q5 q6
    ·rename_i s1 hop
     cases op_sound (o := o) hT ht hs hop with
     | skip w' k1 k2 =>
     rw [k1]
     simp only
     obtain ⟨p1, p2, p3⟩ := put ρ .undef Go.undef (Loc.le_refl _) .undef
     exact opsS_sound hT l (k + 1) hl' p1 p2 p3 k2 hmd h fun ρ' a' w' u' q1 q2 q3 q4 q5 q6 => hQ ρ' a' w' u' (Loc.lex_trans (Loc.lex_refl _ _) q1 (Ext.op hop).ctr) q2 q3 q4 q5 q6
    ·cases h

def AfterS (w0 : World) (B0 : Nat) (ρ : Loc) (c : Nat) (c0 : Frame) (cs0 : List Frame) (md : Md) (rc : Bool) (x : Ex) (t : TL) (s : St) : Exit → Act → List Frame → World → Prop := fun e a cs w =>
 ∃ (ρ' : Loc) (u : FrameMode), ρ.lex c ρ' ∧ ExR w0 B0 ρ' x e ∧ Sim w0 B0 ρ' s w ∧ TR w0 B0 ρ' t a.tmps ∧ DsR w0 B0 ρ' t.ds a.defers ∧ RdR ρ' t.rd none ∧ cs = { c0 with mode := u } :: cs0 ∧ MdR w0 B0 ρ' md rc u
theorem wpSIn_mono {F : Fence} {n : Nat} {c : Code} {Q Q' : Exit → Act → List Frame → World → Prop} {a : Act} {cs : List Frame} {w : World} (h : c.wpSIn F n P Q a cs w) (hq : ∀ e a cs w, Q e a cs w → Q' e a cs w) : c.wpSIn F n P Q' a cs w :=
 fun b k h1 h2 h3 h4 => let ⟨e, a', cs', w', l, q, r⟩ := h b k h1 h2 h3 h4; ⟨e, a', cs', w', l, hq _ _ _ _ q, r⟩
theorem codeS_sound (hm : P.follows .mixedOrders = true) (hT : TabOk P T) (hcall : CallOk P w0 B0 call) (hce : CallExt call) {c0 : Frame} {cs0 : List Frame} : ∀ (n : Nat) (c : Code) {ρ : Loc} {t t' : TL} {s s' : St} {x : Ex} {a : Act} {w : World} {md : Md} {rc rc' : Bool} {u : FrameMode},
  TR w0 B0 ρ t a.tmps → DsR w0 B0 ρ t.ds a.defers → RdR ρ t.rd none → Sim w0 B0 ρ s w → MdR w0 B0 ρ md rc u → evCodeS T call n c t s md rc = some (x, t', s', rc') →
  c.wpSIn (Fen none) 0 P (AfterS w0 B0 ρ s.ctr c0 cs0 md rc' x t' s') a ({ c0 with mode := u } :: cs0) w
 | 0, c, ρ, t, t', s, s', x, a, w, md, rc, rc', u, _, _, _, _, _, h => by simp [evCodeS] at h
 | n + 1, c, ρ, t, t', s, s', x, a, w, md, rc, rc', u, ht, hd, hrd, hs, hmd, h => by
  have plain : ∀ {m : Nat} {c : Code} {x : Ex} {t' : TL} {s' : St}, evCode T call m c t s = some (x, t', s') → c.wpSIn (Fen none) 0 P (AfterS w0 B0 ρ s.ctr c0 cs0 md rc x t' s') a ({ c0 with mode := u } :: cs0) w := by
   intro m c x t' s' h1
   refine wpSIn_of_wpIn rfl (wpIn_mono ((code_sound hm hT hcall hce m).1 c ht hd hrd hs h1) ?_)
   rintro e a' w' ⟨ρ', k1, k2, k3, k4, k5, k6⟩
   exact ⟨ρ', u, k1, k2, k3, k4, k5, k6, rfl, hmd.mono k1.1⟩
  have fall : ∀ {c : Code}, (match evCode T call n c t s with | some (x, t', s') => some (x, t', s', rc) | none => none) = some (x, t', s', rc') → c.wpSIn (Fen none) 0 P (AfterS w0 B0 ρ s.ctr c0 cs0 md rc' x t' s') a ({ c0 with mode := u } :: cs0) w := by
   intro c h
   split at h
   ·rename_i h1
    simp only [sjj, pjj] at h
    obtain ⟨rfl, rfl, rfl, rfl⟩ := h
    exact plain h1
   ·cases h
  cases c with
  | seq c1 c2 =>
   simp only [evCodeS] at h
   refine wpSIn_seq ?_
   split at h
   ·rename_i t1 s1 rc1 h1
    refine wpSIn_mono (codeS_sound hm hT hcall hce n c1 ht hd hrd hs hmd h1) ?_
    rintro e a' cs w' ⟨ρ', u', k1, k2, k3, k4, k5, k6, rfl, k7⟩
    cases e <;> first | exact k2.elim | skip
    refine wpSIn_mono (codeS_sound hm hT hcall hce n c2 k4 k5 k6 k3 k7 h) ?_
    rintro e a'' cs w'' ⟨ρ2, u2, q1, q⟩
    exact ⟨ρ2, u2, Loc.lex_trans k1 q1 (Ext.codeS hce n c1 h1).ctr, q⟩
   ·rename_i hne
    refine wpSIn_mono (codeS_sound hm hT hcall hce n c1 ht hd hrd hs hmd h) ?_
    rintro e a' cs w' ⟨ρ', u', k1, k2, k⟩
    cases e with
    | normal =>
     cases x with
     | normal => exact (hne _ _ _ h).elim
     | _ => exact k2.elim
    | _ => exact ⟨ρ', u', k1, k2, k⟩
  | cond q c1 c2 =>
   simp only [evCodeS] at h
   split at h
   ·rename_i b hb
    have hrq := ht.eval hb
    generalize he : a.eval q = q' at hrq
    cases hrq
    exact wpSIn_cond he (codeS_sound hm hT hcall hce n _ ht hd hrd hs hmd h)
   ·cases h
  | region id ops draw =>
   cases draw with
   | false =>
    simp only [evCodeS] at h
    split at h
    ·rename_i t1 s1 h1
     simp only [sjj, pjj] at h
     obtain ⟨rfl, rfl, rfl, rfl⟩ := h
     exact plain (m := 1) (by simp only [evCode, h1])
    ·split at h
     ·cases h
     ·rename_i t1 s1 rc1 h1
      simp only [sjj, pjj] at h
      obtain ⟨rfl, rfl, rfl, rfl⟩ := h
      refine wpSIn_region ?_
      have := opsS_sound (c0 := c0) (cs0 := cs0) (Q := AfterS w0 B0 ρ s.ctr c0 cs0 md rc1 .normal t1 s1) hT ops.toList 0 (fun j => by simp) ht hd hrd hs hmd h1 (fun ρ' a' w' u' k1 k2 k3 k4 k5 k6 => ⟨ρ', u', k1, trivial, k2, k3, k4, k5, rfl, k6⟩)
      rwa [Array.length_toList, ← List.range_eq_range'] at this
   | true => simp only [evCodeS] at h; exact fall h
  | _ => simp only [evCodeS] at h; exact fall h
end
end Go.Ab
namespace Go.Ab
open Go.RowKit
def ExtB (P : Program) (f : FuncId) (sem : Array Value → Sem Value) : Prop := ∃ fn, P.funcs[f]? = some fn ∧ fn.body.isNone = true ∧ (fn.name == "runtime.NumGoroutine") = false ∧ Extern.findNext fn = none ∧ Extern.find fn = some sem
def Later (w0 : World) (B0 : Nat) (w : World) : Prop := Below B0 w0 w ∧ B0 ≤ w.heap.size
def ExtFn (P : Program) (w0 : World) (B0 : Nat) (f : FuncId) : XF → Prop
 | .idxByte => ExtB P f Extern.BytealgIndexByte.indexByte
 | .lib g => Callable P f ∧ ∀ args v, g args = some v → ∀ (ρ : Loc) (w : World) (args' : Array Value), Later w0 B0 w → CR w0 B0 ρ args args'.toList → Calls P f args' w fun e w' => ∃ v', e = .returned v' ∧ VR w0 B0 ρ v v' ∧ Below w.heap.size w w'
structure KOk (P : Program) (w0 : World) (B0 : Nat) (K : Kn) : Prop where
 tab : ∀ f b, K f = some b → Callable P f ∧ ∀ w, Later w0 B0 w → Calls P f #[] w fun e w' => e = .returned (.bool b) ∧ Below w.heap.size w w'
 ext : ∀ f x, K.ext f = some x → ExtFn P w0 B0 f x
section
variable {P : Program} {w0 : World} {B0 : Nat} {T : Tab} {K : Kn} {gl : Nat → Option AV}
variable {call : FuncId → List AV → St → Option (End × St)}

def NoNG (P : Program) : Prop := ∀ (f : FuncId) (fn : Func), P.funcs[f]? = some fn → (fn.name == "runtime.NumGoroutine") = false

def resF (tm : Array Value) : ResultVar → Sem Value
 | .tmp t => pure (tm.getD t Go.undef)
 | .cell a t => do loadVar t (← asAddr (tm.getD a Go.undef))
theorem results_eq (fn : Func) (tm : Array Value) : results fn tm = (do let vs ← fn.results.mapM (resF tm); pure (if h : vs.size = 1 then vs[0] else .tuple vs)) := rfl
theorem getD_VR {ρ : Loc} {t : TL} {a : Act} (h : TR w0 B0 ρ t a.tmps) (i : Nat) : VR w0 B0 ρ (t.get i) (a.tmps.getD i Go.undef) := h.getD i
theorem run_resM (hT : TabOk P T) {ρ : Loc} {t : TL} {s : St} {a : Act} {w : World} (ht : TR w0 B0 ρ t a.tmps) (hs : Sim w0 B0 ρ s w) : ∀ {l : List ResultVar} {us : List AV}, resA T t s l = some us →
  ∃ vs, (l.mapM (resF a.tmps)).run P w = .ok vs w ∧ CR w0 B0 ρ us vs
 | [], us, h => by
  simp only [resA, sjj] at h
  subst h
  exact ⟨[], by simp, CR.nil⟩
 | .tmp i :: l, us, h => by
  simp only [resA] at h
  cases h1 : resA T t s l with
  | none => simp [h1] at h
  | some vs =>
   simp only [h1, sjj] at h
   subst h
   obtain ⟨vs', k1, k2⟩ := run_resM hT ht hs h1
   exact ⟨a.tmps.getD i Go.undef :: vs', by simp [List.mapM_cons, resF, k1], CR.cons (getD_VR ht i) k2⟩
 | .cell q tt :: l, us, h => by
  simp only [resA] at h
  have hr := getD_VR ht q
  split at h
  ·rename_i i g j off hti hg
   rw [hg] at hr
   split at h
   ·cases h
   ·rename_i cs hcs
    split at h
    ·rename_i v vs hof h1
     simp only [sjj] at h
     subst h
     obtain ⟨vs', k1, k2⟩ := run_resM hT ht hs h1
     generalize hq : a.tmps.getD q Go.undef = qv at hr
     cases hr with
     | ptr _ _ _ b st n hρ =>
     obtain ⟨xs, x1, x2, x3⟩ := hs.read hρ hcs
     have hl := run_loadVar' (P := P) (hT tt i hti) x1 x3
     refine ⟨(if i.sh.isAgg then .agg xs.toArray else xs.getD 0 Go.undef) :: vs', ?_, CR.cons (ofCells_VR hof x2) k2⟩
     simp only [List.mapM_cons, resF, hq, asAddr, Sem.run_bind, Sem.run_pure, Result.andThen_ok, hl, k1]
    ·cases h
  ·cases h

theorem Sim.later {ρ : Loc} {s : St} {w w' : World} (h : Sim w0 B0 ρ s w) (k : Below w.heap.size w w') : Sim w0 B0 ρ s w' where
 low := h.low.trans (k.mono h.big)
 big := Nat.le_trans h.big k.size
 ver := fun g j b st n hρ => by
  obtain ⟨h1, G, V, h2, h3, h4⟩ := h.ver g j b st n hρ
  exact ⟨h1, G, V, h2, h3, h4.mono (Loc.le_refl _) (k.block b (h.blk_lt hρ))⟩
 al := h.al
 sep := h.sep
 ctr := h.ctr

def GlOk (w0 : World) (B0 : Nat) (gl : Nat → Option AV) : Prop := ∀ (ρ : Loc) (g : Nat) (v : AV), gl g = some v → VR w0 B0 ρ v (.pointer (some ⟨g, 0, none⟩))
theorem TR.start (hgl : GlOk w0 B0 gl) {ρ : Loc} {args : List AV} {args' : Array Value} (n : Nat) (hargs : CR w0 B0 ρ args args'.toList) : TR w0 B0 ρ (TL.start gl args n) (args' ++ Array.replicate (n - args'.size) Go.undef) := by
 have hl : args.length = args'.size := by have := hargs.1; rwa [Array.length_toList] at this
 have hsz : (args' ++ Array.replicate (n - args'.size) Go.undef).size = args'.size + (n - args'.size) := by simp
 refine ⟨by rw [TL.n_start, hsz, hl], fun i v hv => ?_, fun i hi => ?_, fun g v hv => hgl ρ g v (by rw [TL.gl_start] at hv; exact hv)⟩
 ·rw [TL.get_start]
  rw [Array.getElem?_append] at hv
  split at hv
  ·rename_i hlt
   have hlt' : i < args.length := by omega
   exact hargs.2 i _ v (by simp [List.getD, hlt']) (by simpa using hv)
  ·rename_i hlt
   rw [Array.getElem?_replicate] at hv
   split at hv
   ·cases hv
    rw [gdd, List.getElem?_eq_none (by omega)]
    exact .undef
   ·cases hv
 ·rw [TL.get_start, gdd, List.getElem?_eq_none (by omega)]
  rfl
def tupA : List AV → AV
 | [v] => v
 | us => .tup us
theorem results_sound (hT : TabOk P T) {ρ : Loc} {t : TL} {s : St} {tm : Array Value} {w : World} (ht : TR w0 B0 ρ t tm) (hs : Sim w0 B0 ρ s w) (fn : Func) {us : List AV} (h : resA T t s fn.results.toList = some us) :
  ∃ v', (results fn tm).run P w = .ok v' w ∧ VR w0 B0 ρ (tupA us) v' := by
 obtain ⟨vs, m1, m2⟩ := run_resM (P := P) (a := { tmps := tm, defers := [] }) hT ht hs h
 have hrun : (results fn tm).run P w = .ok (if h : vs.toArray.size = 1 then vs.toArray[0] else .tuple vs.toArray) w := by
  rw [results_eq, Array.mapM_eq_mapM_toList]
  simp only [Sem.run_bind, Sem.run_map, m1, Result.andThen_ok, Sem.run_pure]
 refine ⟨_, hrun, ?_⟩
 by_cases h1 : us.length = 1
 ·match us, h1 with
  | [u], _ =>
   obtain ⟨v', rfl, hv'⟩ := m2.one
   simpa [tupA] using hv'
 ·have hne1 : ¬ vs.toArray.size = 1 := by have := m2.1; simp; omega
  rw [dif_neg hne1]
  have e1 : tupA us = .tup us := by
   match us, h1 with
   | [], _ => rfl
   | [v], h1 => exact (h1 rfl).elim
   | _ :: _ :: _, _ => rfl
  rw [e1]
  exact .tup us _ (by simpa using m2.1) (fun i u v hu hv => m2.2 i u v hu (by simpa using hv))

theorem def_sound (hgl : GlOk w0 B0 gl) (hm : P.follows .mixedOrders = true) (hT : TabOk P T) (hcall : CallOk P w0 B0 call) (hce : CallExt call) {n : Nat} {f : FuncId} {args : List AV} {s s' : St} {md md' : Md} (h : evDef P T gl call n f args s md = some (md', s'))
  {ρ : Loc} {w : World} {args' : Array Value} {u : FrameMode} (hs : Sim w0 B0 ρ s w) (ha : CR w0 B0 ρ args args'.toList) (hu : MdR w0 B0 ρ md false u) :
  (∃ fn, P.funcs[f]? = some fn ∧ fn.body.isNone = false) ∧ CallsDIn Fence.wide 0 P f args' u w (fun e u' w' => ∃ ρ', ρ.lex s.ctr ρ' ∧ Sim w0 B0 ρ' s' w' ∧ (∃ v, e = .returned v) ∧ MdR w0 B0 ρ' md' false (settle u')) := by
 unfold evDef at h
 split at h
 ·cases h
 ·rename_i fn hfn
  split at h
  ·cases h
  ·rename_i c hc
   refine ⟨⟨fn, hfn, by simp [hc]⟩, ?_⟩
   split at h
   ·rename_i hres
    have fin : ∀ {x : Ex} {t1 : TL} {s1 : St} {rc : Bool}, evCodeS T call n c (TL.start gl args fn.ntmps) s md false = some (x, t1, s1, rc) → (match t1.ds with | [] => some (if rc then Md.ret else md, s1) | _ => none) = some (md', s') → (x = .normal ∨ x = .ret) →
      CallsDIn Fence.wide 0 P f args' u w (fun e u' w' => ∃ ρ', ρ.lex s.ctr ρ' ∧ Sim w0 B0 ρ' s' w' ∧ (∃ v, e = .returned v) ∧ MdR w0 B0 ρ' md' false (settle u')) := by
     intro x t1 s1 rc h1 h2 hx
     split at h2
     ·rename_i hds
      simp only [sjj, pjj] at h2
      obtain ⟨rfl, rfl⟩ := h2
      refine callsDIn_of_wpSIn hfn hc trivial fun c₀ cs hcm => ?_
      have hc0 : ({ c₀ with mode := u } : Frame) = c₀ := by subst hcm; rfl
      have hwp : c.wpSIn (Fen none) 0 P (AfterS w0 B0 ρ s.ctr c₀ cs md rc x t1 s1) { tmps := args' ++ Array.replicate (fn.ntmps - args'.size) Go.undef, defers := [] } ({ c₀ with mode := u } :: cs) w := codeS_sound hm hT hcall hce n c (TR.start hgl fn.ntmps ha) (by rw [TL.ds_start]; trivial) (by rw [TL.rd_start]; trivial) hs hu h1
      rw [hc0] at hwp
      refine wpSIn_mono hwp ?_
      rintro e a' cs' w' ⟨ρ', u', k1, k2, k3, k4, k5, k6, rfl, k7⟩
      have hdef : a'.defers = [] := by
       rw [hds] at k5
       cases hq : a'.defers with
       | nil => rfl
       | cons d ds => rw [hq] at k5; exact k5.elim
      have hr0 : fn.results = #[] := Array.eq_empty_of_size_eq_zero hres
      have hset : MdR w0 B0 ρ' (if rc then Md.ret else md) false (settle u') := by
       cases md with
       | ret =>
        cases rc with
        | true => exact k7.elim
        | false => rw [show u' = .returning from k7]; rfl
       | pan v =>
        obtain ⟨v', rfl, hv⟩ := k7
        cases rc with
        | true => rfl
        | false => exact ⟨v', rfl, hv⟩
      have hb : bodyPostS P fn c₀ cs (fun e u' w' => ∃ ρ', ρ.lex s.ctr ρ' ∧ Sim w0 B0 ρ' s1 w' ∧ (∃ v, e = .returned v) ∧ MdR w0 B0 ρ' (if rc then Md.ret else md) false (settle u')) .ret a' ({ c₀ with mode := u' } :: cs) w' := by
       refine ⟨hdef, u', rfl, .tuple #[], ?_, ρ', k1, k3, ⟨_, rfl⟩, hset⟩
       rw [results_eq, hr0]
       simp
      cases e with
      | normal => exact hb
      | ret => exact hb
      | _ => rcases hx with rfl | rfl <;> exact k2.elim
     ·cases h2
    split at h
    ·rename_i h1; exact fin h1 h (.inl rfl)
    ·rename_i h1; exact fin h1 h (.inr rfl)
    ·cases h
   ·cases h

theorem leave_sound (hgl : GlOk w0 B0 gl) (hm : P.follows .mixedOrders = true) (hT : TabOk P T) (hng : NoNG P) (hcall : CallOk P w0 B0 call) (hce : CallExt call) {n : Nat} {fn : Func} {t : TL} {tm : Array Value} {R : Ending → World → Prop} {e : End} {s' : St} : ∀ (l : List DefA) {ρ : Loc} {s : St} {w : World} {md : Md} {u : FrameMode} {D : List Deferred},
  TR w0 B0 ρ t tm → Sim w0 B0 ρ s w → DsR w0 B0 ρ l D → MdR w0 B0 ρ md false u → evLeave P T gl call n fn t l s md = some (e, s') →
  (∀ (ρ' : Loc) (e' : Ending) (w' : World), ρ.lex s.ctr ρ' → Sim w0 B0 ρ' s' w' → EndR w0 B0 ρ' e e' → R e' w') → LeavesInM Fence.wide 0 P fn tm R D u w
 | [], ρ, s, w, md, u, x :: D, ht, hs, hd, hu, h, hR => hd.elim
 | d :: l, ρ, s, w, md, u, [], ht, hs, hd, hu, h, hR => by cases d <;> exact hd.elim
 | [], ρ, s, w, .ret, u, [], ht, hs, hd, hu, h, hR => by
  obtain rfl : u = .returning := hu
  unfold evLeave at h
  cases hr : resA T t s fn.results.toList with
  | none => simp [hr] at h
  | some us =>
   obtain ⟨v', h1, h2⟩ := results_sound hT ht hs fn hr
   rw [hr] at h
   refine ⟨v', h1, hR ρ _ w (Loc.lex_refl _ _) ?_ ?_⟩
   ·split at h <;> first | (cases h; done) | (simp only [sjj, pjj] at h; obtain ⟨_, rfl⟩ := h; exact hs)
   ·split at h
    ·rename_i v hv
     simp only [sjj] at hv
     subst hv
     simp only [sjj, pjj] at h
     obtain ⟨rfl, rfl⟩ := h
     exact h2
    ·rename_i us' hne hv
     simp only [sjj] at hv
     subst hv
     simp only [sjj, pjj] at h
     obtain ⟨rfl, rfl⟩ := h
     show VR w0 B0 ρ _ _
     have e1 : tupA us = .tup us := by
      match us, hne with
      | [], _ => rfl
      | [v], hne => exact (hne v rfl).elim
      | _ :: _ :: _, _ => rfl
     rw [e1] at h2
     exact h2
    ·cases h
 | [], ρ, s, w, .pan v, u, [], ht, hs, hd, hu, h, hR => by
  obtain ⟨v', rfl, hv⟩ := hu
  simp only [evLeave, sjj, pjj] at h
  obtain ⟨rfl, rfl⟩ := h
  exact hR ρ _ w (Loc.lex_refl _ _) hs ⟨v', rfl, hv⟩
 | .col g :: l, ρ, s, w, md, u, x :: D, ht, hs, hd, hu, h, hR => by
  simp only [evLeave] at h
  split at h
  ·rename_i hop
   obtain ⟨hx, hd⟩ := hd
   cases hx with
   | col _ b n hρ =>
   obtain ⟨V, hG, hw⟩ := hs.dfr hρ hop
   have hput := hs.put_own (o := .dfr false) (x := .deferred none) hρ hG hw fun w' hw => .own _ _ rfl hw (.dfr false) rfl rfl
   have hrun : u ≠ .run := by
    cases md with
    | ret => rw [show u = .returning from hu]; exact nofun
    | pan v => obtain ⟨v', rfl, _⟩ := hu; exact nofun
   refine ⟨hrun, .inl ⟨b, _, rfl, run_takeDeferred hw, ?_⟩⟩
   exact leave_sound hgl hm hT hng hcall hce l ht hput hd hu h fun ρ' e' w' k1 k2 k3 => hR ρ' e' w' k1 k2 k3
  ·cases h
 | .clo f args :: l, ρ, s, w, md, u, x :: D, ht, hs, hd, hu, h, hR => by
  simp only [evLeave] at h
  split at h
  ·cases h
  ·rename_i md1 s1 hdef
   obtain ⟨hx, hd⟩ := hd
   cases hx with
   | clo _ _ cap dargs h0 ha =>
   obtain ⟨⟨fn', f1, f2⟩, hcd⟩ := def_sound hgl hm hT hcall hce hdef hs ha hu
   have f3 := hng f fn' f1
   have hrun : u ≠ .run := by
    cases md with
    | ret => rw [show u = .returning from hu]; exact nofun
    | pan v => obtain ⟨v', rfl, _⟩ := hu; exact nofun
   refine ⟨hrun, .inr ⟨fun h => (by cases h), .func f, cap, f, dargs ++ cap, rfl, ?_, fun _ _ => trivial, CallsDIn.mono hcd ?_⟩⟩
   ·simp only [invoke, callFunc, Sem.run_bind, run_program, Result.andThen_ok, f1, f3, f2, Bool.false_eq_true, if_false, Sem.run_pure]
   ·rintro e1 u1 w1 ⟨ρ1, k1, k2, ⟨v, rfl⟩, k3⟩
    exact leave_sound hgl hm hT hng hcall hce l (ht.mono k1.1) k2 (hd.mono k1.1) k3 h fun ρ' e' w' q1 q2 q3 => hR ρ' e' w' (Loc.lex_trans k1 q1 (Ext.dfn hce hdef).ctr) q2 q3

theorem body_sound (hgl : GlOk w0 B0 gl) (hm : P.follows .mixedOrders = true) (hT : TabOk P T) (hng : NoNG P) (ih : CallOk P w0 B0 call) (hce : CallExt call) (n : Nat) (f : FuncId) (args : List AV) (s : St) (e : End) (s' : St) (h : evBody P T gl call n f args s = some (e, s')) :
  Callable P f ∧ ∀ (ρ : Loc) (w : World) (args' : Array Value), Sim w0 B0 ρ s w → CR w0 B0 ρ args args'.toList → CallsIn Fence.wide 0 P f args' w (CallPost w0 B0 ρ s.ctr e s') := by
 simp only [evBody] at h
 split at h
 ·cases h
 ·rename_i fn hfn
  split at h
  ·cases h
  ·rename_i c hc
   refine ⟨⟨fn, hfn, by simp [hc], hng f fn hfn⟩, fun ρ w args' hs hargs => ?_⟩
   have fin : ∀ {x : Ex} {t1 : TL} {s1 : St} {md : Md}, evCode T call n c (TL.start gl args fn.ntmps) s = some (x, t1, s1) → evLeave P T gl call n fn t1 t1.ds s1 md = some (e, s') →
     (∀ (ρ' : Loc) (e' : Exit), ExR w0 B0 ρ' x e' → ((e' = .normal ∨ e' = .ret) ∧ MdR w0 B0 ρ' md false .returning) ∨ ∃ ch, e' = .panic ch ∧ MdR w0 B0 ρ' md false (.panicking ch)) → CallsIn Fence.wide 0 P f args' w (CallPost w0 B0 ρ s.ctr e s') := by
    intro x t1 s1 md h1 h2 hx
    have hcode : c.wpIn (Fen none) 0 P (After w0 B0 ρ s.ctr none x t1 s1) { tmps := args' ++ Array.replicate (fn.ntmps - args'.size) Go.undef, defers := [] } w := (code_sound hm hT ih hce n).1 c (TR.start hgl fn.ntmps hargs) (by rw [TL.ds_start]; trivial) (by rw [TL.rd_start]; trivial) hs h1
    refine callsIn_of_wp_marks hfn hc trivial (wpIn_mono hcode ?_)
    rintro e' a' w' ⟨ρ', k1, k2, k3, k4, k5, k6⟩
    have hl := fun {u : FrameMode} (hu : MdR w0 B0 ρ' md false u) => leave_sound (R := CallPost w0 B0 ρ s.ctr e s') hgl hm hT hng ih hce t1.ds k4 k3 k5 hu h2 fun ρ2 e2 w2 q1 q2 q3 => ⟨ρ2, Loc.lex_trans k1 q1 ((Ext.code hce n).1 _ h1).ctr, q2, q3⟩
    rcases hx ρ' e' k2 with ⟨rfl | rfl, hu⟩ | ⟨ch, rfl, hu⟩
    ·exact hl hu
    ·exact hl hu
    ·exact hl hu
   split at h
   ·rename_i h1
    exact fin h1 h fun ρ' e' k => by cases e' <;> first | exact k.elim | exact .inl ⟨.inl rfl, rfl⟩
   ·rename_i h1
    exact fin h1 h fun ρ' e' k => by cases e' <;> first | exact k.elim | exact .inl ⟨.inr rfl, rfl⟩
   ·rename_i h1
    exact fin h1 h fun ρ' e' k => by
     cases e' with
     | panic ch => obtain ⟨v', rfl, hv⟩ := k; exact .inr ⟨_, rfl, v', rfl, hv⟩
     | _ => exact k.elim
   ·cases h

theorem idxL_eq (b : ByteArray) (c : UInt8) : ∀ (m k : Nat), k + m = b.size → idxL c.toNat (b.data.toList.drop k) k = match ((List.range' k m).find? fun i => b[i]! == c) with | some i => (i : Int) | none => -1
 | 0, k, h => by
  rw [List.drop_eq_nil_of_le (by have : b.data.toList.length = b.size := rfl; omega)]
  rfl
 | m + 1, k, h => by
  have hl : b.data.toList.length = b.size := rfl
  have hk : k < b.data.toList.length := by omega
  rw [List.drop_eq_getElem_cons hk, List.range'_succ, List.find?_cons]
  have hb : b[k]! = b.data.toList[k] := by
   have hk' : k < b.size := by omega
   rw [getElem!_pos b k hk']
   rfl
  rw [hb]
  unfold idxL
  by_cases hc : b.data.toList[k] = c
  ·rw [nb_t (by rw [hc]), cond_true, hc]
   simp
  ·rw [nb_f (fun h => hc (UInt8.toNat_inj.1 h)), cond_false]
   have : (b.data.toList[k] == c) = false := by simpa using hc
   rw [this]
   exact idxL_eq b c m (k + 1) (by omega)
theorem ext_sound {f : FuncId} (hx : ExtFn P w0 B0 f .idxByte) {args : List AV} {v : AV} (h : extA .idxByte args = some v) (s : St) : ExtOk P w0 B0 f args s (.ret v) s := by
 obtain ⟨fn, k1, k2, k3, k4, k5⟩ := hx
 unfold extA at h
 split at h
 ·rename_i hx0
  cases hx0
 ·rename_i b c _
  split at h
  ·rename_i hc
   simp only [sjj] at h
   subst h
   refine ⟨(fun g c r h => by cases h), fun ρ w args' hs ha => ⟨_, .int .i64 (idxL c.toNat b.data.toList 0), w, ρ, rfl, ?_, Loc.lex_refl _ _, hs, .int _ _⟩⟩
   obtain ⟨h1, h2⟩ := ha
   have hsz : args'.size = 2 := by simpa using h1.symm
   obtain ⟨p, q, rfl⟩ : ∃ p q, args' = #[p, q] := ⟨args'[0], args'[1], by
     apply Array.ext
     · simp [hsz]
     · intro i hi1 hi2
       have : i = 0 ∨ i = 1 := by simp at hi2; omega
       rcases this with rfl | rfl <;> rfl⟩
   have hp := h2 0 _ p rfl rfl
   have hq := h2 1 _ q rfl rfl
   cases hp
   cases hq
   have he := idxL_eq b c.toNat.toUInt8 b.size 0 (by omega)
   have hcn : c.toNat.toUInt8.toNat = c.toNat := by
    rw [Nat.toUInt8, UInt8.toNat_ofNat']
    omega
   rw [hcn, List.drop_zero] at he
   rw [he]
   have hib : Extern.BytealgIndexByte.indexByte #[.string b, .int .u8 c] = (match (List.range b.size).find? fun i => b[i]! == c.toNat.toUInt8 with | some i => pure (goInt i) | none => pure (goInt (-1)) : Sem Value) := rfl
   have hcf : (callFunc f #[.string b, .int .u8 c]).run P w = (do let v ← Extern.BytealgIndexByte.indexByte #[.string b, .int .u8 c]; pure (Next.value v) : Sem Next).run P w := by
    simp only [callFunc, Sem.run_bind, Sem.run_pure, Result.andThen_ok, run_program, k1, k3, k2, k4, k5, Bool.false_eq_true, if_false, if_true]
    rfl
   rw [hcf, hib, List.range_eq_range']
   cases (List.range' 0 b.size).find? fun i => b[i]! == c.toNat.toUInt8 <;> rfl
  ·cases h
 ·cases h

theorem lib_sound {f : FuncId} {g : List AV → Option AV} (hx : ExtFn P w0 B0 f (.lib g)) {args : List AV} {v : AV} (h : extA (.lib g) args = some v) (s : St) :
  Callable P f ∧ ∀ (ρ : Loc) (w : World) (args' : Array Value), Sim w0 B0 ρ s w → CR w0 B0 ρ args args'.toList → CallsIn Fence.wide 0 P f args' w (CallPost w0 B0 ρ s.ctr (.ret v) s) := by
 obtain ⟨h1, h2⟩ := hx
 refine ⟨h1, fun ρ w args' hw ha => callsIn_wide.2 ((h2 args v h ρ w args' ⟨hw.low, hw.big⟩ ha).mono ?_)⟩
 rintro e' w' ⟨v', rfl, hv, hb⟩
 exact ⟨ρ, Loc.lex_refl _ _, hw.later hb, hv⟩
theorem call_left (hgl : GlOk w0 B0 K.gl) (hm : P.follows .mixedOrders = true) (hT : TabOk P T) (hng : NoNG P) (hK : KOk P w0 B0 K) {n : Nat} (ih : CallOk P w0 B0 (evX P T K n)) {f : FuncId} {args : List AV} {s : St} {e : End} {s' : St} (hlt : f < yb) (hx : K.ext f = none) (h : evX P T K (n + 1) f args s = some (e, s')) :
  Callable P f ∧ ∀ (ρ : Loc) (w : World) (args' : Array Value), Sim w0 B0 ρ s w → CR w0 B0 ρ args args'.toList → CallsIn Fence.wide 0 P f args' w (CallPost w0 B0 ρ s.ctr e s') := by
 have hce := Ext.calls (T := T) (P := P) (K := K) n
 simp only [evX] at h
 have hb : Nat.ble yb f = false := by
  cases hb : Nat.ble yb f with
  | false => rfl
  | true => exact absurd (Nat.le_of_ble_eq_true hb) (Nat.not_le.2 hlt)
 simp only [hb, cond_false, hx] at h
 split at h
 ·rename_i b hk
  simp only [sjj, pjj] at h
  obtain ⟨rfl, rfl⟩ := h
  obtain ⟨h1, h2⟩ := hK.tab f b hk
  refine ⟨h1, fun ρ w args' hs hargs => ?_⟩
  have : args' = #[] := by have := hargs.1; exact Array.eq_empty_of_size_eq_zero (by simpa using this.symm)
  subst this
  refine callsIn_wide.2 ((h2 w ⟨hs.low, hs.big⟩).mono ?_)
  rintro e w' ⟨rfl, hb⟩
  exact ⟨ρ, Loc.lex_refl _ _, hs.later hb, .bool b⟩
 ·exact body_sound hgl hm hT hng ih hce n f _ s e s' h
theorem call_sound (hgl : GlOk w0 B0 K.gl) (hm : P.follows .mixedOrders = true) (hT : TabOk P T) (hng : NoNG P) (hK : KOk P w0 B0 K) : ∀ n, CallOk P w0 B0 (evX P T K n)
 | 0 => fun f args s e s' h => by simp [evX] at h
 | n + 1 => fun f args s e s' h => by
  have ih := call_sound hgl hm hT hng hK n
  have hce := Ext.calls (T := T) (P := P) (K := K) n
  simp only [evX] at h
  cases hb : Nat.ble yb f with
  | true =>
   rw [hb, cond_true] at h
   have hle : yb ≤ f := Nat.le_of_ble_eq_true hb
   refine ⟨fun hf => absurd hf (Nat.not_lt.2 hle), fun g hg ρ w args' b n' hρ hs ha => ?_⟩
   subst hg
   rw [Nat.add_sub_cancel_left] at h
   exact round_sound hm hT ih hce h hρ hs ha
  | false =>
   rw [hb, cond_false] at h
   have hlt : f < yb := by
    refine Nat.lt_of_not_le fun hle => ?_
    rw [Nat.ble_eq_true_of_le hle] at hb
    cases hb
   refine ⟨fun _ => ?_, fun g hg => absurd hlt (by rw [hg]; exact Nat.not_lt.2 (Nat.le_add_right _ _))⟩
   split at h
   ·rename_i x hx
    split at h
    ·rename_i v0 hv
     simp only [sjj, pjj] at h
     obtain ⟨rfl, rfl⟩ := h
     cases x with
     | idxByte => exact .inr (ext_sound (hK.ext f _ hx) hv s)
     | lib g => exact .inl (lib_sound (hK.ext f _ hx) hv s)
    ·cases h
   left
   split at h
   ·rename_i b hk
    simp only [sjj, pjj] at h
    obtain ⟨rfl, rfl⟩ := h
    obtain ⟨h1, h2⟩ := hK.tab f b hk
    refine ⟨h1, fun ρ w args' hs hargs => ?_⟩
    have : args' = #[] := by have := hargs.1; exact Array.eq_empty_of_size_eq_zero (by simpa using this.symm)
    subst this
    refine callsIn_wide.2 ((h2 w ⟨hs.low, hs.big⟩).mono ?_)
    rintro e w' ⟨rfl, hb⟩
    exact ⟨ρ, Loc.lex_refl _ _, hs.later hb, .bool b⟩
   ·exact body_sound hgl hm hT hng ih hce n f _ s e s' h
end
end Go.Ab
namespace Go.Ab
section
variable {T : Tab} {call call' : FuncId → List AV → St → Option (End × St)}
end
end Go.Ab
namespace Go.Ab
noncomputable def rdH (h : Tr Grp) (g j off n : Nat) : Option (List AV) :=
 match Tr.get h g with
 | none => none
 | some G => G.read j off n
theorem read_rd (s : St) (g j off n : Nat) : s.read g j off n = rdH s.h g j off n := rfl
theorem Grp.read_eq {G : Grp} {j off n : Nat} {cs : List AV} (h : G.read j off n = some cs) : ∃ V, G.vers[j]? = some V ∧ V.mp = none ∧ off + n ≤ V.cells.length ∧ (V.cells.drop off).take n = cs := by
 unfold Grp.read at h
 cases hj : G.vers[j]? with
 | none => rw [hj] at h; cases h
 | some V =>
  rw [hj] at h
  simp only at h
  split at h
  ·rename_i hc
   exact ⟨V, rfl, Option.isNone_iff_eq_none.1 hc.1, hc.2, Option.some.inj h⟩
  ·cases h
theorem Grp.read_mk {G : Grp} {j off n : Nat} {V : Ver} (h : G.vers[j]? = some V) (hm : V.mp = none) (hl : off + n ≤ V.cells.length) : G.read j off n = some ((V.cells.drop off).take n) := by
 unfold Grp.read
 rw [h]
 simp only [hm, Option.isNone_none, true_and, hl, if_true]
theorem rdH_len {h : Tr Grp} {g j off n : Nat} {cs : List AV} (k : rdH h g j off n = some cs) : cs.length = n := by
 unfold rdH at k
 split at k
 ·cases k
 ·obtain ⟨V, -, -, hl, rfl⟩ := Grp.read_eq k
  simp; omega
theorem rdH_has {h : Tr Grp} {g j off n : Nat} {cs : List AV} (k : rdH h g j off n = some cs) : ∃ G, Tr.get h g = some G := by
 unfold rdH at k
 split at k
 ·cases k
 ·exact ⟨_, ‹_›⟩
theorem rdH_part {h : Tr Grp} {g j off n : Nat} {cs : List AV} (k : rdH h g j off n = some cs) (o l : Nat) (hl : o + l ≤ n) : rdH h g j (off + o) l = some ((cs.drop o).take l) := by
 unfold rdH at k ⊢
 split at k
 ·cases k
 ·rename_i G hG
  obtain ⟨V, h1, h2, h3, rfl⟩ := Grp.read_eq k
  rw [Grp.read_mk h1 h2 (by omega)]
  congr 1
  rw [List.drop_take, List.drop_drop, List.take_take, Nat.min_eq_left (by omega)]
theorem flat_len {cs : List (List AV)} {sz : Nat} (h : ∀ c ∈ cs, c.length = sz) : cs.flatten.length = cs.length * sz := by
 induction cs with
 | nil => simp
 | cons c cs ih =>
  rw [List.flatten_cons, laa, ih (fun x hx => h x (List.mem_cons_of_mem _ hx)), h c (mcs ..), lcc, Nat.succ_mul, Nat.add_comm]
theorem flat_part {cs : List (List AV)} {sz : Nat} (h : ∀ c ∈ cs, c.length = sz) {i : Nat} {c : List AV} (hc : cs[i]? = some c) : (cs.flatten.drop (i * sz)).take sz = c := by
 induction cs generalizing i with
 | nil => simp at hc
 | cons x cs ih =>
  have hx := h x (mcs ..)
  cases i with
  | zero =>
   simp only [List.getElem?_cons_zero, sjj] at hc
   subst hc
   simp [List.flatten_cons, ← hx]
  | succ i =>
   rw [List.flatten_cons, Nat.succ_mul, Nat.add_comm, ← List.drop_drop, ← hx, List.drop_left, hx]
   exact ih (fun y hy => h y (List.mem_cons_of_mem _ hy)) (by simpa using hc)
inductive FzL (h : Tr Grp) (D : Nat → Prop) : List AV → List AV → Prop
 | nil : FzL h D [] []
 | same (v : AV) {r r' : List AV} (k : FzL h D r r') : FzL h D (v :: r) (v :: r')
 | agg {cs cs' r r' : List AV} (a : FzL h D cs cs') (k : FzL h D r r') : FzL h D (.agg cs :: r) (.agg cs' :: r')
 | tup {cs cs' r r' : List AV} (a : FzL h D cs cs') (k : FzL h D r r') : FzL h D (.tup cs :: r) (.tup cs' :: r')
 | ro (nl : Bool) {cs cs' r r' : List AV} (a : FzL h D cs cs') (k : FzL h D r r') : FzL h D (.ro nl cs :: r) (.ro nl cs' :: r')
 | rop {cs cs' r r' : List AV} (a : FzL h D cs cs') (k : FzL h D r r') : FzL h D (.rop cs :: r) (.rop cs' :: r')
 | fn (f : FuncId) {cs cs' r r' : List AV} (a : FzL h D cs cs') (k : FzL h D r r') : FzL h D (.fn f cs :: r) (.fn f cs' :: r')
 | mv (f : FuncId) {cs cs' r r' : List AV} (a : FzL h D cs cs') (k : FzL h D r r') : FzL h D (.mv f cs :: r) (.mv f cs' :: r')
 | iface (t : TypeId) {v v' : AV} {r r' : List AV} (a : FzL h D [v] [v']) (k : FzL h D r r') : FzL h D (.iface t v :: r) (.iface t v' :: r')
 | slc {g j off sz len lo : Nat} {ex : Bool} {cs xs r r' : List AV} (hg : D g) (h0 : sz ≠ 0) (hx : ∀ x ∈ xs, x.cells.length = sz ∧ x.cells.all AV.leaf = true) (hr : rdH h g j off (xs.length * sz) = some cs) (he : len = xs.length) (hl : len ≤ lo)
   (a : FzL h D cs (xs.flatMap AV.cells)) (k : FzL h D r r') : FzL h D (.slc g j off sz len lo ex :: r) (.ro false xs :: r')
 | ptr {g j off : Nat} {cs cs' r r' : List AV} (hg : D g) (hr : rdH h g j off cs'.length = some cs) (hl : cs'.all AV.leaf = true) (a : FzL h D cs cs') (k : FzL h D r r') : FzL h D (.ptr g j off :: r) (.rop cs' :: r')
section
variable {h h' : Tr Grp} {D D' : Nat → Prop} {l l' r r' : List AV} {v v' : AV}
theorem FzL.refl : ∀ l : List AV, FzL h D l l
 | [] => .nil
 | v :: r => .same v (FzL.refl r)
theorem FzL.len (k : FzL h D l l') : l.length = l'.length := by
 induction k with
 | nil => rfl
 | _ => simp only [lcc]; omega
theorem FzL.cons (a : FzL h D [v] [v']) (k : FzL h D r r') : FzL h D (v :: r) (v' :: r') := by
 cases a with
 | same _ _ => exact .same _ k
 | agg a _ => exact .agg a k
 | tup a _ => exact .tup a k
 | ro _ a _ => exact .ro _ a k
 | rop a _ => exact .rop a k
 | fn _ a _ => exact .fn _ a k
 | mv _ a _ => exact .mv _ a k
 | iface _ a _ => exact .iface _ a k
 | slc hg h0 hx hr he hl a _ => exact .slc hg h0 hx hr he hl a k
 | ptr hg hr hl a _ => exact .ptr hg hr hl a k
theorem FzL.uncons (k : FzL h D (v :: r) (v' :: r')) : FzL h D [v] [v'] ∧ FzL h D r r' := by
 cases k with
 | same _ k => exact ⟨.same _ .nil, k⟩
 | agg a k => exact ⟨.agg a .nil, k⟩
 | tup a k => exact ⟨.tup a .nil, k⟩
 | ro _ a k => exact ⟨.ro _ a .nil, k⟩
 | rop a k => exact ⟨.rop a .nil, k⟩
 | fn _ a k => exact ⟨.fn _ a .nil, k⟩
 | mv _ a k => exact ⟨.mv _ a .nil, k⟩
 | iface _ a k => exact ⟨.iface _ a .nil, k⟩
 | slc hg h0 hx hr he hl a k => exact ⟨.slc hg h0 hx hr he hl a .nil, k⟩
 | ptr hg hr hl a k => exact ⟨.ptr hg hr hl a .nil, k⟩
theorem FzL.get (k : FzL h D l l') : ∀ {i : Nat} {v' : AV}, l'[i]? = some v' → ∃ v, l[i]? = some v ∧ FzL h D [v] [v'] := by
 have key : ∀ (l' l : List AV), FzL h D l l' → ∀ {i : Nat} {v' : AV}, l'[i]? = some v' → ∃ v, l[i]? = some v ∧ FzL h D [v] [v'] := by
  intro l'
  induction l' with
  | nil => intro l _ i v' h; simp at h
  | cons x l' ih =>
   intro l k i v' hi
   cases l with
   | nil => cases k
   | cons y l =>
    obtain ⟨k1, k2⟩ := k.uncons
    cases i with
    | zero => simp only [List.getElem?_cons_zero, sjj] at hi ⊢; subst hi; exact ⟨y, rfl, k1⟩
    | succ i => simp only [List.getElem?_cons_succ] at hi ⊢; exact ih l k2 hi
 intro i w hw
 exact key l' l k hw
theorem FzL.of (hl : l.length = l'.length) (k : ∀ (i : Nat) (v v' : AV), l[i]? = some v → l'[i]? = some v' → FzL h D [v] [v']) : FzL h D l l' := by
 induction l generalizing l' with
 | nil =>
  cases l' with
  | nil => exact .nil
  | cons => simp at hl
 | cons x l ih =>
  cases l' with
  | nil => simp at hl
  | cons y l' =>
   refine .cons (k 0 x y rfl rfl) (ih (by simpa using hl) fun i v v' h1 h2 => k (i + 1) v v' (by simpa using h1) (by simpa using h2))
theorem FzL.at (k : FzL h D l l') {i : Nat} (h1 : l[i]? = some v) (h2 : l'[i]? = some v') : FzL h D [v] [v'] := by
 obtain ⟨w, e, hw⟩ := k.get h2
 rw [h1] at e; cases e; exact hw
theorem FzL.take (k : FzL h D l l') (n : Nat) : FzL h D (l.take n) (l'.take n) :=
 .of (by simp [k.len]) fun i v v' h1 h2 => by
  rw [List.getElem?_take] at h1 h2
  split at h1
  ·rw [if_pos ‹_›] at h2; exact k.at h1 h2
  ·cases h1
theorem FzL.drop (k : FzL h D l l') (n : Nat) : FzL h D (l.drop n) (l'.drop n) :=
 .of (by simp [k.len]) fun i v v' h1 h2 => by
  rw [List.getElem?_drop] at h1 h2
  exact k.at h1 h2
theorem FzL.app (k : FzL h D l l') (k' : FzL h D r r') : FzL h D (l ++ r) (l' ++ r') := by
 induction l generalizing l' with
 | nil => cases k; exact k'
 | cons x l ih =>
  cases l' with
  | nil => cases k
  | cons y l' =>
   obtain ⟨k1, k2⟩ := k.uncons
   exact .cons k1 (ih k2)
theorem FzL.over (k : FzL h D l l') (off : Nat) (k' : FzL h D r r') : FzL h D (over l off r) (over l' off r') := by
 unfold Ab.over
 rw [k'.len]
 exact ((k.take off).app k').app (k.drop _)
theorem FzL.poke (k : FzL h D l l') (f : Nat → Bool) : FzL h D (l.mapIdx fun i c => if f i then .poison else c) (l'.mapIdx fun i c => if f i then .poison else c) :=
 .of (by simp [k.len]) fun i v v' h1 h2 => by
  rw [List.getElem?_mapIdx] at h1 h2
  cases e1 : l[i]? with
  | none => rw [e1] at h1; cases h1
  | some a =>
   cases e2 : l'[i]? with
   | none => rw [e2] at h2; cases h2
   | some b =>
    rw [e1] at h1; rw [e2] at h2
    cases h1; cases h2
    by_cases hf : f i = true
    ·simp only [hf, if_true]; exact .refl _
    ·simp only [hf, Bool.false_eq_true, if_false]; exact k.at e1 e2
theorem FzL.leaf1 (k : FzL h D [v] [v']) : v.leaf = v'.leaf := by cases k <;> rfl
theorem FzL.leaf (k : FzL h D l l') : l.all AV.leaf = l'.all AV.leaf := by
 induction l generalizing l' with
 | nil => cases k; rfl
 | cons x l ih =>
  cases l' with
  | nil => cases k
  | cons y l' =>
   obtain ⟨k1, k2⟩ := k.uncons
   rw [List.all_cons, List.all_cons, k1.leaf1, ih k2]
theorem FzL.cells (k : FzL h D [v] [v']) : FzL h D v.cells v'.cells := by
 cases k with
 | same => exact .refl _
 | agg a _ => exact a
 | tup a _ => exact .tup a .nil
 | ro _ a _ => exact .ro _ a .nil
 | rop a _ => exact .rop a .nil
 | fn _ a _ => exact .fn _ a .nil
 | mv _ a _ => exact .mv _ a .nil
 | iface _ a _ => exact .iface _ a .nil
 | slc hg h0 hx hr he hl a _ => exact .slc hg h0 hx hr he hl a .nil
 | ptr hg hr hl a _ => exact .ptr hg hr hl a .nil
theorem FzL.clen (k : FzL h D [v] [v']) : v.cells.length = v'.cells.length := k.cells.len
theorem FzL.cleaf (k : FzL h D [v] [v']) : v.cells.all AV.leaf = v'.cells.all AV.leaf := k.cells.leaf
theorem FzL.flat (k : FzL h D l l') : FzL h D (l.flatMap AV.cells) (l'.flatMap AV.cells) := by
 induction l generalizing l' with
 | nil => cases k; exact .nil
 | cons x l ih =>
  cases l' with
  | nil => cases k
  | cons y l' =>
   obtain ⟨k1, k2⟩ := k.uncons
   rw [List.flatMap_cons, List.flatMap_cons]
   exact k1.cells.app (ih k2)
theorem FzL.all {p : AV → Bool} (hp : ∀ {v v' : AV}, FzL h D [v] [v'] → p v = p v') (k : FzL h D l l') : l.all p = l'.all p := by
 induction l generalizing l' with
 | nil => cases k; rfl
 | cons x l ih =>
  cases l' with
  | nil => cases k
  | cons y l' =>
   obtain ⟨k1, k2⟩ := k.uncons
   rw [List.all_cons, List.all_cons, hp k1, ih k2]
theorem rdH_same {g j off n : Nat} (e : Tr.get h' g = Tr.get h g) : rdH h' g j off n = rdH h g j off n := by unfold rdH; rw [e]
theorem FzL.mono (k : FzL h D l l') (hh : ∀ g, D g → Tr.get h' g = Tr.get h g) (hD : ∀ g, D g → D' g) : FzL h' D' l l' := by
 induction k with
 | nil => exact .nil
 | same v _ ih => exact .same v ih
 | agg _ _ i1 i2 => exact .agg i1 i2
 | tup _ _ i1 i2 => exact .tup i1 i2
 | ro nl _ _ i1 i2 => exact .ro nl i1 i2
 | rop _ _ i1 i2 => exact .rop i1 i2
 | fn f _ _ i1 i2 => exact .fn f i1 i2
 | mv f _ _ i1 i2 => exact .mv f i1 i2
 | iface t _ _ i1 i2 => exact .iface t i1 i2
 | slc hg h0 hx hr he hl _ _ i1 i2 => exact .slc (hD _ hg) h0 hx (by rw [rdH_same (hh _ hg)]; exact hr) he hl i1 i2
 | ptr hg hr hl _ _ i1 i2 => exact .ptr (hD _ hg) (by rw [rdH_same (hh _ hg)]; exact hr) hl i1 i2
def AV.hard : AV → Bool
 | .agg _ | .tup _ | .ro _ _ | .rop _ | .fn _ _ | .mv _ _ | .iface _ _ => false
 | _ => true
theorem FzL.hard (k : FzL h D [v] [v']) (hv : v'.hard = true) : v = v' := by
 cases k <;> first | rfl | cases hv
theorem FzL.inv_agg {cs' : List AV} (k : FzL h D [v] [.agg cs']) : ∃ cs, v = .agg cs ∧ FzL h D cs cs' := by
 cases k with
 | same => exact ⟨_, rfl, .refl _⟩
 | agg a _ => exact ⟨_, rfl, a⟩
theorem FzL.inv_tup {cs' : List AV} (k : FzL h D [v] [.tup cs']) : ∃ cs, v = .tup cs ∧ FzL h D cs cs' := by
 cases k with
 | same => exact ⟨_, rfl, .refl _⟩
 | tup a _ => exact ⟨_, rfl, a⟩
theorem FzL.inv_fn {f : FuncId} {cs' : List AV} (k : FzL h D [v] [.fn f cs']) : ∃ cs, v = .fn f cs ∧ FzL h D cs cs' := by
 cases k with
 | same => exact ⟨_, rfl, .refl _⟩
 | fn _ a _ => exact ⟨_, rfl, a⟩
theorem FzL.inv_mv {f : FuncId} {cs' : List AV} (k : FzL h D [v] [.mv f cs']) : ∃ cs, v = .mv f cs ∧ FzL h D cs cs' := by
 cases k with
 | same => exact ⟨_, rfl, .refl _⟩
 | mv _ a _ => exact ⟨_, rfl, a⟩
theorem FzL.inv_iface {t : TypeId} {x' : AV} (k : FzL h D [v] [.iface t x']) : ∃ x, v = .iface t x ∧ FzL h D [x] [x'] := by
 cases k with
 | same => exact ⟨_, rfl, .refl _⟩
 | iface _ a _ => exact ⟨_, rfl, a⟩
structure FzRow (h : Tr Grp) (D : Nat → Prop) (g j off sz len lo : Nat) (xs : List AV) : Prop where
 hg : D g
 h0 : sz ≠ 0
 hx : ∀ x ∈ xs, x.cells.length = sz ∧ x.cells.all AV.leaf = true
 hr : ∃ cs, rdH h g j off (xs.length * sz) = some cs ∧ FzL h D cs (xs.flatMap AV.cells)
 he : len = xs.length
 hl : len ≤ lo
theorem FzL.inv_ro {nl : Bool} {xs' : List AV} (k : FzL h D [v] [.ro nl xs']) : (∃ xs, v = .ro nl xs ∧ FzL h D xs xs') ∨ (nl = false ∧ ∃ g j off sz len lo ex, v = .slc g j off sz len lo ex ∧ FzRow h D g j off sz len lo xs') := by
 cases k with
 | same => exact .inl ⟨_, rfl, .refl _⟩
 | ro _ a _ => exact .inl ⟨_, rfl, a⟩
 | slc hg h0 hx hr he hl a _ => exact .inr ⟨rfl, _, _, _, _, _, _, _, rfl, ⟨hg, h0, hx, ⟨_, hr, a⟩, he, hl⟩⟩
theorem FzL.inv_rop {cs' : List AV} (k : FzL h D [v] [.rop cs']) : (∃ cs, v = .rop cs ∧ FzL h D cs cs') ∨ (∃ g j off cs, v = .ptr g j off ∧ D g ∧ rdH h g j off cs'.length = some cs ∧ cs'.all AV.leaf = true ∧ FzL h D cs cs') := by
 cases k with
 | same => exact .inl ⟨_, rfl, .refl _⟩
 | rop a _ => exact .inl ⟨_, rfl, a⟩
 | ptr hg hr hl a _ => exact .inr ⟨_, _, _, _, rfl, hg, hr, hl, a⟩
end
inductive DsZ (h : Tr Grp) (D : Nat → Prop) : List DefA → List DefA → Prop
 | nil : DsZ h D [] []
 | col (g : Nat) {r r' : List DefA} (k : DsZ h D r r') : DsZ h D (.col g :: r) (.col g :: r')
 | clo (f : FuncId) {a a' : List AV} {r r' : List DefA} (e : FzL h D a a') (k : DsZ h D r r') : DsZ h D (.clo f a :: r) (.clo f a' :: r')
structure TLZ (h : Tr Grp) (D : Nat → Prop) (t' t : TL) : Prop where
 n : t'.n = t.n
 rd : t'.rd = t.rd
 gl : t'.gl = t.gl
 ds : DsZ h D t'.ds t.ds
 get : ∀ i, FzL h D [t'.get i] [t.get i]
structure LRZ (h : Tr Grp) (D : Nat → Prop) (r' r : LRec) : Prop where
 state : r'.state = r.state
 pend : r'.pend = r.pend
 t : TLZ h D r'.t r.t
 ps : r'.ps = r.ps
 asg : r'.asg = r.asg
 body : r'.body = r.body
 dg : r'.dg = r.dg
def OwnZ (h : Tr Grp) (D : Nat → Prop) : Option Own → Option Own → Prop
 | none, none => True
 | some (.mp es'), some (.mp es) => es'.map (·.1) = es.map (·.1) ∧ FzL h D (es'.map (·.2)) (es.map (·.2))
 | some (.loop r'), some (.loop r) => LRZ h D r' r
 | some (.dfr a), some (.dfr b) => a = b
 | some (.frz a), some (.frz b) => a = b
 | _, _ => False
structure VerZ (h : Tr Grp) (D : Nat → Prop) (V' V : Ver) : Prop where
 cells : FzL h D V'.cells V.cells
 delta : V'.delta = V.delta
 mp : OwnZ h D V'.mp V.mp
structure GZ (h : Tr Grp) (D : Nat → Prop) (G' G : Grp) : Prop where
 len : G'.vers.length = G.vers.length
 get : ∀ (j : Nat) (V : Ver), G.vers[j]? = some V → ∃ V', G'.vers[j]? = some V' ∧ VerZ h D V' V
structure StZ (D : Nat → Prop) (s z : St) : Prop where
 ctr : s.ctr = z.ctr
 wr : s.wr = z.wr
 get : ∀ (g : Nat) (G : Grp), Tr.get z.h g = some G → ¬ D g ∧ ∃ G', Tr.get s.h g = some G' ∧ GZ s.h D G' G
 bd : ∀ g, D g → g < s.ctr
section
variable {h h' : Tr Grp} {D D' : Nat → Prop}
theorem DsZ.refl : ∀ l : List DefA, DsZ h D l l
 | [] => .nil
 | .col g :: r => .col g (DsZ.refl r)
 | .clo f a :: r => .clo f (FzL.refl a) (DsZ.refl r)
theorem TLZ.refl (t : TL) : TLZ h D t t := ⟨rfl, rfl, rfl, DsZ.refl _, fun _ => FzL.refl _⟩
theorem OwnZ.refl : ∀ o : Option Own, OwnZ h D o o
 | none => trivial
 | some (.mp es) => ⟨rfl, FzL.refl _⟩
 | some (.loop r) => ⟨rfl, rfl, TLZ.refl _, rfl, rfl, rfl, rfl⟩
 | some (.dfr a) => rfl
 | some (.frz a) => rfl
theorem GZ.refl (G : Grp) : GZ h D G G := ⟨rfl, fun _ V hV => ⟨V, hV, FzL.refl _, rfl, OwnZ.refl _⟩⟩
theorem StZ.refl {s : St} : StZ (fun _ => False) s s := ⟨rfl, rfl, fun g G hG => ⟨id, G, hG, GZ.refl G⟩, fun _ h => h.elim⟩
section
variable (hh : ∀ g, D g → Tr.get h' g = Tr.get h g) (hD : ∀ g, D g → D' g)
include hh hD
theorem DsZ.mono {l l' : List DefA} (k : DsZ h D l l') : DsZ h' D' l l' := by
 induction k with
 | nil => exact .nil
 | col g _ ih => exact .col g ih
 | clo f e _ ih => exact .clo f (e.mono hh hD) ih
theorem TLZ.mono {t' t : TL} (k : TLZ h D t' t) : TLZ h' D' t' t := ⟨k.n, k.rd, k.gl, k.ds.mono hh hD, fun i => (k.get i).mono hh hD⟩
theorem OwnZ.mono {o' o : Option Own} (k : OwnZ h D o' o) : OwnZ h' D' o' o := by
 match o', o, k with
 | none, none, _ => trivial
 | some (.mp _), some (.mp _), k => exact ⟨k.1, k.2.mono hh hD⟩
 | some (.loop _), some (.loop _), k => exact ⟨k.state, k.pend, k.t.mono hh hD, k.ps, k.asg, k.body, k.dg⟩
 | some (.dfr _), some (.dfr _), k => exact k
 | some (.frz _), some (.frz _), k => exact k
theorem GZ.mono {G' G : Grp} (k : GZ h D G' G) : GZ h' D' G' G := ⟨k.len, fun j V hV => by
  obtain ⟨V', h1, h2⟩ := k.get j V hV
  exact ⟨V', h1, h2.cells.mono hh hD, h2.delta, h2.mp.mono hh hD⟩⟩
end
end
end Go.Ab
namespace Go.Ab
structure StepZ (D : Nat → Prop) (s z s1 z1 : St) : Prop where
 st : StZ D s1 z1
 wr : ∃ w, s1.wr = w ++ s.wr ∧ z1.wr = w ++ z.wr ∧ ∀ g ∈ w, ¬ D g
 un : ∀ g, D g → Tr.get s1.h g = Tr.get s.h g
section
variable {D : Nat → Prop} {s z s1 z1 s2 z2 : St} {h : Tr Grp}
theorem StepZ.refl (k : StZ D s z) : StepZ D s z s z := ⟨k, ⟨[], rfl, rfl, fun _ h => by cases h⟩, fun _ _ => rfl⟩
theorem StepZ.trans (k : StepZ D s z s1 z1) (k' : StepZ D s1 z1 s2 z2) : StepZ D s z s2 z2 := by
 obtain ⟨w, h1, h2, h3⟩ := k.wr
 obtain ⟨w', h1', h2', h3'⟩ := k'.wr
 exact ⟨k'.st, ⟨w' ++ w, by rw [h1', h1, aas], by rw [h2', h2, aas], fun g hg => (List.mem_append.1 hg).elim (h3' g) (h3 g)⟩, fun g hg => (k'.un g hg).trans (k.un g hg)⟩
theorem StepZ.newG (k : StZ D s z) {G' G : Grp} (hG : GZ s.h D G' G) : StepZ D s z (s.newG G') (z.newG G) := by
 have hc : ¬ D s.ctr := fun h => Nat.lt_irrefl _ (k.bd _ h)
 have hun : ∀ g, D g → Tr.get (s.newG G').h g = Tr.get s.h g := fun g hg => by
  simp only [St.newG, Tr.get_set]
  refine if_neg fun e => hc ?_
  rw [← e]; exact hg
 refine ⟨⟨by simp only [St.newG, k.ctr], by simp only [St.newG, k.ctr, k.wr], fun g X hX => ?_, fun g hg => Nat.lt_succ_of_lt (k.bd g hg)⟩, ⟨[s.ctr], rfl, by rw [k.ctr]; rfl, fun g hg => by rw [msi.1 hg]; exact hc⟩, hun⟩
 simp only [St.newG, Tr.get_set] at hX
 by_cases e : g = s.ctr
 ·subst e
  rw [if_pos k.ctr] at hX
  cases hX
  exact ⟨hc, G', by simp only [St.newG, Tr.get_set, if_true], hG.mono hun fun _ h => h⟩
 ·rw [if_neg (by rw [← k.ctr]; exact e)] at hX
  obtain ⟨h1, X', h2, h3⟩ := k.get g X hX
  exact ⟨h1, X', by simp only [St.newG, Tr.get_set]; rw [if_neg e, h2], h3.mono hun fun _ h => h⟩
theorem StepZ.setG (k : StZ D s z) {g : Nat} {G0 G' G : Grp} (hz : Tr.get z.h g = some G0) (hG : GZ s.h D G' G) : StepZ D s z (s.setG g G') (z.setG g G) := by
 have hc : ¬ D g := (k.get g G0 hz).1
 have hun : ∀ x, D x → Tr.get (s.setG g G').h x = Tr.get s.h x := fun x hx => by
  simp only [St.setG, Tr.get_set]
  refine if_neg fun e => hc ?_
  rw [← e]; exact hx
 refine ⟨⟨k.ctr, by simp only [St.setG, k.wr], fun x X hX => ?_, k.bd⟩, ⟨[g], rfl, rfl, fun x hx => by rw [msi.1 hx]; exact hc⟩, hun⟩
 simp only [St.setG, Tr.get_set] at hX
 by_cases e : x = g
 ·subst e
  rw [if_pos rfl] at hX
  cases hX
  exact ⟨hc, G', by simp only [St.setG, Tr.get_set, if_true], hG.mono hun fun _ h => h⟩
 ·rw [if_neg e] at hX
  obtain ⟨h1, X', h2, h3⟩ := k.get x X hX
  exact ⟨h1, X', by simp only [St.setG, Tr.get_set]; rw [if_neg e, h2], h3.mono hun fun _ h => h⟩
theorem OwnZ.isNone {o' o : Option Own} (k : OwnZ h D o' o) : o'.isNone = o.isNone := by
 match o', o, k with
 | none, none, _ => rfl
 | some (.mp _), some (.mp _), _ => rfl
 | some (.loop _), some (.loop _), _ => rfl
 | some (.dfr _), some (.dfr _), _ => rfl
 | some (.frz _), some (.frz _), _ => rfl
theorem GZ.read {G' G : Grp} (k : GZ h D G' G) {j off n : Nat} {cs : List AV} (hr : G.read j off n = some cs) : ∃ cs', G'.read j off n = some cs' ∧ FzL h D cs' cs := by
 unfold Grp.read at hr ⊢
 cases hj : G.vers[j]? with
 | none => rw [hj] at hr; cases hr
 | some V =>
  rw [hj] at hr
  obtain ⟨V', h1, h2⟩ := k.get j V hj
  rw [h1]
  simp only at hr ⊢
  split at hr
  ·rename_i hc
   cases hr
   rw [if_pos ⟨by rw [h2.mp.isNone]; exact hc.1, by rw [h2.cells.len]; exact hc.2⟩]
   exact ⟨_, rfl, (h2.cells.drop _).take _⟩
  ·cases hr
theorem read_ref (k : StZ D s z) {g j off n : Nat} {cs : List AV} (hr : z.read g j off n = some cs) : ∃ cs', s.read g j off n = some cs' ∧ FzL s.h D cs' cs := by
 unfold St.read St.get at hr ⊢
 cases hg : Tr.get z.h g with
 | none => rw [hg] at hr; cases hr
 | some G =>
  rw [hg] at hr
  obtain ⟨-, G', h1, h2⟩ := k.get g G hg
  rw [h1]
  exact h2.read hr
theorem GZ.one {G' : Grp} {V : Ver} (k : GZ h D G' ⟨[V]⟩) : ∃ V', G' = ⟨[V']⟩ ∧ VerZ h D V' V := by
 obtain ⟨V', h1, h2⟩ := k.get 0 V rfl
 obtain ⟨l⟩ := G'
 have := k.len
 simp only at this h1
 match l, this, h1 with
 | [x], _, h1 => cases h1; exact ⟨_, rfl, h2⟩
theorem readL_ref (k : StZ D s z) {g j off n : Nat} {cs : List AV} (hr : z.readL g j off n = some cs) : ∃ cs', s.readL g j off n = some cs' ∧ FzL s.h D cs' cs := by
 unfold St.readL at hr
 cases h1 : z.read g j off n with
 | some cs1 =>
  rw [h1] at hr
  cases hr
  obtain ⟨cs', e, hf⟩ := read_ref k h1
  exact ⟨cs', readL_of e, hf⟩
 | none =>
  rw [h1] at hr
  simp only at hr
  unfold St.readF St.get at hr
  split at hr
  ·rename_i V hV
   split at hr
   ·rename_i xs hx
    split at hr
    ·rename_i hc
     cases hr
     obtain ⟨-, G', e1, e2⟩ := k.get g _ hV
     obtain ⟨V', rfl, e3⟩ := e2.one
     have hm := e3.mp
     rw [hx] at hm
     have hm' : V'.mp = some (.frz xs) := by
      match hq : V'.mp, hm with
      | some (.frz _), hm => rw [hm]
     refine ⟨_, ?_, FzL.refl _⟩
     have hn : s.read g j off n = none := by
      unfold St.read St.get
      rw [e1]
      simp only [Grp.read, hc.1, List.getElem?_cons_zero, hm']
      rfl
     unfold St.readL
     rw [hn]
     simp only [St.readF, St.get, e1, hm']
     rw [if_pos hc]
    ·cases hr
   ·cases hr
  ·cases hr
theorem GZ.write {G' G G1 : Grp} (k : GZ h D G' G) {j off : Nat} {cs' cs : List AV} (hc : FzL h D cs' cs) (hw : G.write j off cs = some G1) : ∃ G1', G'.write j off cs' = some G1' ∧ GZ h D G1' G1 := by
 unfold Grp.write at hw ⊢
 cases hj : G.vers[j]? with
 | none => rw [hj] at hw; cases hw
 | some V =>
  rw [hj] at hw
  obtain ⟨V', h1, h2⟩ := k.get j V hj
  rw [h1]
  simp only at hw ⊢
  split at hw
  ·rename_i hcnd
   cases hw
   rw [if_pos ⟨by rw [h2.mp.isNone]; exact hcnd.1, by rw [h2.cells.len, hc.len]; exact hcnd.2⟩]
   refine ⟨_, rfl, by simp [k.len], fun i U hU => ?_⟩
   simp only at hU ⊢
   rw [List.getElem?_mapIdx] at hU
   cases hi : G.vers[i]? with
   | none => rw [hi] at hU; cases hU
   | some X =>
    rw [hi] at hU
    obtain ⟨X', k1, k2⟩ := k.get i X hi
    rw [List.getElem?_mapIdx, k1]
    refine ⟨_, rfl, ?_⟩
    simp only [Option.map_some, sjj] at hU
    subst hU
    dsimp only
    by_cases e : i = j
    ·rw [if_pos e, if_pos e]
     exact ⟨h2.cells.over _ hc, h2.delta, h2.mp⟩
    ·rw [if_neg e, if_neg e]
     refine ⟨?_, k2.delta, k2.mp⟩
     unfold Ver.poke
     simp only
     rw [h2.delta, k2.delta, hc.len]
     have := k2.cells.poke fun i => decide (V.delta + off ≤ X.delta + i ∧ X.delta + i < V.delta + off + cs.length)
     simpa using this
  ·cases hw
theorem write_ref (k : StZ D s z) {g j off : Nat} {cs' cs : List AV} (hc : FzL s.h D cs' cs) (hw : z.write g j off cs = some z1) : ∃ s1, s.write g j off cs' = some s1 ∧ StepZ D s z s1 z1 := by
 unfold St.write St.get at hw ⊢
 rw [hc.leaf]
 split at hw
 ·rename_i hl
  rw [if_pos hl]
  cases hg : Tr.get z.h g with
  | none => rw [hg] at hw; cases hw
  | some G =>
   rw [hg] at hw
   obtain ⟨-, G', h1, h2⟩ := k.get g G hg
   rw [h1]
   simp only at hw ⊢
   cases hG : G.write j off cs with
   | none => rw [hG] at hw; cases hw
   | some G1 =>
    rw [hG] at hw
    cases hw
    obtain ⟨G1', e1, e2⟩ := h2.write hc hG
    rw [e1]
    exact ⟨_, rfl, StepZ.setG k hg e2⟩
 ·cases hw
theorem cells_gz {cs' cs : List AV} (k : FzL h D cs' cs) : GZ h D ⟨[⟨cs', 0, none⟩]⟩ ⟨[⟨cs, 0, none⟩]⟩ := ⟨rfl, fun j V hV => by
  cases j with
  | zero => cases hV; exact ⟨_, rfl, k, rfl, trivial⟩
  | succ j => simp at hV⟩
theorem elems_ref (k : StZ D s z) {sz : Nat} {a' a : AV} (ha : FzL s.h D [a'] [a]) {cs : List AV} (he : z.elems sz a = some cs) : ∃ cs', s.elems sz a' = some cs' ∧ FzL s.h D cs' cs := by
 cases a with
 | slc g j off sz' len lo ex =>
  have := ha.hard rfl
  subst this
  unfold St.elems at he ⊢
  simp only at he ⊢
  split at he
  ·rename_i e; rw [if_pos e]; exact read_ref k he
  ·rename_i e
   rw [if_neg e]
   exact ⟨cs, he, .refl _⟩
 | ro nl xs =>
  unfold St.elems at he
  simp only at he
  split at he
  ·rename_i hc
   cases he
   rcases ha.inv_ro with ⟨xs', rfl, hx⟩ | ⟨rfl, g, j, off, sz', len, lo, ex, rfl, hf⟩
   ·unfold St.elems
    simp only
    rw [FzL.all (p := fun x => x.cells.length = sz && x.cells.all AV.leaf) (fun k => by rw [k.clen, k.cleaf]) hx, if_pos hc]
    exact ⟨_, rfl, hx.flat⟩
   ·obtain ⟨cs', h1, h2⟩ := hf.hr
    cases xs with
    | nil =>
     unfold St.elems
     simp only
     by_cases e : sz' = sz
     ·rw [if_pos e, ← e, hf.he]
      exact ⟨cs', h1, h2⟩
     ·rw [if_neg e, hf.he]
      exact ⟨[], rfl, .nil⟩
    | cons x xs =>
     have e : sz' = sz := by
      rw [List.all_cons, Bool.and_eq_true, Bool.and_eq_true, dtt] at hc
      rw [← (hf.hx x (mcs ..)).1]; exact hc.1.1
     unfold St.elems
     simp only
     rw [if_pos e, ← e, hf.he]
     exact ⟨cs', h1, h2⟩
  ·cases he
 | nils => have := ha.hard rfl; subst this; exact ⟨cs, he, by cases he; exact FzL.refl _⟩
 | _ => cases he
theorem app_ref (k : StZ D s z) {sz bytes n : Nat} {a' a v : AV} {ns' ns : List AV} (ha : FzL s.h D [a'] [a]) (hn : FzL s.h D ns' ns) (he : z.app sz bytes a n ns = some (v, z1)) : ∃ s1, s.app sz bytes a' n ns' = some (v, s1) ∧ StepZ D s z s1 z1 := by
 unfold St.app at he ⊢
 rw [hn.leaf, hn.len]
 split at he
 ·cases he
 ·rename_i hc
  rw [if_neg hc]
  cases a with
  | nils =>
   have := ha.hard rfl
   subst this
   simp only at he ⊢
   split at he
   ·rename_i h0; rw [if_pos h0]; cases he; exact ⟨s, rfl, .refl k⟩
   ·rename_i h0
    rw [if_neg h0]
    split at he
    ·rename_i h1
     rw [if_pos h1]
     cases he
     exact ⟨_, by rw [k.ctr], .newG k (cells_gz hn)⟩
    ·cases he
  | slc g j off sz' len lo ex =>
   have := ha.hard rfl
   subst this
   simp only at he ⊢
   split at he
   ·cases he
   ·rename_i h1
    rw [if_neg h1]
    split at he
    ·rename_i h2
     rw [if_pos h2]
     split at he
     ·rename_i h3; rw [if_pos h3]; cases he; exact ⟨s, rfl, .refl k⟩
     ·rename_i h3
      rw [if_neg h3]
      split at he
      ·cases he
      ·rename_i x hw
       cases he
       obtain ⟨s1, e1, e2⟩ := write_ref k hn hw
       rw [e1]
       exact ⟨s1, rfl, e2⟩
    ·rename_i h2
     rw [if_neg h2]
     split at he
     ·rename_i h3
      rw [if_pos h3]
      unfold St.get at he ⊢
      split at he
      ·cases he
      ·rename_i G hG
       obtain ⟨-, G', e1, e2⟩ := k.get g G hG
       rw [e1]
       simp only
       split at he
       ·cases he
       ·rename_i old ho
        obtain ⟨old', f1, f2⟩ := e2.read ho
        rw [f1]
        simp only
        split at he
        ·rename_i hex
         rw [if_pos hex]
         cases he
         exact ⟨_, by rw [k.ctr], .newG k (cells_gz (f2.app hn))⟩
        ·rename_i hex
         rw [if_neg hex]
         split at he
         ·cases he
         ·rename_i V hV
          obtain ⟨V', q1, q2⟩ := e2.get j V hV
          rw [q1]
          simp only
          cases he
          rw [e2.len, q2.delta]
          refine ⟨_, rfl, .setG k hG ⟨by simp [e2.len], fun i U hU => ?_⟩⟩
          simp only at hU ⊢
          by_cases hi : i < G.vers.length
          ·rw [gal (by simpa using hi), gmm] at hU
           rw [gal (by simpa [e2.len] using hi), gmm]
           cases hX : G.vers[i]? with
           | none => rw [hX] at hU; cases hU
           | some X =>
            rw [hX] at hU
            obtain ⟨X', p1, p2⟩ := e2.get i X hX
            rw [p1]
            cases hU
            refine ⟨_, rfl, ?_, p2.delta, p2.mp⟩
            unfold Ver.poke
            simp only
            rw [p2.delta]
            have := p2.cells.poke fun i => decide (V.delta + off + len * sz ≤ X.delta + i ∧ X.delta + i < V.delta + off + len * sz + n * sz)
            simpa using this
          ·rw [gar (by simpa using hi)] at hU
           rw [gar (by simpa [e2.len] using hi)]
           simp only [lmm, e2.len] at hU ⊢
           cases hd : i - G.vers.length with
           | zero =>
            rw [hd] at hU
            simp only [List.getElem?_cons_zero, sjj] at hU
            subst hU
            exact ⟨_, rfl, f2.app hn, rfl, trivial⟩
           | succ d => rw [hd] at hU; simp at hU
     ·cases he
  | _ => cases he
end
end Go.Ab
namespace Go.Ab
section
variable {T : Tab} {D : Nat → Prop} {h : Tr Grp} {t' t : TL} {v v' : AV}
theorem ev_ref (hT : TLZ h D t' t) {x : Operand} (e : ev t x = some v) : ∃ v', ev t' x = some v' ∧ FzL h D [v'] [v] := by
 cases x with
 | tmp i => cases e; exact ⟨_, rfl, hT.get i⟩
 | const c => exact ⟨v, e, .refl _⟩
 | global g => exact ⟨v, by show t'.gl g = some v; rw [hT.gl]; exact e, .refl _⟩
 | func f => exact ⟨v, e, .refl _⟩
theorem evs_ref (hT : TLZ h D t' t) : ∀ {l : List Operand} {vs : List AV}, evs t l = some vs → ∃ vs', evs t' l = some vs' ∧ FzL h D vs' vs
 | [], vs, e => by cases e; exact ⟨[], rfl, .nil⟩
 | x :: r, vs, e => by
  unfold evs at e ⊢
  split at e
  ·cases e
  ·rename_i v hv
   split at e
   ·cases e
   ·rename_i ws hw
    cases e
    obtain ⟨v', e1, e2⟩ := ev_ref hT hv
    obtain ⟨ws', f1, f2⟩ := evs_ref hT hw
    rw [e1, f1]
    exact ⟨_, rfl, .cons e2 f2⟩
theorem evParts_ref (hT : TLZ h D t' t) : ∀ {l : List (Nat × Operand)} {ps : List (Nat × AV)}, evParts t l = some ps → ∃ ps', evParts t' l = some ps' ∧ ps'.map (·.1) = ps.map (·.1) ∧ FzL h D (ps'.map (·.2)) (ps.map (·.2))
 | [], ps, e => by cases e; exact ⟨[], rfl, rfl, .nil⟩
 | (i, x) :: r, ps, e => by
  unfold evParts at e ⊢
  split at e
  ·cases e
  ·rename_i v hv
   split at e
   ·cases e
   ·rename_i ws hw
    cases e
    obtain ⟨v', e1, e2⟩ := ev_ref hT hv
    obtain ⟨ws', f1, f2, f3⟩ := evParts_ref hT hw
    rw [e1, f1]
    exact ⟨_, rfl, by simp only [List.map_cons, f2], by simp only [List.map_cons]; exact .cons e2 f3⟩
theorem natA_ref (k : FzL h D [v'] [v]) {n : Nat} (e : natA v = some n) : natA v' = some n := by
 cases v with
 | int k' m => rw [k.hard rfl]; exact e
 | _ => cases e
theorem optNat_ref (hT : TLZ h D t' t) {x : Option Operand} {n : Option Nat} (e : optNat t x = some n) : optNat t' x = some n := by
 cases x with
 | none => exact e
 | some x =>
  unfold optNat at e ⊢
  simp only at e ⊢
  split at e
  ·cases e
  ·rename_i v hv
   split at e
   ·cases e
   ·rename_i m hm
    obtain ⟨v', e1, e2⟩ := ev_ref hT hv
    rw [e1]
    simp only [natA_ref e2 hm]
    exact e
theorem fillA_ref {place : Nat → Option (Nat × Nat)} : ∀ {ps' ps : List (Nat × AV)} {c' c cs : List AV}, ps'.map (·.1) = ps.map (·.1) → FzL h D (ps'.map (·.2)) (ps.map (·.2)) → FzL h D c' c → fillA place c ps = some cs → ∃ cs', fillA place c' ps' = some cs' ∧ FzL h D cs' cs
 | [], [], c', c, cs, _, _, hc, e => by cases e; exact ⟨c', rfl, hc⟩
 | [], _ :: _, _, _, _, e, _, _, _ => by simp at e
 | _ :: _, [], _, _, _, e, _, _, _ => by simp at e
 | (i, v') :: ps', (j, v) :: ps, c', c, cs, e1, e2, hc, e => by
  simp only [List.map_cons, List.cons.injEq] at e1
  obtain ⟨rfl, e1⟩ := e1
  obtain ⟨k1, k2⟩ := FzL.uncons (v := v') (v' := v) e2
  unfold fillA at e ⊢
  split at e
  ·cases e
  ·rename_i off size hp
   rw [k1.clen, hc.len]
   split at e
   ·cases e
   ·rename_i hcnd
    rw [if_neg hcnd]
    exact fillA_ref e1 k2 (hc.over off k1.cells) e
theorem ofCells_ref {ag : Bool} {cs' cs : List AV} (k : FzL h D cs' cs) (e : ofCells ag cs = some v) : ∃ v', ofCells ag cs' = some v' ∧ FzL h D [v'] [v] := by
 unfold ofCells at e ⊢
 split at e
 ·rename_i ha; rw [if_pos ha]; cases e; exact ⟨_, rfl, .agg k .nil⟩
 ·rename_i ha
  rw [if_neg ha]
  split at e
  ·rename_i c
   cases e
   match cs', k.len, k with
   | [x], _, k => exact ⟨x, rfl, k⟩
  ·cases e
theorem flatEq_ref : ∀ {z a' a b' b : List AV} {q : Bool}, FzL h D a' a → FzL h D b' b → flatEq z a b = some q → flatEq z a' b' = some q
 | z, a', [], b', b, q, ha, hb, e => by
  cases ha
  cases z with
  | nil =>
   cases b with
   | nil => cases hb; exact e
   | cons => simp [flatEq] at e
  | cons => simp [flatEq] at e
 | z, a', x :: a, b', b, q, ha, hb, e => by
  match a', ha with
  | x' :: a', ha =>
   obtain ⟨ha1, ha2⟩ := ha.uncons
   match z, x, b, e, hb with
   | .int k1 n1 :: z, .int k2 n2, .int k3 n3 :: b, e, hb =>
    match b', hb with
    | y' :: b', hb =>
     obtain ⟨hb1, hb2⟩ := hb.uncons
     have e1 := ha1.hard rfl
     have e2 := hb1.hard rfl
     subst e1 e2
     simp only [flatEq] at e ⊢
     split at e
     ·rename_i hk
      rw [if_pos hk]
      cases hq : flatEq z a b with
      | none => rw [hq] at e; cases e
      | some q' => rw [hq] at e; rw [flatEq_ref ha2 hb2 hq]; exact e
     ·cases e
   | .bool n1 :: z, .bool n2, .bool n3 :: b, e, hb =>
    match b', hb with
    | y' :: b', hb =>
     obtain ⟨hb1, hb2⟩ := hb.uncons
     have e1 := ha1.hard rfl
     have e2 := hb1.hard rfl
     subst e1 e2
     simp only [flatEq] at e ⊢
     cases hq : flatEq z a b with
     | none => rw [hq] at e; cases e
     | some q' => rw [hq] at e; rw [flatEq_ref ha2 hb2 hq]; exact e
   | .str n1 :: z, .str n2, .str n3 :: b, e, hb =>
    match b', hb with
    | y' :: b', hb =>
     obtain ⟨hb1, hb2⟩ := hb.uncons
     have e1 := ha1.hard rfl
     have e2 := hb1.hard rfl
     subst e1 e2
     simp only [flatEq] at e ⊢
     cases hq : flatEq z a b with
     | none => rw [hq] at e; cases e
     | some q' => rw [hq] at e; rw [flatEq_ref ha2 hb2 hq]; exact e
theorem binA_nili (op : BinOp) (xt : TypeId) (x : AV) : binA T op xt x .nili = none := by
 unfold binA
 cases x <;> rfl
theorem binA_ref {op : BinOp} {xt : TypeId} {x' x y' y : AV} (hx : FzL h D [x'] [x]) (hy : FzL h D [y'] [y]) (e : binA T op xt x y = some v) : binA T op xt x' y' = some v := by
 have keyN : ∀ x' x : AV, FzL h D [x'] [x] → binA T op xt x .nils = some v → binA T op xt x' .nils = some v := by
  intro x' x hx e
  cases x with
  | nils => rw [hx.hard rfl]; exact e
  | slc => rw [hx.hard rfl]; exact e
  | ro nl xs =>
   rcases hx.inv_ro with ⟨xs', rfl, -⟩ | ⟨rfl, g, j, off, sz, len, lo, ex, rfl, -⟩
   ·exact e
   ·exact e
  | _ => (unfold binA at e; simp only at e; split at e <;> cases e)
 cases y with
 | int k b =>
  have := hy.hard rfl; subst this
  cases x with
  | int => have := hx.hard rfl; subst this; exact e
  | _ => cases e
 | str b =>
  have := hy.hard rfl; subst this
  cases x with
  | str => have := hx.hard rfl; subst this; exact e
  | _ => cases e
 | bool b =>
  have := hy.hard rfl; subst this
  cases x with
  | bool => have := hx.hard rfl; subst this; exact e
  | _ => cases e
 | agg b =>
  cases x with
  | agg a =>
   obtain ⟨a', rfl, ha⟩ := hx.inv_agg
   obtain ⟨b', rfl, hb⟩ := hy.inv_agg
   unfold binA at e ⊢
   simp only at e ⊢
   split at e
   ·split at e
    ·cases hq : flatEq _ a b with
     | none => rw [hq] at e; cases e
     | some q => rw [hq] at e; rw [flatEq_ref ha hb hq]; exact e
    ·cases hq : flatEq _ a b with
     | none => rw [hq] at e; cases e
     | some q => rw [hq] at e; rw [flatEq_ref ha hb hq]; exact e
    ·cases e
   ·cases e
  | _ => cases e
 | nils =>
  have := hy.hard rfl; subst this
  exact keyN _ _ hx e
 | _ => (cases x <;> cases e)
theorem nilB_ref {op : BinOp} {xt : TypeId} {x' x : AV} {y : Operand} (hx : FzL h D [x'] [x]) (e : nilB T op xt y x = some v) : nilB T op xt y x' = some v := by
 unfold nilB at e ⊢
 split at e
 ·unfold nilA at e ⊢
  split at e
  ·have := hx.hard rfl; subst this; exact e
  ·obtain ⟨w, rfl, -⟩ := hx.inv_iface; exact e
  ·cases e
 ·cases e
theorem unA_ref {op : UnOp} {x' x : AV} (hx : FzL h D [x'] [x]) (e : unA op x = some v) : unA op x' = some v := by
 cases x with
 | int => rw [hx.hard rfl]; exact e
 | bool => rw [hx.hard rfl]; exact e
 | _ => cases op <;> cases e
theorem slen_ref {x' x : AV} (hx : FzL h D [x'] [x]) {n : Nat} (e : x.slen = some n) : x'.slen = some n := by
 cases x with
 | nils => rw [hx.hard rfl]; exact e
 | slc => rw [hx.hard rfl]; exact e
 | ro nl xs =>
  rcases hx.inv_ro with ⟨xs', rfl, k⟩ | ⟨rfl, g, j, off, sz, len, lo, ex, rfl, k⟩
  ·show some xs'.length = some n; rw [k.len]; exact e
  ·show some len = some n; rw [k.he]; exact e
 | _ => cases e
theorem FzRow.part {g j off sz len lo : Nat} {xs : List AV} (k : FzRow h D g j off sz len lo xs) {i : Nat} {x : AV} (hi : xs[i]? = some x) : x.cells.length = sz ∧ ∃ cs, rdH h g j (off + i * sz) sz = some cs ∧ FzL h D cs x.cells := by
 obtain ⟨cs, h1, h2⟩ := k.hr
 have hx := k.hx x (mog hi)
 have hil := (ges.1 hi).1
 have hm : i * sz + sz ≤ xs.length * sz := by rw [← Nat.succ_mul]; exact Nat.mul_le_mul_right _ hil
 refine ⟨hx.1, _, rdH_part h1 (i * sz) sz hm, ?_⟩
 have : ((xs.flatMap AV.cells).drop (i * sz)).take sz = x.cells := by
  rw [List.flatMap_def]
  refine flat_part (fun c hc => ?_) (by rw [gmm, hi]; rfl)
  obtain ⟨y, hy, rfl⟩ := List.mem_map.1 hc
  exact (k.hx y hy).1
 rw [← this]
 exact (h2.drop _).take _
theorem idxA_ref {tt : TypeId} {x' x : AV} {i : Nat} (hx : FzL h D [x'] [x]) (e : idxA T tt x i = some v) : ∃ v', idxA T tt x' i = some v' ∧ FzL h D [v'] [v] := by
 cases x with
 | slc => rw [hx.hard rfl]; exact ⟨v, e, .refl _⟩
 | ptr => rw [hx.hard rfl]; exact ⟨v, e, .refl _⟩
 | ro nl xs =>
  unfold idxA at e
  split at e
  ·rename_i hq; cases hq
  ·rename_i q et sz by_ ze fl nl' xs1 hT hq
   cases hq
   split at e
   ·rename_i ie w hie hw
    split at e
    ·rename_i hc
     cases e
     rcases hx.inv_ro with ⟨xs', rfl, k⟩ | ⟨rfl, g, j, off, sz, len, lo, ex, rfl, k⟩
     ·obtain ⟨w', k1, k2⟩ := k.get hw
      refine ⟨.rop w'.cells, ?_, .rop k2.cells .nil⟩
      unfold idxA
      simp only [hT, hie, k1, k2.clen, hc, if_true]
     ·obtain ⟨k1, cs, k2, k3⟩ := k.part hw
      have hil := (ges.1 hw).1
      refine ⟨.ptr g j (off + i * sz), ?_, .ptr k.hg (by rw [k1]; exact k2) (k.hx w (mog hw)).2 k3 .nil⟩
      unfold idxA
      have : ie.size = sz ∧ i < len := ⟨by rw [← hc, k1], by rw [k.he]; exact hil⟩
      simp only [hT, hie, this, and_self, if_true]
    ·cases e
   ·cases e
  ·rename_i hq; cases hq
  ·rename_i hq; cases hq
  ·cases e
 | rop cs =>
  unfold idxA at e
  split at e
  ·rename_i hq; cases hq
  ·rename_i hq; cases hq
  ·rename_i hq; cases hq
  ·rename_i q n et sz by_ ze fl cs1 hT hq
   cases hq
   split at e
   ·cases e
   ·rename_i ie hie
    split at e
    ·rename_i hc
     cases e
     rcases hx.inv_rop with ⟨cs', rfl, k⟩ | ⟨g, j, off, cs', rfl, k1, k2, k3, k4⟩
     ·refine ⟨.rop (cs'.drop (i * ie.size)), ?_, .rop (k.drop _) .nil⟩
      unfold idxA
      simp only [hT, hie, k.len, hc, and_self, if_true]
     ·refine ⟨.ptr g j (off + i * ie.size), ?_, .ptr k1 (cs := (cs'.drop (i * ie.size)).take (cs.length - i * ie.size)) ?_ ?_ ?_ .nil⟩
      ·unfold idxA
       simp only [hT, hie, hc.1, if_true]
      ·rw [List.length_drop]; exact rdH_part k2 _ _ (by omega)
      ·rw [aet] at k3 ⊢
       exact fun x hx => k3 x (List.mem_of_mem_drop hx)
      ·rw [List.take_of_length_le (by rw [List.length_drop, k4.len]; omega)]
       exact k4.drop _
    ·cases e
  ·cases e
 | _ => (unfold idxA at e; split at e <;> first | cases e | (rename_i hq; cases hq))
theorem sliceA_ref {tt : TypeId} {x' x : AV} {lo hi mx : Option Nat} (hx : FzL h D [x'] [x]) (e : sliceA T tt x lo hi mx = some v) : ∃ v', sliceA T tt x' lo hi mx = some v' ∧ FzL h D [v'] [v] := by
 cases x with
 | slc => rw [hx.hard rfl]; exact ⟨v, e, .refl _⟩
 | ptr => rw [hx.hard rfl]; exact ⟨v, e, .refl _⟩
 | nils => rw [hx.hard rfl]; exact ⟨v, e, .refl _⟩
 | str => rw [hx.hard rfl]; exact ⟨v, e, .refl _⟩
 | ro nl xs =>
  unfold sliceA at e
  split at e
  ·rename_i hq; cases hq
  ·rename_i q et sz by_ ze fl nl' xs1 hT hq
   cases hq
   split at e
   ·cases e
   ·rename_i ie hie
    simp only at e
    split at e
    ·split at e
     ·rename_i hc
      obtain ⟨c1, c2, c3⟩ := hc
      cases e
      rcases hx.inv_ro with ⟨xs', rfl, k⟩ | ⟨rfl, g, j, off, sz, len, room, ex, rfl, k⟩
      ·refine ⟨.ro nl ((xs'.drop (lo.getD 0)).take (hi.getD xs'.length - lo.getD 0)), ?_, ?_⟩
       ·unfold sliceA
        have : (xs'.all fun x => x.cells.length == ie.size) = true := by
         rw [FzL.all (p := fun x => x.cells.length == ie.size) (fun k => by rw [k.clen]) k]; exact c3
        simp only [hT, hie]
        rw [if_pos ⟨by rw [k.len]; exact c1, by rw [k.len]; exact c2, this⟩]
       ·rw [k.len]
        exact .ro nl ((k.drop _).take _) .nil
      ·have hfz : ∀ (off' room' : Nat), off' = off + lo.getD 0 * sz → hi.getD len - lo.getD 0 ≤ room' → FzL h D [.slc g j off' sz (hi.getD len - lo.getD 0) room' ex] [.ro false ((xs.drop (lo.getD 0)).take (hi.getD xs.length - lo.getD 0))] := by
        intro off' room' ho hr
        subst ho
        obtain ⟨cs, h1, h2⟩ := k.hr
        have hle : hi.getD len = hi.getD xs.length := by rw [k.he]
        have hsub : ((xs.drop (lo.getD 0)).take (hi.getD xs.length - lo.getD 0)).length = hi.getD xs.length - lo.getD 0 := by simp; omega
        have hpart : ((xs.drop (lo.getD 0)).take (hi.getD xs.length - lo.getD 0)).flatMap AV.cells = ((xs.flatMap AV.cells).drop (lo.getD 0 * sz)).take ((hi.getD xs.length - lo.getD 0) * sz) := by
         have hd : ∀ (ys : List AV), (∀ x ∈ ys, x.cells.length = sz) → ∀ n, (ys.flatMap AV.cells).drop (n * sz) = (ys.drop n).flatMap AV.cells := by
          intro ys
          induction ys with
          | nil => intro _ n; simp
          | cons y ys ih =>
           intro hy n
           cases n with
           | zero => simp
           | succ n =>
            rw [List.flatMap_cons, Nat.succ_mul, Nat.add_comm, ← List.drop_drop, ← hy y (mcs ..), List.drop_left, hy y (mcs ..), ih (fun x hx => hy x (List.mem_cons_of_mem _ hx)), List.drop_succ_cons]
         have ht : ∀ (ys : List AV), (∀ x ∈ ys, x.cells.length = sz) → ∀ n, (ys.flatMap AV.cells).take (n * sz) = (ys.take n).flatMap AV.cells := by
          intro ys
          induction ys with
          | nil => intro _ n; simp
          | cons y ys ih =>
           intro hy n
           cases n with
           | zero => simp
           | succ n =>
            rw [List.flatMap_cons, Nat.succ_mul, Nat.add_comm, ← hy y (mcs ..), List.take_length_add_append, hy y (mcs ..), ih (fun x hx => hy x (List.mem_cons_of_mem _ hx)), List.take_succ_cons, List.flatMap_cons]
         rw [hd xs (fun x hx => (k.hx x hx).1), ht _ (fun x hx => (k.hx x (List.mem_of_mem_drop hx)).1)]
        refine .slc k.hg k.h0 (fun x hx => k.hx x (List.mem_of_mem_drop (List.mem_of_mem_take hx))) (cs := (cs.drop (lo.getD 0 * sz)).take ((hi.getD xs.length - lo.getD 0) * sz)) ?_ (by rw [hsub, hle]) (by rw [hle] at hr ⊢; exact hr) ?_ .nil
        ·rw [hsub]
         refine rdH_part h1 _ _ ?_
         rw [← Nat.add_mul]
         exact Nat.mul_le_mul_right _ (by omega)
        ·rw [hpart]
         exact (h2.drop _).take _
       have hroom := k.hl
       have hhe := k.he
       by_cases hxs : xs = []
       ·have hl0 : len = 0 := by rw [k.he, hxs]; rfl
        have hl1 : xs.length = 0 := by rw [hxs]; rfl
        rw [hl1] at c1 c2
        by_cases hz : ie.size = sz
        ·refine ⟨.slc g j (off + lo.getD 0 * sz) sz (hi.getD len - lo.getD 0) (room - lo.getD 0) ex, ?_, ?_⟩
         ·unfold sliceA
          simp only [hT, hie]
          rw [if_neg (by rw [hz]; exact fun h => h rfl), if_pos ⟨by rw [hl0]; exact c1, by rw [hl0]; omega⟩]
         ·exact hfz _ _ rfl (by rw [hl0]; omega)
        ·have hh0 : hi.getD 0 = 0 := by omega
         refine ⟨.slc g j off sz 0 room ex, ?_, ?_⟩
         ·unfold sliceA
          simp only [hT, hie]
          rw [if_pos hz, if_pos ⟨hl0, by omega, hh0, trivial⟩]
         ·have := hfz off room (by rw [show lo.getD 0 = 0 by omega]; omega) (by rw [hl0]; omega)
          rw [hl0, hh0] at this
          simpa using this
       ·have hz : ie.size = sz := by
         obtain ⟨x, hx⟩ := List.exists_mem_of_ne_nil xs hxs
         have h1 := (k.hx x hx).1
         have h2 := aet.1 c3 x hx
         rw [beq_iff_eq] at h2
         omega
        refine ⟨.slc g j (off + lo.getD 0 * sz) sz (hi.getD len - lo.getD 0) (room - lo.getD 0) ex, ?_, ?_⟩
        ·unfold sliceA
         simp only [hT, hie]
         rw [if_neg (by rw [hz]; exact fun h => h rfl), if_pos ⟨by rw [k.he]; exact c1, by rw [k.he]; omega⟩]
        ·exact hfz _ _ rfl (by rw [k.he]; omega)
     ·cases e
    ·cases e
  ·rename_i hq; cases hq
  ·rename_i hq; cases hq
  ·rename_i hq; cases hq
  ·cases e
 | _ => (unfold sliceA at e; split at e <;> first | cases e | (rename_i hq; cases hq))
end
end Go.Ab
namespace Go.Ab
def ResZ (h : Tr Grp) (D : Nat → Prop) : Res → Res → Prop
 | .val v', .val v => FzL h D [v'] [v]
 | .skip, .skip => True
 | .call f a', .call g a => f = g ∧ FzL h D a' a
 | _, _ => False
section
variable {T : Tab} {D : Nat → Prop} {s z s1 z1 : St} {h : Tr Grp} {t' t : TL} {v v' : AV}
theorem entries_ref (k : StZ D s z) {m' m : AV} (hm : FzL s.h D [m'] [m]) {es : List (AV × AV)} (e : z.entries m = some es) : ∃ es', s.entries m' = some es' ∧ es'.map (·.1) = es.map (·.1) ∧ FzL s.h D (es'.map (·.2)) (es.map (·.2)) := by
 cases m with
 | nilm => rw [hm.hard rfl]; cases e; exact ⟨[], rfl, rfl, .nil⟩
 | mp g =>
  rw [hm.hard rfl]
  unfold St.entries St.get at e ⊢
  simp only at e ⊢
  split at e
  ·rename_i V hV
   split at e
   ·rename_i xs hx
    cases e
    obtain ⟨-, G', e1, e2⟩ := k.get g _ hV
    obtain ⟨V', rfl, e3⟩ := e2.one
    have hm := e3.mp
    rw [hx] at hm
    rw [e1]
    simp only
    match hq : V'.mp, hm with
    | some (.mp es'), hm => exact ⟨es', rfl, hm.1, hm.2⟩
   ·cases e
  ·cases e
 | _ => cases e
theorem mpFind_ref {k : AV} : ∀ {es' es : List (AV × AV)} {i : Nat} {r : Option (Nat × AV)}, es'.map (·.1) = es.map (·.1) → FzL h D (es'.map (·.2)) (es.map (·.2)) → mpFind k es i = some r →
  (r = none ∧ mpFind k es' i = some none) ∨ ∃ j v v', r = some (j, v) ∧ mpFind k es' i = some (some (j, v')) ∧ FzL h D [v'] [v]
 | [], [], i, r, _, _, e => by cases e; exact .inl ⟨rfl, rfl⟩
 | [], _ :: _, _, _, e, _, _ => by simp at e
 | _ :: _, [], _, _, e, _, _ => by simp at e
 | (a', b') :: es', (a, b) :: es, i, r, e1, e2, e => by
  simp only [List.map_cons, List.cons.injEq] at e1
  obtain ⟨rfl, e1⟩ := e1
  obtain ⟨k1, k2⟩ := FzL.uncons (v := b') (v' := b) e2
  unfold mpFind at e ⊢
  split at e
  ·rename_i hq; cases e
   simp only at hq
   simp only [hq]
   exact .inr ⟨i, b, b', rfl, rfl, k1⟩
  ·rename_i hq
   simp only at hq
   simp only [hq]
   exact mpFind_ref e1 k2 e
  ·cases e
theorem keyOk_hard {kt : TypeId} {k' k : AV} (hk : FzL h D [k'] [k]) (e : keyOk T kt k = true) : k' = k := by
 cases k with
 | int => exact hk.hard rfl
 | str => exact hk.hard rfl
 | _ => cases e
theorem own_gz {o' o : Own} (k : OwnZ h D (some o') (some o)) : GZ h D ⟨[⟨[], 0, some o'⟩]⟩ ⟨[⟨[], 0, some o⟩]⟩ := ⟨rfl, fun j V hV => by
  cases j with
  | zero => cases hV; exact ⟨_, rfl, .nil, rfl, k⟩
  | succ j => simp at hV⟩
theorem entries_get {s : St} {g : Nat} {es : List (AV × AV)} (e : s.entries (.mp g) = some es) : ∃ G, Tr.get s.h g = some G := by
 unfold St.entries St.get at e
 simp only at e
 split at e
 ·exact ⟨_, ‹_›⟩
 ·cases e
theorem assertA_ref {i : TI} {a : TypeId} {ok : Bool} {x' x : AV} (hx : FzL h D [x'] [x]) (e : assertA i a ok x = some v) : ∃ v', assertA i a ok x' = some v' ∧ FzL h D [v'] [v] := by
 cases x with
 | nili => rw [hx.hard rfl]; exact ⟨v, e, .refl _⟩
 | iface tt w =>
  obtain ⟨w', rfl, hw⟩ := hx.inv_iface
  unfold assertA at e ⊢
  simp only at e ⊢
  split at e
  ·rename_i hq
   rw [if_pos hq]
   cases e
   cases ok with
   | true => exact ⟨_, rfl, .tup (.cons hw (.refl _)) .nil⟩
   | false => exact ⟨_, rfl, hw⟩
  ·rename_i hq
   rw [if_neg hq]
   exact ⟨v, e, .refl _⟩
 | _ => cases e
theorem callA_ref (k : StZ D s z) {b : Builtin} {tys : List TypeId} {as' as0 : List AV} (ha : FzL s.h D as' as0) (e : callA T b tys as0 z = some (v, z1)) : ∃ v' s1, callA T b tys as' s = some (v', s1) ∧ StepZ D s z s1 z1 ∧ v' = v := by
 unfold callA at e
 split at e
 ·rename_i t x
  match as', ha.len, ha with
  | [x'], hl0, ha' =>
  split at e
  ·cases e
  ·rename_i n hn
   cases e
   refine ⟨_, s, ?_, .refl k, rfl⟩
   unfold lenA at hn
   simp only [callA]
   unfold lenA
   split at hn
   ·cases hn
   ·rename_i i hT
    split at hn
    ·rename_i hs; rw [slen_ref ha' hn]
    ·rename_i hs
     split at hn
     ·rw [ha'.hard rfl]; cases hn; rfl
     ·cases hn
    ·rename_i hs; cases hn; rfl
    ·cases hn
 ·rename_i t x
  match as', ha.len, ha with
  | [x'], hl0, ha' =>
  split at e
  ·rename_i hT
   rw [ha'.hard rfl]; cases e
   exact ⟨_, s, by simp only [callA, hT], .refl k, rfl⟩
  ·rename_i hT
   rw [ha'.hard rfl]; cases e
   exact ⟨_, s, by simp only [callA, hT], .refl k, rfl⟩
  ·cases e
 ·rename_i t tt a x
  match as', ha.len, ha with
  | [a', x'], hl0, ha' =>
  obtain ⟨ha1, ha2⟩ := ha'.uncons
  simp only [callA]
  split at e
  ·rename_i hne
   rw [if_pos hne]
   unfold appZeros at e
   split at e
   ·rename_i et _ _ _ _ _ _ _ _ _ n hT hT'
    rw [ha1.hard rfl, ha2.hard rfl]
    unfold appZeros
    simp only [hT, hT']
    split at e
    ·cases e
    ·rename_i ie hie
     split at e
     ·rename_i hc
      rw [if_pos hc]
      cases e
      exact ⟨_, _, rfl, .newG k (cells_gz (.refl _)), by rw [k.ctr]⟩
     ·cases e
   ·cases e
  ·rename_i hne
   rw [if_neg hne]
   split at e
   ·rename_i et _ _ _ _ hT
    split at e
    ·cases e
    ·rename_i ie hie
     split at e
     ·rename_i n ns hn hns
      obtain ⟨ns', e1, e2⟩ := elems_ref k ha2 hns
      rw [slen_ref ha2 hn, e1]
      obtain ⟨s1, f1, f2⟩ := app_ref k ha1 e2 e
      exact ⟨v, s1, f1, f2, rfl⟩
     ·cases e
   ·cases e
 ·rename_i t tt d x
  match as', ha.len, ha with
  | [d', x'], hl0, ha' =>
  obtain ⟨ha1, ha2⟩ := ha'.uncons
  simp only [callA]
  split at e
  ·cases e
  ·rename_i hne
   rw [if_neg hne]
   split at e
   ·rename_i et _ _ _ _ hT
    split at e
    ·cases e
    ·rename_i ie hie
     split at e
     ·rename_i n ns g j off sz len lo ex hn hns
      obtain ⟨ns', e1, e2⟩ := elems_ref k ha2 hns
      rw [slen_ref ha2 hn, e1, ha1.hard rfl]
      simp only
      split at e
      ·rename_i hc
       rw [if_pos hc]
       split at e
       ·cases e
       ·rename_i x hw
        cases e
        obtain ⟨s1, f1, f2⟩ := write_ref k (e2.take _) hw
        rw [f1]
        exact ⟨_, s1, rfl, f2, rfl⟩
      ·cases e
     ·cases e
   ·cases e
 ·match as', ha.len, ha with
  | [a', b'], hl0, ha' =>
  obtain ⟨ha1, ha2⟩ := ha'.uncons
  rw [ha1.hard rfl, ha2.hard rfl]
  simp only [callA]
  split at e
  ·rename_i hk; rw [if_pos hk]; cases e; exact ⟨_, s, rfl, .refl k, rfl⟩
  ·cases e
 ·match as', ha.len, ha with
  | [a', b'], hl0, ha' =>
  obtain ⟨ha1, ha2⟩ := ha'.uncons
  rw [ha1.hard rfl, ha2.hard rfl]
  simp only [callA]
  split at e
  ·rename_i hk; rw [if_pos hk]; cases e; exact ⟨_, s, rfl, .refl k, rfl⟩
  ·cases e
 ·cases e
end
end Go.Ab
namespace Go.Ab
section
variable {T : Tab} {D : Nat → Prop} {s z z1 : St} {t' t : TL} {r : Res}
theorem arrOk_not {tt : TypeId} {x : AV} {s : St} (h : ∀ g j off, x ≠ .ptr g j off) : arrOk T tt x s = true := by
 unfold arrOk
 split
 ·exact (h _ _ _ rfl).elim
 ·rfl
theorem arrOk_ref (k : StZ D s z) {tt : TypeId} {x' x w : AV} {lo hi mx : Option Nat} (hx : FzL s.h D [x'] [x]) (hw : sliceA T tt x lo hi mx = some w) (ha : arrOk T tt x z = true) : arrOk T tt x' s = true := by
 cases x with
 | ptr g j off =>
  have := hx.hard rfl
  subst this
  unfold arrOk at ha ⊢
  split at ha
  ·rename_i hti hq
   cases hq
   split at ha
   ·cases ha
   ·obtain ⟨cs, hcs⟩ := Option.isSome_iff_exists.1 ha
    obtain ⟨cs', h1, -⟩ := read_ref k hcs
    rw [h1]; rfl
  ·rfl
 | rop cs =>
  unfold sliceA at hw
  split at hw <;> first | cases hw | (rename_i hq; cases hq)
 | ro nl xs =>
  rcases hx.inv_ro with ⟨xs', rfl, -⟩ | ⟨-, g, j, off, sz, len, lo, ex, rfl, -⟩
  ·exact arrOk_not fun _ _ _ h => by cases h
  ·exact arrOk_not fun _ _ _ h => by cases h
 | agg cs => obtain ⟨cs', rfl, -⟩ := hx.inv_agg; exact arrOk_not fun _ _ _ h => by cases h
 | tup cs => obtain ⟨cs', rfl, -⟩ := hx.inv_tup; exact arrOk_not fun _ _ _ h => by cases h
 | fn f cs => obtain ⟨cs', rfl, -⟩ := hx.inv_fn; exact arrOk_not fun _ _ _ h => by cases h
 | mv f cs => obtain ⟨cs', rfl, -⟩ := hx.inv_mv; exact arrOk_not fun _ _ _ h => by cases h
 | iface t v => obtain ⟨v', rfl, -⟩ := hx.inv_iface; exact arrOk_not fun _ _ _ h => by cases h
 | _ => (rw [hx.hard rfl]; exact arrOk_not fun _ _ _ h => by cases h)
theorem evOp_ref (k : StZ D s z) (hT : TLZ s.h D t' t) {o : Op} (e : evOp T o t z = some (r, z1)) : ∃ r' s1, evOp T o t' s = some (r', s1) ∧ StepZ D s z s1 z1 ∧ ResZ s.h D r' r := by
 have pure1 : ∀ {x : Operand}, (match ev t x with | none => none | some v => some (Res.val v, z)) = some (r, z1) → ∃ r' s1, (match ev t' x with | none => none | some v => some (Res.val v, s)) = some (r', s1) ∧ StepZ D s z s1 z1 ∧ ResZ s.h D r' r := by
  intro x e
  split at e
  ·cases e
  ·rename_i v hv
   cases e
   obtain ⟨v', e1, e2⟩ := ev_ref hT hv
   rw [e1]
   exact ⟨.val v', s, rfl, .refl k, e2⟩
 unfold evOp at e
 split at e
 ·simp only [evOp]; exact pure1 e
 ·simp only [evOp]; exact pure1 e
 ·-- pick
  rename_i c a b
  split at e
  ·rename_i q hq
   split at e
   ·rename_i va vb ha hb
    cases e
    obtain ⟨q', e1, e2⟩ := ev_ref hT hq
    obtain ⟨va', f1, f2⟩ := ev_ref hT ha
    obtain ⟨vb', g1, g2⟩ := ev_ref hT hb
    have := e2.hard rfl
    subst this
    refine ⟨.val _, s, by simp only [evOp, e1, f1, g1]; rfl, .refl k, ?_⟩
    cases q
    ·exact g2
    ·exact f2
   ·cases e
  ·cases e
 ·-- alloc
  split at e
  ·cases e
  ·rename_i i hi
   split at e
   ·rename_i hc
    cases e
    exact ⟨.val _, _, by simp only [evOp, hi]; rw [if_pos hc], .newG k (cells_gz (.refl _)), by rw [k.ctr]; exact .refl _⟩
   ·cases e
 ·-- box
  split at e
  ·cases e
  ·rename_i v hv
   obtain ⟨v', e1, e2⟩ := ev_ref hT hv
   split at e
   ·rename_i hc
    cases e
    exact ⟨.val _, _, by simp only [evOp, e1]; rw [if_pos (by rw [e2.cleaf]; exact hc)], .newG k (cells_gz e2.cells), by rw [k.ctr]; exact .refl _⟩
   ·cases e
 ·-- build
  split at e
  ·cases e
  ·rename_i i hi
   split at e
   ·cases e
   ·rename_i ps hps
    obtain ⟨ps', e1, e2, e3⟩ := evParts_ref hT hps
    split at e
    ·cases e
    ·rename_i cs hcs
     cases e
     split at hcs
     ·rename_i hs
      obtain ⟨cs', f1, f2⟩ := fillA_ref e2 e3 (.refl _) hcs
      exact ⟨.val (.agg cs'), s, by simp only [evOp, hi, e1, hs, f1], .refl k, .agg f2 .nil⟩
     ·rename_i hs
      split at hcs
      ·cases hcs
      ·rename_i ie hie
       obtain ⟨cs', f1, f2⟩ := fillA_ref e2 e3 (.refl _) hcs
       exact ⟨.val (.agg cs'), s, by simp only [evOp, hi, e1, hs, hie, f1], .refl k, .agg f2 .nil⟩
     ·cases hcs
 ·-- buildSlice
  split at e
  ·rename_i et _ _ _ _ hti
   split at e
   ·cases e
   ·rename_i ie hie
    split at e
    ·cases e
    ·rename_i ps hps
     obtain ⟨ps', e1, e2, e3⟩ := evParts_ref hT hps
     split at e
     ·cases e
     ·rename_i hc
      split at e
      ·cases e
      ·rename_i cs hcs
       obtain ⟨cs', f1, f2⟩ := fillA_ref e2 e3 (.refl _) hcs
       split at e
       ·rename_i hl
        cases e
        exact ⟨.val _, _, by simp only [evOp, hti, hie, e1, f1]; rw [if_neg hc, if_pos (by rw [f2.leaf]; exact hl)], .newG k (cells_gz f2), by rw [k.ctr]; exact .refl _⟩
       ·cases e
  ·cases e
 ·-- load
  split at e
  ·cases e
  ·rename_i i hi
   split at e
   ·rename_i g j off hq
    obtain ⟨q', e1, e2⟩ := ev_ref hT hq
    have := e2.hard rfl
    subst this
    split at e
    ·cases e
    ·rename_i cs hcs
     obtain ⟨cs', f1, f2⟩ := readL_ref k hcs
     split at e
     ·cases e
     ·rename_i v hv
      cases e
      obtain ⟨v', g1, g2⟩ := ofCells_ref f2 hv
      exact ⟨.val _, s, by simp only [evOp, hi, e1, f1, g1], .refl k, g2⟩
   ·rename_i cs hq
    obtain ⟨q', e1, e2⟩ := ev_ref hT hq
    split at e
    ·rename_i hc
     split at e
     ·cases e
     ·rename_i v hv
      cases e
      rcases e2.inv_rop with ⟨cs', rfl, hf⟩ | ⟨g, j, off, cs', rfl, k1, k2, k3, k4⟩
      ·obtain ⟨v', g1, g2⟩ := ofCells_ref (hf.take i.cnt) hv
       refine ⟨.val _, s, ?_, .refl k, g2⟩
       simp only [evOp, hi, e1]
       rw [if_pos ⟨by rw [hf.len]; exact hc.1, by rw [hf.leaf]; exact hc.2⟩]
       simp only [g1]
      ·obtain ⟨v', g1, g2⟩ := ofCells_ref (k4.take i.cnt) hv
       refine ⟨.val _, s, ?_, .refl k, g2⟩
       have := rdH_part k2 0 i.cnt (by have := hc.1; omega)
       rw [Nat.add_zero, List.drop_zero] at this
       have h9 := readL_of ((read_rd ..).trans this)
       simp only [evOp, hi, e1, h9, g1]
    ·cases e
   ·cases e
 ·-- store
  split at e
  ·cases e
  ·rename_i i hi
   split at e
   ·rename_i g j off v hq hv
    obtain ⟨q', e1, e2⟩ := ev_ref hT hq
    obtain ⟨v', f1, f2⟩ := ev_ref hT hv
    have := e2.hard rfl
    subst this
    split at e
    ·cases e
    ·rename_i hc
     split at e
     ·cases e
     ·rename_i z2 hw
      cases e
      obtain ⟨s1, g1, g2⟩ := write_ref k f2.cells hw
      exact ⟨.skip, s1, by simp only [evOp, hi, e1, f1]; rw [if_neg (by rw [f2.clen]; exact hc)]; simp only [g1], g2, trivial⟩
   ·cases e
 ·-- nilCheck
  split at e
  ·rename_i g j off hq
   obtain ⟨q', e1, e2⟩ := ev_ref hT hq
   have := e2.hard rfl
   subst this
   cases e
   exact ⟨.val _, s, by simp only [evOp, e1], .refl k, .refl _⟩
  ·rename_i cs hq
   obtain ⟨q', e1, e2⟩ := ev_ref hT hq
   cases e
   rcases e2.inv_rop with ⟨cs', rfl, hf⟩ | ⟨g, j, off, cs', rfl, k1, k2, k3, k4⟩
   ·exact ⟨.val _, s, by simp only [evOp, e1], .refl k, .rop hf .nil⟩
   ·exact ⟨.val _, s, by simp only [evOp, e1], .refl k, .ptr k1 k2 k3 k4 .nil⟩
  ·cases e
 ·-- index
  split at e
  ·rename_i _ _ _ _ b vi hti hx hi
   obtain ⟨x', e1, e2⟩ := ev_ref hT hx
   obtain ⟨i', f1, f2⟩ := ev_ref hT hi
   have := e2.hard rfl
   subst this
   split at e
   ·cases e
   ·rename_i n hn
    split at e
    ·rename_i c hc
     cases e
     exact ⟨.val _, s, by simp only [evOp, hti, e1, f1, natA_ref f2 hn, hc], .refl k, .refl _⟩
    ·cases e
  ·rename_i m et _ _ _ _ cs vi hti hx hi
   obtain ⟨x', e1, e2⟩ := ev_ref hT hx
   obtain ⟨i', f1, f2⟩ := ev_ref hT hi
   obtain ⟨cs', rfl, hf⟩ := e2.inv_agg
   split at e
   ·rename_i n ie hn hie
    split at e
    ·rename_i hc
     split at e
     ·rename_i v hv
      cases e
      obtain ⟨v', g1, g2⟩ := ofCells_ref ((hf.drop _).take _) hv
      refine ⟨.val _, s, ?_, .refl k, g2⟩
      simp only [evOp, hti, e1, f1, natA_ref f2 hn, hie, hf.len]
      rw [if_pos hc]
      simp only [g1]
     ·cases e
    ·cases e
   ·cases e
  ·cases e
 ·-- makeInterface
  split at e
  ·rename_i i v hi hv
   obtain ⟨v', e1, e2⟩ := ev_ref hT hv
   split at e
   ·cases e
   ·rename_i hc
    cases e
    exact ⟨.val _, s, by simp only [evOp, hi, e1]; rw [if_neg hc], .refl k, .iface _ e2 .nil⟩
  ·cases e
 ·-- typeAssert
  split at e
  ·rename_i i v hi hv
   obtain ⟨v', e1, e2⟩ := ev_ref hT hv
   split at e
   ·cases e
   ·rename_i hc
    split at e
    ·rename_i w hw
     cases e
     obtain ⟨w', f1, f2⟩ := assertA_ref e2 hw
     exact ⟨.val _, s, by simp only [evOp, hi, e1]; rw [if_neg hc]; simp only [f1], .refl k, f2⟩
    ·cases e
  ·cases e
 ·-- binOp
  split at e
  ·rename_i vx vy hx hy
   obtain ⟨x', e1, e2⟩ := ev_ref hT hx
   obtain ⟨y', f1, f2⟩ := ev_ref hT hy
   split at e
   ·rename_i hb
    split at e
    ·cases e
    ·rename_i v hv
     cases e
     have hy' : vy = .nili := by
      unfold nilB at hv
      split at hv
      ·cases hy; rfl
      ·cases hv
     subst hy'
     have := f2.hard rfl
     subst this
     exact ⟨.val _, s, by simp only [evOp, e1, f1, binA_nili, nilB_ref e2 hv], .refl k, .refl _⟩
   ·rename_i v hv
    cases e
    exact ⟨.val _, s, by simp only [evOp, e1, f1, binA_ref e2 f2 hv], .refl k, .refl _⟩
  ·cases e
 ·-- unOp
  split at e
  ·cases e
  ·rename_i vx hx
   obtain ⟨x', e1, e2⟩ := ev_ref hT hx
   split at e
   ·cases e
   ·rename_i v hv
    cases e
    exact ⟨.val _, s, by simp only [evOp, e1, unA_ref e2 hv], .refl k, .refl _⟩
 ·-- convert
  split at e
  ·rename_i h1 h2 hx
   obtain ⟨x', e1, e2⟩ := ev_ref hT hx
   have := e2.hard rfl
   subst this
   cases e
   exact ⟨.val _, s, by simp only [evOp, h1, h2, e1], .refl k, .refl _⟩
  ·cases e
 ·-- makeFunc
  split at e
  ·rename_i hf
   split at e
   ·rename_i hc
    split at e
    ·cases e
    ·rename_i vs hvs
     obtain ⟨vs', e1, e2⟩ := evs_ref hT hvs
     cases e
     exact ⟨.val _, s, by simp only [evOp]; rw [if_pos hf, if_pos hc]; simp only [e1], .refl k, .mv _ e2 .nil⟩
   ·cases e
  ·rename_i hf
   split at e
   ·rename_i hc
    split at e
    ·cases e
    ·rename_i vs hvs
     obtain ⟨vs', e1, e2⟩ := evs_ref hT hvs
     cases e
     exact ⟨.val _, s, by simp only [evOp]; rw [if_neg hf, if_pos hc]; simp only [e1], .refl k, .fn _ e2 .nil⟩
   ·cases e
 ·-- makeSlice
  split at e
  ·rename_i et _ _ _ _ hti
   split at e
   ·cases e
   ·rename_i ie hie
    split at e
    ·rename_i n m hn hm
     obtain ⟨x', e1, e2⟩ := ev_ref hT hn
     obtain ⟨y', f1, f2⟩ := ev_ref hT hm
     have := e2.hard rfl
     subst this
     have := f2.hard rfl
     subst this
     split at e
     ·rename_i hc
      cases e
      exact ⟨.val _, _, by simp only [evOp, hti, hie, e1, f1]; rw [if_pos hc], .newG k (cells_gz (.refl _)), by rw [k.ctr]; exact .refl _⟩
     ·cases e
    ·cases e
  ·cases e
 ·-- slice
  rename_i tt x0 lo0 hi0 mx0
  split at e
  ·rename_i v l hh m hv hl hhi hm
   obtain ⟨v', e1, e2⟩ := ev_ref hT hv
   split at e
   ·rename_i ha
    split at e
    ·cases e
    ·rename_i w hw
     cases e
     obtain ⟨w', f1, f2⟩ := sliceA_ref e2 hw
     refine ⟨.val _, s, ?_, .refl k, f2⟩
     have ha' : arrOk T tt v' s = true := arrOk_ref k e2 hw ha
     simp only [evOp, e1, optNat_ref hT hl, optNat_ref hT hhi, optNat_ref hT hm]
     rw [if_pos ha']
     simp only [f1]
   ·cases e
  ·cases e
 ·-- fieldAddr
  split at e
  ·rename_i fs _ _ _ _ hti
   split at e
   ·rename_i off sz _ g j o hf hx
    obtain ⟨x', e1, e2⟩ := ev_ref hT hx
    have := e2.hard rfl
    subst this
    split at e
    ·cases e
    ·rename_i hz
     cases e
     exact ⟨.val _, s, by simp only [evOp, hti, hf, e1]; rw [if_neg hz], .refl k, .refl _⟩
   ·rename_i off sz _ cs hf hx
    obtain ⟨x', e1, e2⟩ := ev_ref hT hx
    split at e
    ·cases e
    ·rename_i hz
     split at e
     ·rename_i hc
      cases e
      rcases e2.inv_rop with ⟨cs', rfl, hf'⟩ | ⟨g, j, o, cs', rfl, k1, k2, k3, k4⟩
      ·exact ⟨.val _, s, by simp only [evOp, hti, hf, e1]; rw [if_neg hz, if_pos (by rw [hf'.len]; exact hc)], .refl k, .rop (hf'.drop _) .nil⟩
      ·refine ⟨.val _, s, by simp only [evOp, hti, hf, e1]; rw [if_neg hz], .refl k, .ptr k1 (cs := (cs'.drop off).take (cs.length - off)) ?_ ?_ ?_ .nil⟩
       ·rw [List.length_drop]; exact rdH_part k2 _ _ (by omega)
       ·rw [aet] at k3 ⊢
        exact fun x hx => k3 x (List.mem_of_mem_drop hx)
       ·rw [List.take_of_length_le (by rw [List.length_drop, k4.len]; omega)]
        exact k4.drop _
     ·cases e
   ·cases e
  ·cases e
 ·-- field
  split at e
  ·rename_i fs _ _ _ _ hti
   split at e
   ·rename_i off sz ag cs hf hx
    obtain ⟨x', e1, e2⟩ := ev_ref hT hx
    obtain ⟨cs', rfl, hcs⟩ := e2.inv_agg
    split at e
    ·rename_i hc
     split at e
     ·cases e
     ·rename_i v hv
      cases e
      obtain ⟨v', g1, g2⟩ := ofCells_ref ((hcs.drop _).take _) hv
      exact ⟨.val _, s, by simp only [evOp, hti, hf, e1, hcs.len]; rw [if_pos hc]; simp only [g1], .refl k, g2⟩
    ·cases e
   ·cases e
  ·cases e
 ·-- indexAddr
  split at e
  ·rename_i vx vi hx hi
   obtain ⟨x', e1, e2⟩ := ev_ref hT hx
   obtain ⟨i', f1, f2⟩ := ev_ref hT hi
   split at e
   ·cases e
   ·rename_i n hn
    split at e
    ·cases e
    ·rename_i v hv
     cases e
     obtain ⟨v', g1, g2⟩ := idxA_ref e2 hv
     exact ⟨.val _, s, by simp only [evOp, e1, f1, natA_ref f2 hn, g1], .refl k, g2⟩
  ·cases e
 ·-- makeMap
  split at e
  ·rename_i hti
   cases e
   exact ⟨.val (.mp s.ctr), s.newG _, by simp only [evOp, hti], .newG k (own_gz (o' := .mp []) (o := .mp []) ⟨rfl, .nil⟩), by rw [k.ctr]; exact .refl _⟩
  ·cases e
 ·-- insert
  split at e
  ·rename_i kt et _ _ _ _ hti
   split at e
   ·rename_i g vk vx hm hk hx
    obtain ⟨m', e1, e2⟩ := ev_ref hT hm
    obtain ⟨k', f1, f2⟩ := ev_ref hT hk
    obtain ⟨x', g1, g2⟩ := ev_ref hT hx
    have := e2.hard rfl
    subst this
    split at e
    ·rename_i es hes hko
     have := keyOk_hard f2 hko
     subst this
     obtain ⟨es', h1, h2, h3⟩ := entries_ref k e2 hes
     obtain ⟨G, hG⟩ := entries_get hes
     split at e
     ·rename_i hf
      cases e
      rcases mpFind_ref h2 h3 hf with ⟨-, q2⟩ | ⟨j, v, v', q1, -⟩
      ·exact ⟨.skip, _, by simp only [evOp, hti, e1, f1, g1, h1, hko, q2], .setG k hG (own_gz (o' := .mp (es' ++ [(k', x')])) ⟨by simp only [List.map_append, h2, List.map_cons, List.map_nil], by simp only [List.map_append, List.map_cons, List.map_nil]; exact h3.app g2⟩), trivial⟩
      ·cases q1
     ·rename_i i _ hf
      cases e
      rcases mpFind_ref h2 h3 hf with ⟨q1, -⟩ | ⟨j, v, v', q1, q2, q3⟩
      ·cases q1
      ·cases q1
       refine ⟨.skip, _, by simp only [evOp, hti, e1, f1, g1, h1, hko, q2], .setG k hG (own_gz (o' := .mp (es'.set i (k', x'))) ⟨by simp only [List.map_set, h2], ?_⟩), trivial⟩
       simp only [List.map_set]
       refine .of (by simp [h3.len]) fun a v v' p1 p2 => ?_
       rw [List.getElem?_set] at p1 p2
       split at p1
       ·rename_i hia
        rw [if_pos hia] at p2
        split at p1
        ·split at p2
         ·cases p1; cases p2; exact g2
         ·cases p2
        ·cases p1
       ·rename_i hia
        rw [if_neg hia] at p2
        exact h3.at p1 p2
     ·cases e
    ·cases e
   ·cases e
  ·cases e
 ·-- mapUpdate
  split at e
  ·rename_i kt et _ _ _ _ hti
   split at e
   ·rename_i g vk vx hm hk hx
    obtain ⟨m', e1, e2⟩ := ev_ref hT hm
    obtain ⟨k', f1, f2⟩ := ev_ref hT hk
    obtain ⟨x', g1, g2⟩ := ev_ref hT hx
    have := e2.hard rfl
    subst this
    split at e
    ·rename_i es hes hko
     have := keyOk_hard f2 hko
     subst this
     obtain ⟨es', h1, h2, h3⟩ := entries_ref k e2 hes
     obtain ⟨G, hG⟩ := entries_get hes
     split at e
     ·rename_i hf
      cases e
      rcases mpFind_ref h2 h3 hf with ⟨-, q2⟩ | ⟨j, v, v', q1, -⟩
      ·exact ⟨.skip, _, by simp only [evOp, hti, e1, f1, g1, h1, hko, q2], .setG k hG (own_gz (o' := .mp (es' ++ [(k', x')])) ⟨by simp only [List.map_append, h2, List.map_cons, List.map_nil], by simp only [List.map_append, List.map_cons, List.map_nil]; exact h3.app g2⟩), trivial⟩
      ·cases q1
     ·rename_i i _ hf
      cases e
      rcases mpFind_ref h2 h3 hf with ⟨q1, -⟩ | ⟨j, v, v', q1, q2, q3⟩
      ·cases q1
      ·cases q1
       refine ⟨.skip, _, by simp only [evOp, hti, e1, f1, g1, h1, hko, q2], .setG k hG (own_gz (o' := .mp (es'.set i (k', x'))) ⟨by simp only [List.map_set, h2], ?_⟩), trivial⟩
       simp only [List.map_set]
       refine .of (by simp [h3.len]) fun a v v' p1 p2 => ?_
       rw [List.getElem?_set] at p1 p2
       split at p1
       ·rename_i hia
        rw [if_pos hia] at p2
        split at p1
        ·split at p2
         ·cases p1; cases p2; exact g2
         ·cases p2
        ·cases p1
       ·rename_i hia
        rw [if_neg hia] at p2
        exact h3.at p1 p2
     ·cases e
    ·cases e
   ·cases e
  ·cases e
 ·-- lookup
  rename_i tt m0 k0 ok
  split at e
  ·rename_i kt et _ _ _ _ hti
   split at e
   ·cases e
   ·rename_i ie hie
    split at e
    ·rename_i vm vk hm hk
     obtain ⟨m', e1, e2⟩ := ev_ref hT hm
     obtain ⟨k', f1, f2⟩ := ev_ref hT hk
     split at e
     ·rename_i es hes hko
      have := keyOk_hard f2 hko
      subst this
      obtain ⟨es', h1, h2, h3⟩ := entries_ref k e2 hes
      split at e
      ·rename_i i v hf
       cases e
       rcases mpFind_ref h2 h3 hf with ⟨q1, -⟩ | ⟨j, w, w', q1, q2, q3⟩
       ·cases q1
       ·cases q1
        refine ⟨.val (if ok then .tup [w', .bool true] else w'), s, by simp only [evOp, hti, hie, e1, f1, h1, hko, q2], .refl k, ?_⟩
        cases ok
        ·exact q3
        ·exact .tup (.cons q3 (.refl _)) .nil
      ·rename_i hf
       split at e
       ·rename_i zc hz
        cases e
        rcases mpFind_ref h2 h3 hf with ⟨-, q2⟩ | ⟨j, w, w', q1, q2, q3⟩
        ·exact ⟨.val _, s, by simp only [evOp, hti, hie, e1, f1, h1, hko, q2, hz], .refl k, .refl _⟩
        ·cases q1
       ·cases e
      ·cases e
     ·cases e
    ·cases e
  ·cases e
 ·-- extract
  split at e
  ·rename_i vs hx
   obtain ⟨x', e1, e2⟩ := ev_ref hT hx
   obtain ⟨vs', rfl, hv⟩ := e2.inv_tup
   split at e
   ·cases e
   ·rename_i v hq
    cases e
    obtain ⟨v', f1, f2⟩ := hv.get hq
    exact ⟨.val _, s, by simp only [evOp, e1, f1], .refl k, f2⟩
  ·cases e
 ·-- call
  rename_i c
  split at e
  ·rename_i f hcal
   split at e
   ·rename_i g caps args hf ha
    obtain ⟨f', e1, e2⟩ := ev_ref hT hf
    obtain ⟨args', f1, f2⟩ := evs_ref hT ha
    obtain ⟨caps', rfl, hc⟩ := e2.inv_fn
    cases e
    exact ⟨.call _ _, s, by simp only [evOp, hcal, e1, f1], .refl k, rfl, f2.app hc⟩
   ·rename_i g caps args hf ha
    obtain ⟨f', e1, e2⟩ := ev_ref hT hf
    obtain ⟨args', f1, f2⟩ := evs_ref hT ha
    obtain ⟨caps', rfl, hc⟩ := e2.inv_mv
    cases e
    exact ⟨.call _ _, s, by simp only [evOp, hcal, e1, f1], .refl k, rfl, hc.app f2⟩
   ·cases e
  ·rename_i b hcal
   split at e
   ·cases e
   ·rename_i args ha
    obtain ⟨args', f1, f2⟩ := evs_ref hT ha
    split at e
    ·cases e
    ·rename_i v z2 hv
     cases e
     obtain ⟨v', s1, g1, g2, rfl⟩ := callA_ref k f2 hv
     exact ⟨.val _, s1, by simp only [evOp, hcal, f1, g1], g2, .refl _⟩
  ·cases e
 ·cases e
end
end Go.Ab
namespace Go.Ab
section
variable {D E D' : Nat → Prop} {s z y : St} {h : Tr Grp} {l l' r : List AV}
theorem cells_comp {s0 : Tr Grp} {w w' : AV} {p : List AV} (K : ∀ x, FzL s0 D [x] [w] → FzL s0 D' [x] [w']) (hw : FzL h E [w] [w']) (hp : FzL s0 D p w.cells) : FzL s0 D' p w'.cells := by
 have one : w.cells = [w] → (∀ c, w ≠ .agg c) → FzL s0 D' p w'.cells := by
  intro e hn
  rw [e] at hp
  match p, hp.len, hp with
  | [x], _, hp =>
   have hx : x.cells = [x] := by
    cases x with
    | agg c =>
     exfalso
     cases hp with
     | same => exact hn _ rfl
     | agg _ _ => exact hn _ rfl
    | _ => rfl
   have := (K x hp).cells
   rwa [hx] at this
 cases w with
 | agg c =>
  have h1 := K (.agg p) (.agg hp .nil)
  cases hw with
  | same => obtain ⟨q, e, hq⟩ := h1.inv_agg; cases e; exact hq
  | agg _ _ => obtain ⟨q, e, hq⟩ := h1.inv_agg; cases e; exact hq
 | _ => exact one rfl (fun _ h => by cases h)
theorem flat_comp {s0 : Tr Grp} : ∀ {xs xs' cs : List AV}, xs.length = xs'.length → (∀ (i : Nat) (w w' : AV), xs[i]? = some w → xs'[i]? = some w' → (∀ x, FzL s0 D [x] [w] → FzL s0 D' [x] [w']) ∧ FzL h E [w] [w']) → FzL s0 D cs (xs.flatMap AV.cells) → FzL s0 D' cs (xs'.flatMap AV.cells)
 | [], [], cs, _, _, hc => by cases hc; exact .nil
 | [], _ :: _, _, e, _, _ => by simp at e
 | _ :: _, [], _, e, _, _ => by simp at e
 | w :: xs, w' :: xs', cs, e, hk, hc => by
  rw [List.flatMap_cons] at hc ⊢
  obtain ⟨k1, k2⟩ := hk 0 w w' rfl rfl
  have h1 := hc.take w.cells.length
  have h2 := hc.drop w.cells.length
  rw [List.take_left] at h1
  rw [List.drop_left] at h2
  have := (cells_comp k1 k2 h1).app (flat_comp (by simpa using e) (fun i a b ha hb => hk (i + 1) a b (by simpa using ha) (by simpa using hb)) h2)
  rwa [List.take_append_drop] at this
theorem FzL.comp (k : StZ D s z) (hD : ∀ g, D g → D' g) (hE : ∀ g, E g → D' g) (b : FzL z.h E l r) : ∀ {l' : List AV}, FzL s.h D l' l → FzL s.h D' l' r := by
 have up : ∀ {a b : List AV}, FzL s.h D a b → FzL s.h D' a b := fun h => h.mono (fun _ _ => rfl) hD
 induction b with
 | nil => intro l' a; cases a; exact .nil
 | same v _ ih =>
  intro l' a
  match l', a with
  | x :: l', a =>
   obtain ⟨a1, a2⟩ := a.uncons
   exact .cons (up a1) (ih a2)
 | agg _ _ i1 i2 =>
  intro l' a
  match l', a with
  | x :: l', a =>
   obtain ⟨a1, a2⟩ := a.uncons
   obtain ⟨c, rfl, hc⟩ := a1.inv_agg
   exact .agg (i1 hc) (i2 a2)
 | tup _ _ i1 i2 =>
  intro l' a
  match l', a with
  | x :: l', a =>
   obtain ⟨a1, a2⟩ := a.uncons
   obtain ⟨c, rfl, hc⟩ := a1.inv_tup
   exact .tup (i1 hc) (i2 a2)
 | @ro nl cs0 cs0' r0 r0' b1 _ i1 i2 =>
  intro l' a
  match l', a with
  | x :: l', a =>
   obtain ⟨a1, a2⟩ := a.uncons
   rcases a1.inv_ro with ⟨c, rfl, hc⟩ | ⟨rfl, g, j, off, sz, len, lo, ex, rfl, hf⟩
   ·exact .ro nl (i1 hc) (i2 a2)
   ·obtain ⟨cs, h1, h2⟩ := hf.hr
    refine .cons ?_ (i2 a2)
    have hlen := b1.len
    refine .slc (hD _ hf.hg) hf.h0 (fun x hx => ?_) (cs := cs) (by rw [← hlen]; exact h1) (hf.he.trans hlen) hf.hl ?_ .nil
    ·obtain ⟨i, hi⟩ := List.getElem?_of_mem hx
     obtain ⟨w, hw, hwx⟩ := b1.get hi
     have := hf.hx w (mog hw)
     exact ⟨by rw [← hwx.clen]; exact this.1, by rw [← hwx.cleaf]; exact this.2⟩
    ·refine flat_comp hlen (fun i w w' hw hw' => ⟨fun x hx => ?_, b1.at hw hw'⟩) h2
     have hi := (ges.1 hw).1
     have h3 : FzL s.h D (cs0.set i x) cs0 := .of (by simp) fun j a b ha hb => by
      rcases Nat.decEq j i with e | e
      ·rw [List.getElem?_set_ne (fun h => e h.symm), hb] at ha; cases ha; exact .refl _
      ·subst e
       rw [List.getElem?_set_self hi] at ha
       cases ha
       rw [hw] at hb
       cases hb
       exact hx
     exact (i1 h3).at (List.getElem?_set_self hi) hw'
 | rop b1 _ i1 i2 =>
  intro l' a
  match l', a with
  | x :: l', a =>
   obtain ⟨a1, a2⟩ := a.uncons
   rcases a1.inv_rop with ⟨c, rfl, hc⟩ | ⟨g, j, off, c, rfl, h1, h2, h3, h4⟩
   ·exact .rop (i1 hc) (i2 a2)
   ·exact .cons (.ptr (hD _ h1) (cs := c) (by rw [← b1.len]; exact h2) (by rw [← b1.leaf]; exact h3) (i1 h4) .nil) (i2 a2)
 | fn f _ _ i1 i2 =>
  intro l' a
  match l', a with
  | x :: l', a =>
   obtain ⟨a1, a2⟩ := a.uncons
   obtain ⟨c, rfl, hc⟩ := a1.inv_fn
   exact .fn f (i1 hc) (i2 a2)
 | mv f _ _ i1 i2 =>
  intro l' a
  match l', a with
  | x :: l', a =>
   obtain ⟨a1, a2⟩ := a.uncons
   obtain ⟨c, rfl, hc⟩ := a1.inv_mv
   exact .mv f (i1 hc) (i2 a2)
 | iface t _ _ i1 i2 =>
  intro l' a
  match l', a with
  | x :: l', a =>
   obtain ⟨a1, a2⟩ := a.uncons
   obtain ⟨c, rfl, hc⟩ := a1.inv_iface
   exact .iface t (i1 hc) (i2 a2)
 | slc hg h0 hx hr he hl _ _ i1 i2 =>
  intro l' a
  match l', a with
  | x :: l', a =>
   obtain ⟨a1, a2⟩ := a.uncons
   have := a1.hard rfl
   subst this
   obtain ⟨cs0, h1, h2⟩ := read_ref k ((read_rd ..).symm ▸ hr)
   exact .slc (hE _ hg) h0 hx h1 he hl (i1 h2) (i2 a2)
 | ptr hg hr hl _ _ i1 i2 =>
  intro l' a
  match l', a with
  | x :: l', a =>
   obtain ⟨a1, a2⟩ := a.uncons
   have := a1.hard rfl
   subst this
   obtain ⟨cs0, h1, h2⟩ := read_ref k ((read_rd ..).symm ▸ hr)
   exact .ptr (hE _ hg) h1 hl (i1 h2) (i2 a2)
theorem DsZ.comp (k : StZ D s z) (hD : ∀ g, D g → D' g) (hE : ∀ g, E g → D' g) {l r : List DefA} (b : DsZ z.h E l r) : ∀ {l' : List DefA}, DsZ s.h D l' l → DsZ s.h D' l' r := by
 induction b with
 | nil => intro l' a; cases a; exact .nil
 | col g _ ih => intro l' a; cases a with | col _ a => exact .col g (ih a)
 | clo f e _ ih => intro l' a; cases a with | clo _ e' a => exact .clo f (e.comp k hD hE e') (ih a)
theorem TLZ.comp (k : StZ D s z) (hD : ∀ g, D g → D' g) (hE : ∀ g, E g → D' g) {a b c : TL} (h1 : TLZ s.h D a b) (h2 : TLZ z.h E b c) : TLZ s.h D' a c :=
 ⟨h1.n.trans h2.n, h1.rd.trans h2.rd, h1.gl.trans h2.gl, h2.ds.comp k hD hE h1.ds, fun i => (h2.get i).comp k hD hE (h1.get i)⟩
theorem OwnZ.comp (k : StZ D s z) (hD : ∀ g, D g → D' g) (hE : ∀ g, E g → D' g) {a b c : Option Own} (h1 : OwnZ s.h D a b) (h2 : OwnZ z.h E b c) : OwnZ s.h D' a c := by
 match a, b, c, h1, h2 with
 | none, none, none, _, _ => trivial
 | some (.mp _), some (.mp _), some (.mp _), h1, h2 => exact ⟨h1.1.trans h2.1, h2.2.comp k hD hE h1.2⟩
 | some (.loop _), some (.loop _), some (.loop _), h1, h2 => exact ⟨h1.state.trans h2.state, h1.pend.trans h2.pend, h1.t.comp k hD hE h2.t, h1.ps.trans h2.ps, h1.asg.trans h2.asg, h1.body.trans h2.body, h1.dg.trans h2.dg⟩
 | some (.dfr _), some (.dfr _), some (.dfr _), h1, h2 => exact Eq.trans h1 h2
 | some (.frz _), some (.frz _), some (.frz _), h1, h2 => exact Eq.trans h1 h2
theorem GZ.comp (k : StZ D s z) (hD : ∀ g, D g → D' g) (hE : ∀ g, E g → D' g) {a b c : Grp} (h1 : GZ s.h D a b) (h2 : GZ z.h E b c) : GZ s.h D' a c :=
 ⟨h1.len.trans h2.len, fun j V hV => by
   obtain ⟨V', e1, e2⟩ := h2.get j V hV
   obtain ⟨V'', f1, f2⟩ := h1.get j V' e1
   exact ⟨V'', f1, e2.cells.comp k hD hE f2.cells, f2.delta.trans e2.delta, f2.mp.comp k hD hE e2.mp⟩⟩
theorem StZ.comp (k : StZ D s z) (k' : StZ E z y) : StZ (fun g => D g ∨ E g) s y where
 ctr := k.ctr.trans k'.ctr
 wr := k.wr.trans k'.wr
 get := fun g G hG => by
  obtain ⟨h1, G1, h2, h3⟩ := k'.get g G hG
  obtain ⟨h4, G2, h5, h6⟩ := k.get g G1 h2
  exact ⟨fun h => h.elim h4 h1, G2, h5, h6.comp k (fun _ h => .inl h) (fun _ h => .inr h) h3⟩
 bd := fun g hg => hg.elim (k.bd g) fun h => by rw [k.ctr]; exact k'.bd g h
structure Pass (D : Nat → Prop) (s : St) (D' : Nat → Prop) (s' : St) : Prop where
 sub : ∀ g, D g → D' g
 un : ∀ g, D g → Tr.get s'.h g = Tr.get s.h g
 wr : ∃ w, s'.wr = w ++ s.wr ∧ ∀ g ∈ w, ¬ D g
theorem Pass.refl : Pass D s D s := ⟨fun _ h => h, fun _ _ => rfl, [], rfl, fun _ h => by cases h⟩
theorem Pass.trans {D1 D2 D3 : Nat → Prop} {s1 s2 s3 : St} (h : Pass D1 s1 D2 s2) (k : Pass D2 s2 D3 s3) : Pass D1 s1 D3 s3 := by
 obtain ⟨w, h1, h2⟩ := h.wr
 obtain ⟨w', k1, k2⟩ := k.wr
 exact ⟨fun g hg => k.sub g (h.sub g hg), fun g hg => (k.un g (h.sub g hg)).trans (h.un g hg), w' ++ w, by rw [k1, h1, aas], fun g hg => (List.mem_append.1 hg).elim (fun h' hd => k2 g h' (h.sub g hd)) (h2 g)⟩
theorem StepZ.pass {s1 z1 : St} (h : StepZ D s z s1 z1) : Pass D s D s1 := by
 obtain ⟨w, h1, -, h3⟩ := h.wr
 exact ⟨fun _ h => h, h.un, w, h1, h3⟩
end
def Op.readB : Op → Bool
 | .load .. | .slice .. | .lookup .. => true
 | _ => false
def fzAt (ops : Array Oper) (k : Nat) : Bool := (List.range ops.size).all fun i => (List.range ops.size).all fun e => match ops[i]?, ops[e]? with
 | some x, some y => !(Op.readB x.op && Op.eff y.op && Nat.ble (ops.size - k) i && Nat.ble (e + 1 + k) ops.size) || aheadB (Region.before ops) e i || aheadB (Region.before ops) i e
 | _, _ => true
def rdAt (ops : Array Oper) (k : Nat) : Bool := (List.range ops.size).all fun e => match ops[e]? with
 | some y => !(Op.eff y.op) || aheadB (Region.before ops) e (ops.size - (k + 1)) || aheadB (Region.before ops) (ops.size - (k + 1)) e
 | none => true
def LogZ (ops : Array Oper) (Dd : Nat → Prop) : List Entry → (Nat → Prop) → Prop
 | [], _ => True
 | e :: es, D => e.al = none ∧ (∀ g, e.rd = some g → Dd g ∨ D g ∨ rdAt ops es.length = true) ∧ (∀ g ∈ e.wr, ¬ Dd g ∧ ¬ D g) ∧ ∃ D1 : Nat → Prop, (∀ g, D g → D1 g) ∧ (fzAt ops es.length = false → ∀ g, D1 g → D g) ∧ LogZ ops Dd es D1
theorem LogZ.at {ops : Array Oper} {Dd : Nat → Prop} : ∀ {es : List Entry} {D : Nat → Prop}, LogZ ops Dd es D → ∀ {i : Nat} {e : Entry}, es[i]? = some e → ∃ Di : Nat → Prop, (∀ g, D g → Di g) ∧ (∀ g, Di g → D g ∨ ∃ j, j < i ∧ fzAt ops (es.length - 1 - j) = true) ∧ e.al = none ∧ (∀ g, e.rd = some g → Dd g ∨ Di g ∨ rdAt ops (es.length - 1 - i) = true) ∧ (∀ g ∈ e.wr, ¬ Dd g ∧ ¬ Di g)
 | [], _, _, _, _, h => by simp at h
 | e :: es, D, ⟨h1, h2, h3, D1, h4, h5, h6⟩, i, x, hx => by
  cases i with
  | zero => simp only [List.getElem?_cons_zero, sjj] at hx; subst hx; exact ⟨D, fun _ h => h, fun _ h => .inl h, h1, h2, h3⟩
  | succ i =>
   obtain ⟨Di, k1, k2, k3, k4, k5⟩ := h6.at (by simpa using hx)
   refine ⟨Di, fun g hg => k1 g (h4 g hg), fun g hg => ?_, k3, fun g hg => (by rw [lcc, show es.length + 1 - 1 - (i + 1) = es.length - 1 - i by omega]; exact k4 g hg), k5⟩
   rcases k2 g hg with h | ⟨j, hj, hf⟩
   ·cases hf : fzAt ops es.length with
    | false => exact .inl (h5 hf g h)
    | true => exact .inr ⟨0, by omega, by simpa using hf⟩
   ·refine .inr ⟨j + 1, by omega, ?_⟩
    rw [lcc, show es.length + 1 - 1 - (j + 1) = es.length - 1 - j by omega]
    exact hf
theorem LogZ.drop {ops : Array Oper} {Dd : Nat → Prop} : ∀ {es : List Entry} {D : Nat → Prop}, LogZ ops Dd es D → ∀ k, ∃ D', (∀ g, D g → D' g) ∧ LogZ ops Dd (es.drop k) D'
 | _, D, h, 0 => ⟨D, fun _ h => h, h⟩
 | [], D, _, k + 1 => ⟨D, fun _ h => h, trivial⟩
 | e :: es, D, ⟨_, _, _, D1, h4, _, h6⟩, k + 1 => by
  obtain ⟨D', k1, k2⟩ := h6.drop k
  exact ⟨D', fun g hg => k1 g (h4 g hg), k2⟩
theorem LogZ.later {ops : Array Oper} {Dd : Nat → Prop} : ∀ {es : List Entry} {D : Nat → Prop}, LogZ ops Dd es D → ∀ {i j : Nat} {x y : Entry}, es[i]? = some x → es[j]? = some y → i ≤ j → rdAt ops (es.length - 1 - i) = false → ∀ g, x.rd = some g → g ∉ y.wr
 | [], _, _, _, _, _, _, h, _, _, _, _, _ => by simp at h
 | e :: es, D, hL, i, j, x, y, hx, hy, hij, hno, g, hg => by
  cases i with
  | zero =>
   simp only [List.getElem?_cons_zero, sjj] at hx
   subst hx
   obtain ⟨-, h2, -⟩ := id hL
   obtain ⟨Dj, k1, -, -, -, k4⟩ := hL.at hy
   intro hm
   obtain ⟨c1, c2⟩ := k4 g hm
   rcases h2 g hg with h | h | h
   ·exact c1 h
   ·exact c2 (k1 g h)
   ·rw [show (e :: es).length - 1 - 0 = es.length by simp, h] at hno; cases hno
  | succ i =>
   obtain ⟨_, _, _, D1, _, _, h6⟩ := hL
   cases j with
   | zero => omega
   | succ j => exact h6.later (by simpa using hx) (by simpa using hy) (by omega) (by rw [lcc, show es.length + 1 - 1 - (i + 1) = es.length - 1 - i by omega] at hno; exact hno) g hg
theorem LogZ.ahead {ops : Array Oper} {Dd : Nat → Prop} {es : List Entry} {D : Nat → Prop} (hL : LogZ ops Dd es D) {i e : Nat} {x y : Entry} (hx : es[i]? = some x) (hy : es[e]? = some y) (hei : e < i) (hno : rdAt ops (es.length - 1 - i) = false) {g : Nat} (hg : x.rd = some g) (hm : g ∈ y.wr) : ∃ j, e ≤ j ∧ j < i ∧ fzAt ops (es.length - 1 - j) = true := by
 obtain ⟨D', h1, h2⟩ := hL.drop e
 have hel := (ges.1 hy).1
 have hy' : (es.drop e)[0]? = some y := by rw [List.getElem?_drop, Nat.add_zero]; exact hy
 have hx' : (es.drop e)[i - e]? = some x := by rw [List.getElem?_drop, show e + (i - e) = i by omega]; exact hx
 obtain ⟨De, a1, a2, -, -, a5⟩ := h2.at hy'
 obtain ⟨Di, b1, b2, -, b4, -⟩ := h2.at hx'
 obtain ⟨c1, c2⟩ := a5 g hm
 rcases b4 g hg with h | h | h
 ·exact (c1 h).elim
 ·rcases b2 g h with h | ⟨j, hj, hf⟩
  ·exact (c2 (a1 g h)).elim
  ·refine ⟨e + j, by omega, by omega, ?_⟩
   rw [List.length_drop, show es.length - e - 1 - j = es.length - 1 - (e + j) by omega] at hf
   exact hf
 ·have hil := (ges.1 hx).1
  rw [List.length_drop, show es.length - e - 1 - (i - e) = es.length - 1 - i by omega, hno] at h
  cases h
section
variable {T : Tab} {call : FuncId → List AV → St → Option (End × St)} {ops : Array Oper}
theorem evLog_kinds : ∀ (l : List Oper) {t t' : TL} {s s' : St} {es : List Entry}, evLog T call ops l (l.map fun _ => none) t s = some (t', s', es) → es.length = l.length ∧ ∀ (i : Nat) (e : Entry) (o : Oper), es[i]? = some e → l[i]? = some o → (e.rd ≠ none → Op.readB o.op = true) ∧ (e.wr ≠ [] → Op.eff o.op = true)
 | [], _, _, _, _, _, h => by cases h; exact ⟨rfl, fun i e o h => by simp at h⟩
 | o :: l, t, t', s, s', es, h => by
  rw [List.map_cons, evLog] at h
  split at h
  ·cases h
  ·rename_i t1 s1 h1
   split at h
   ·cases h
   ·rename_i t2 s2 l2 h2
    cases h
    obtain ⟨k1, k2⟩ := evLog_kinds l h2
    refine ⟨by simp [k1], fun i e o' he ho => ?_⟩
    cases i with
    | succ i => exact k2 i e o' (by simpa using he) (by simpa using ho)
    | zero =>
     simp only [List.getElem?_cons_zero, sjj] at he ho
     subst he ho
     refine ⟨fun hr => ?_, fun hw => ?_⟩
     ·simp only at hr
      split at hr
      ·revert hr
       cases o.op <;> first | (intro _; rfl) | (intro hr; exact (hr rfl).elim)
      ·exact (hr rfl).elim
     ·simp only at hw
      cases hf : Op.eff o.op with
      | true => rfl
      | false =>
       exfalso
       apply hw
       unfold evStep at h1
       split at h1
       ·cases h1
       ·cases h1; rfl
       ·split at h1
        ·cases h1
        ·rename_i hv; cases h1; rw [(still_op hv hf).1]
        ·rename_i hv; obtain ⟨-, v, e⟩ := still_op hv hf; cases e
        ·rename_i hv; obtain ⟨-, v, e⟩ := still_op hv hf; cases e
theorem logOk_z {Dd D : Nat → Prop} {es : List Entry} {t t' : TL} {s s' : St} (h : evLog T call ops ops.toList (ops.toList.map fun _ => none) t s = some (t', s', es)) (hz : LogZ ops Dd es D) : logOk (Region.before ops) es = true := by
 obtain ⟨hlen, hk⟩ := evLog_kinds _ h
 have hlen : es.length = ops.size := by simpa using hlen
 unfold logOk
 rw [aet]
 intro i _
 cases hi : es[i]? with
 | none => rfl
 | some x =>
  obtain ⟨Di, -, -, hal, -⟩ := hz.at hi
  simp only [hal, Bool.and_true]
  cases hrd : x.rd with
  | none => rfl
  | some g =>
   simp only
   rw [aet]
   intro e _
   cases he : es[e]? with
   | none => simp
   | some y =>
    simp only
    have hil : i < ops.size := by
     have := (ges.1 hi).1
     omega
    have hel : e < ops.size := by
     have := (ges.1 he).1
     omega
    cases hro : rdAt ops (es.length - 1 - i) with
    | true =>
     cases hw : y.wr.contains g with
     | false => simp
     | true =>
      have h2 := (hk e y ops[e] he (by simp [hel])).2 (fun h => by rw [h] at hw; simp at hw)
      unfold rdAt at hro
      rw [aet] at hro
      have h3 := hro e (by simp [hel])
      rw [Array.getElem?_eq_getElem hel] at h3
      simp only [h2, Bool.not_true, Bool.false_or] at h3
      rw [show ops.size - (es.length - 1 - i + 1) = i by omega] at h3
      rw [h3]; rfl
    | false =>
    by_cases hc : i ≤ e
    ·have := hz.later hi he hc hro g hrd
     have : y.wr.contains g = false := by
      cases hc : y.wr.contains g with
      | false => rfl
      | true => exact absurd (by simpa using hc) this
     rw [this]; simp
    ·have hei : e < i := by omega
     cases hw : y.wr.contains g with
     | false => simp
     | true =>
      obtain ⟨j, hj1, hj2, hf⟩ := hz.ahead hi he hei hro hrd (by simpa using hw)
      have h1 := (hk i x ops[i] hi (by simp [hil])).1 (by rw [hrd]; simp)
      have h2 := (hk e y ops[e] he (by simp [hel])).2 (fun h => by rw [h] at hw; simp at hw)
      unfold fzAt at hf
      rw [aet] at hf
      have h3 := hf i (by simp [hil])
      rw [aet] at h3
      have h4 := h3 e (by simp [hel])
      rw [Array.getElem?_eq_getElem hil, Array.getElem?_eq_getElem hel] at h4
      have b1 : Nat.ble (ops.size - (es.length - 1 - j)) i = true := Nat.ble_eq_true_of_le (by omega)
      have b2 : Nat.ble (e + 1 + (es.length - 1 - j)) ops.size = true := Nat.ble_eq_true_of_le (by omega)
      simp only [h1, h2, b1, b2, Bool.and_self, Bool.not_true, Bool.false_or] at h4
      rw [h4]; rfl
end
end Go.Ab
namespace Go.Ab
set_option maxRecDepth 100000 in
def Tt0 : Tr TI := (.node none (.node (some ⟨.scalar, 1, 8, [.nilf], false⟩) (.node (some ⟨.num .i64, 1, 8, [.int .i64 0], false⟩) (.node none (.node none (.node (some ⟨.num .i64, 1, 8, [.int .i64 0], false⟩) (.node (some ⟨.slice 62, 1, 24, [.nils], false⟩) (.node (some ⟨.scalar, 1, 8, [.nilf], false⟩) (.node (some ⟨.array 20 28, 20, 160, [.int .u64 0, .int .u64 0, .int .u64 0, .int .u64 0, .int .u64 0, .int .u64 0, .int .u64 0, .int .u64 0, .int .u64 0, .int .u64 0, .int .u64 0, .int .u64 0, .int .u64 0, .int .u64 0, .int .u64 0, .int .u64 0, .int .u64 0, .int .u64 0, .int .u64 0, .int .u64 0], false⟩) .leaf .leaf) .leaf) (.node (some ⟨.scalar, 1, 8, [.nilf], false⟩) .leaf .leaf)) (.node (some ⟨.scalar, 1, 8, [.nilf], false⟩) .leaf (.node (some ⟨.array 5 9, 5, 80, [.str ⟨#[]⟩, .str ⟨#[]⟩, .str ⟨#[]⟩, .str ⟨#[]⟩, .str ⟨#[]⟩], false⟩) .leaf .leaf))) (.node (some ⟨.struct [(0, 1, false), (1, 1, false), (2, 1, false), (3, 1, false)], 4, 72, [.int .i64 0, .str ⟨#[]⟩, .nils, .nils], false⟩) (.node (some ⟨.struct [(0, 5, true), (5, 3, true)], 8, 144, [.nils, .nils, .nils, .nils, .nils, .int .i64 0, .int .i64 0, .int .i64 0], false⟩) (.node (some ⟨.scalar, 1, 8, [.nilf], false⟩) .leaf .leaf) (.node (some ⟨.scalar, 1, 8, [.nilf], false⟩) .leaf .leaf)) (.node (some ⟨.slice 50, 1, 24, [.nils], false⟩) (.node (some ⟨.struct [(0, 1, false), (1, 1, false), (2, 1, false), (3, 1, false), (4, 1, false), (5, 1, false), (6, 1, false)], 7, 104, [.nils, .int .i64 0, .int .i64 0, .nils, .int .i64 0, .int .i64 0, .nils], false⟩) .leaf .leaf) (.node (some ⟨.struct [(0, 1, false), (1, 1, false), (2, 1, false)], 3, 48, [.str ⟨#[]⟩, .str ⟨#[]⟩, .nili], false⟩) .leaf .leaf)))) (.node (some ⟨.slice 37, 1, 24, [.nils], false⟩) (.node (some ⟨.struct [(0, 1, false), (1, 1, false), (2, 1, false)], 3, 32, [.str ⟨#[]⟩, .int .i64 0, .int .u64 0], true⟩) (.node (some ⟨.scalar, 1, 8, [.nilf], false⟩) (.node (some ⟨.scalar, 1, 8, [.nilf], false⟩) .leaf .leaf) (.node (some ⟨.scalar, 1, 8, [.nilf], false⟩) .leaf .leaf)) (.node (some ⟨.scalar, 1, 8, [.nilf], false⟩) (.node (some ⟨.scalar, 1, 8, [.nilf], false⟩) .leaf .leaf) (.node (some ⟨.num .i64, 1, 8, [.int .i64 0], false⟩) .leaf .leaf))) (.node none (.node (some ⟨.scalar, 1, 8, [.nilf], false⟩) (.node (some ⟨.scalar, 1, 8, [.nilf], false⟩) .leaf .leaf) .leaf) (.node (some ⟨.scalar, 1, 8, [.nilf], false⟩) (.node (some ⟨.scalar, 1, 8, [.nilf], false⟩) .leaf .leaf) (.node (some ⟨.struct [(0, 1, false)], 1, 16, [.str ⟨#[]⟩], true⟩) .leaf .leaf))))) (.node none (.node none (.node (some ⟨.scalar, 1, 8, [.nilf], false⟩) (.node (some ⟨.struct [(0, 1, false), (1, 1, false), (2, 2, true), (4, 1, false), (5, 1, false)], 6, 112, [.int .i64 0, .nils, .nils, .nils, .nils, .int .u64 0], false⟩) (.node (some ⟨.scalar, 1, 8, [.nilf], false⟩) (.node (some ⟨.array 32 5, 32, 32, [.int .u8 0, .int .u8 0, .int .u8 0, .int .u8 0, .int .u8 0, .int .u8 0, .int .u8 0, .int .u8 0, .int .u8 0, .int .u8 0, .int .u8 0, .int .u8 0, .int .u8 0, .int .u8 0, .int .u8 0, .int .u8 0, .int .u8 0, .int .u8 0, .int .u8 0, .int .u8 0, .int .u8 0, .int .u8 0, .int .u8 0, .int .u8 0, .int .u8 0, .int .u8 0, .int .u8 0, .int .u8 0, .int .u8 0, .int .u8 0, .int .u8 0, .int .u8 0], false⟩) .leaf .leaf) .leaf) (.node (some ⟨.scalar, 1, 8, [.nilf], false⟩) .leaf .leaf)) (.node (some ⟨.scalar, 1, 8, [.nilf], false⟩) (.node (some ⟨.scalar, 1, 8, [.nilf], false⟩) .leaf .leaf) (.node (some ⟨.scalar, 1, 8, [.nilf], false⟩) .leaf .leaf))) (.node none (.node (some ⟨.scalar, 1, 8, [.nilf], false⟩) (.node (some ⟨.scalar, 1, 8, [.nilf], false⟩) .leaf .leaf) (.node (some ⟨.scalar, 1, 8, [.nilf], false⟩) .leaf .leaf)) (.node (some ⟨.scalar, 1, 8, [.nilf], false⟩) (.node (some ⟨.scalar, 1, 8, [.nilf], false⟩) .leaf .leaf) (.node (some ⟨.scalar, 1, 8, [.nilf], false⟩) .leaf .leaf)))) (.node (some ⟨.struct [(0, 1, false), (1, 1, false), (2, 1, false), (3, 1, false), (4, 1, false)], 5, 120, [.nils, .nils, .nils, .nils, .nils], false⟩) (.node (some ⟨.struct [(0, 1, false), (1, 1, false), (2, 1, false), (3, 1, false), (4, 1, false), (5, 1, false)], 6, 120, [.str ⟨#[]⟩, .int .u64 0, .nils, .nils, .nils, .nils], false⟩) (.node (some ⟨.scalar, 1, 8, [.nilf], false⟩) (.node (some ⟨.slice 23, 1, 24, [.nils], false⟩) .leaf .leaf) (.node (some ⟨.scalar, 1, 8, [.nilf], false⟩) .leaf .leaf)) (.node (some ⟨.scalar, 1, 8, [.nilf], false⟩) (.node (some ⟨.struct [(0, 1, false), (1, 1, false)], 2, 16, [.int .i64 0, .int .i64 0], true⟩) .leaf .leaf) (.node (some ⟨.scalar, 1, 8, [.nilf], false⟩) .leaf .leaf))) (.node (some ⟨.scalar, 1, 8, [.nilf], false⟩) (.node (some ⟨.scalar, 1, 8, [.nilf], false⟩) (.node (some ⟨.scalar, 1, 8, [.nilf], false⟩) .leaf .leaf) (.node (some ⟨.iface, 1, 16, [.nili], false⟩) .leaf .leaf)) (.node (some ⟨.scalar, 1, 8, [.nilf], false⟩) .leaf (.node (some ⟨.scalar, 1, 8, [.nilf], false⟩) .leaf .leaf)))))) (.node (some ⟨.num .u8, 1, 1, [.int .u8 0], false⟩) (.node (some ⟨.text, 1, 16, [.str ⟨#[]⟩], false⟩) (.node none (.node (some ⟨.struct [(0, 1, false), (1, 1, false), (2, 1, false)], 3, 24, [.int .i64 0, .int .i64 0, .int .i64 0], true⟩) (.node (some ⟨.struct [(0, 1, false), (1, 1, false)], 2, 48, [.nils, .nils], false⟩) (.node (some ⟨.struct [(0, 1, false), (1, 1, false), (2, 1, false)], 3, 32, [.int .i64 0, .int .i64 0, .str ⟨#[]⟩], true⟩) (.node (some ⟨.scalar, 1, 8, [.nilf], false⟩) .leaf .leaf) .leaf) (.node (some ⟨.scalar, 1, 8, [.nilf], false⟩) .leaf .leaf)) (.node (some ⟨.scalar, 1, 8, [.nilf], false⟩) .leaf (.node (some ⟨.scalar, 1, 8, [.nilf], false⟩) .leaf .leaf))) (.node (some ⟨.scalar, 1, 8, [.nilf], false⟩) (.node (some ⟨.scalar, 1, 8, [.nilf], false⟩) (.node (some ⟨.scalar, 1, 8, [.nilf], false⟩) (.node (some ⟨.scalar, 1, 8, [.nilp], false⟩) .leaf .leaf) .leaf) (.node (some ⟨.scalar, 1, 8, [.nilf], false⟩) .leaf .leaf)) (.node (some ⟨.struct [(0, 5, true), (5, 1, false), (6, 1, false), (7, 2, true), (9, 1, false), (10, 1, false), (11, 1, false), (12, 1, false)], 13, 264, [.nils, .nils, .nils, .nils, .nils, .nils, .nils, .nils, .nils, .nils, .int .u64 0, .int .u64 0, .int .i64 0], false⟩) (.node (some ⟨.scalar, 1, 8, [.nilf], false⟩) .leaf .leaf) (.node (some ⟨.scalar, 1, 8, [.nilf], false⟩) .leaf .leaf)))) (.node (some ⟨.slice 43, 1, 24, [.nils], false⟩) (.node (some ⟨.slice 47, 1, 24, [.nils], false⟩) (.node (some ⟨.scalar, 1, 8, [.nilf], false⟩) .leaf (.node (some ⟨.scalar, 1, 8, [.nilf], false⟩) .leaf .leaf)) (.node (some ⟨.scalar, 1, 8, [.nilf], false⟩) .leaf (.node (some ⟨.scalar, 1, 8, [.nilf], false⟩) .leaf .leaf))) (.node (some ⟨.scalar, 1, 8, [.nilf], false⟩) (.node (some ⟨.slice 130, 1, 24, [.nils], false⟩) (.node (some ⟨.scalar, 1, 8, [.nilf], false⟩) .leaf .leaf) (.node (some ⟨.scalar, 1, 8, [.nilf], false⟩) .leaf .leaf)) (.node (some ⟨.scalar, 1, 8, [.nilf], false⟩) .leaf (.node (some ⟨.array 24 5, 24, 24, [.int .u8 0, .int .u8 0, .int .u8 0, .int .u8 0, .int .u8 0, .int .u8 0, .int .u8 0, .int .u8 0, .int .u8 0, .int .u8 0, .int .u8 0, .int .u8 0, .int .u8 0, .int .u8 0, .int .u8 0, .int .u8 0, .int .u8 0, .int .u8 0, .int .u8 0, .int .u8 0, .int .u8 0, .int .u8 0, .int .u8 0, .int .u8 0], false⟩) .leaf .leaf))))) (.node none (.node (some ⟨.num .i32, 1, 4, [.int .i32 0], false⟩) (.node (some ⟨.struct [(0, 1, false), (1, 1, false)], 2, 24, [.str ⟨#[]⟩, .int .u64 0], true⟩) (.node (some ⟨.scalar, 1, 8, [.nilf], false⟩) (.node (some ⟨.scalar, 1, 8, [.nilf], false⟩) .leaf .leaf) (.node (some ⟨.scalar, 1, 8, [.nilf], false⟩) .leaf .leaf)) (.node (some ⟨.scalar, 1, 8, [.nilf], false⟩) (.node (some ⟨.scalar, 1, 8, [.nilf], false⟩) .leaf .leaf) (.node (some ⟨.scalar, 1, 8, [.nilf], false⟩) .leaf .leaf))) (.node (some ⟨.struct [(0, 1, false), (1, 1, false)], 2, 16, [.int .i64 0, .int .i64 0], true⟩) (.node (some ⟨.scalar, 1, 8, [.nilf], false⟩) (.node (some ⟨.scalar, 1, 8, [.nilp], false⟩) .leaf .leaf) (.node (some ⟨.scalar, 1, 8, [.nilf], false⟩) .leaf .leaf)) (.node (some ⟨.scalar, 1, 8, [.nilf], false⟩) (.node (some ⟨.struct [(0, 1, false), (1, 1, false), (2, 1, false), (3, 1, false)], 4, 40, [.int .i64 0, .str ⟨#[]⟩, .int .i64 0, .int .i64 0], true⟩) .leaf .leaf) (.node (some ⟨.scalar, 1, 8, [.nilp], false⟩) .leaf .leaf)))) (.node (some ⟨.num .u64, 1, 8, [.int .u64 0], false⟩) (.node (some ⟨.slice 89, 1, 24, [.nils], false⟩) (.node (some ⟨.scalar, 1, 8, [.nilf], false⟩) (.node (some ⟨.scalar, 1, 8, [.nilf], false⟩) .leaf .leaf) (.node (some ⟨.scalar, 1, 8, [.nilf], false⟩) .leaf .leaf)) (.node (some ⟨.struct [(0, 1, false)], 1, 8, [.int .i64 0], true⟩) .leaf (.node (some ⟨.scalar, 1, 8, [.nilf], false⟩) .leaf .leaf))) (.node (some ⟨.scalar, 1, 8, [.nilf], false⟩) (.node (some ⟨.scalar, 1, 8, [.nilf], false⟩) (.node (some ⟨.scalar, 1, 8, [.nilf], false⟩) .leaf .leaf) .leaf) (.node (some ⟨.scalar, 1, 8, [.nilf], false⟩) (.node (some ⟨.scalar, 1, 8, [.nilf], false⟩) .leaf .leaf) (.node (some ⟨.scalar, 1, 8, [.nilf], false⟩) .leaf .leaf))))))) (.node (some ⟨.num .i64, 1, 8, [.int .i64 0], false⟩) (.node (some ⟨.boolean, 1, 1, [.bool false], false⟩) (.node none (.node none (.node (some ⟨.struct [(0, 1, false), (1, 1, false), (2, 1, false)], 3, 24, [.int .i64 0, .int .i64 0, .int .i64 0], true⟩) (.node (some ⟨.struct [(0, 1, false), (1, 1, false)], 2, 48, [.nils, .nils], false⟩) (.node (some ⟨.scalar, 1, 8, [.nilf], false⟩) .leaf .leaf) (.node (some ⟨.scalar, 1, 8, [.nilf], false⟩) .leaf .leaf)) (.node (some ⟨.scalar, 1, 8, [.nilf], false⟩) (.node (some ⟨.scalar, 1, 8, [.nilf], false⟩) .leaf .leaf) (.node (some ⟨.scalar, 1, 8, [.nilf], false⟩) .leaf .leaf))) (.node (some ⟨.scalar, 1, 8, [.nilf], false⟩) (.node (some ⟨.struct [(0, 5, true), (5, 3, true)], 8, 144, [.nils, .nils, .nils, .nils, .nils, .int .i64 0, .int .i64 0, .int .i64 0], false⟩) (.node (some ⟨.scalar, 1, 8, [.nilf], false⟩) .leaf .leaf) (.node (some ⟨.scalar, 1, 8, [.nilf], false⟩) .leaf .leaf)) (.node (some ⟨.struct [(0, 5, true), (5, 1, false), (6, 1, false), (7, 2, true), (9, 1, false), (10, 1, false), (11, 1, false), (12, 1, false)], 13, 264, [.nils, .nils, .nils, .nils, .nils, .nils, .nils, .nils, .nils, .nils, .int .u64 0, .int .u64 0, .int .i64 0], false⟩) (.node (some ⟨.scalar, 1, 8, [.nilf], false⟩) .leaf .leaf) (.node (some ⟨.struct [(0, 1, false), (1, 1, false), (2, 1, false)], 3, 48, [.str ⟨#[]⟩, .str ⟨#[]⟩, .nili], false⟩) .leaf .leaf)))) (.node (some ⟨.slice 39, 1, 24, [.nils], false⟩) (.node (some ⟨.slice 29, 1, 24, [.nils], false⟩) (.node (some ⟨.scalar, 1, 8, [.nilf], false⟩) (.node (some ⟨.num .u64, 1, 8, [.int .u64 0], false⟩) .leaf .leaf) (.node (some ⟨.scalar, 1, 8, [.nilf], false⟩) .leaf .leaf)) (.node (some ⟨.scalar, 1, 8, [.nilf], false⟩) (.node (some ⟨.slice 181, 1, 24, [.nils], false⟩) .leaf .leaf) .leaf)) (.node (some ⟨.scalar, 1, 8, [.nilf], false⟩) (.node (some ⟨.scalar, 1, 8, [.nilf], false⟩) (.node (some ⟨.scalar, 1, 8, [.nilf], false⟩) .leaf .leaf) (.node (some ⟨.scalar, 1, 8, [.nilf], false⟩) .leaf .leaf)) (.node (some ⟨.map 9 3, 1, 8, [.nilm], false⟩) (.node (some ⟨.scalar, 1, 8, [.nilf], false⟩) .leaf .leaf) (.node (some ⟨.scalar, 1, 8, [.nilf], false⟩) .leaf .leaf))))) (.node (some ⟨.num .u64, 1, 8, [.int .u64 0], false⟩) (.node (some ⟨.iface, 1, 16, [.nili], false⟩) (.node (some ⟨.struct [(0, 1, false), (1, 1, false)], 2, 24, [.str ⟨#[]⟩, .int .u64 0], true⟩) (.node (some ⟨.scalar, 1, 8, [.nilf], false⟩) (.node (some ⟨.scalar, 1, 8, [.nilf], false⟩) (.node (some ⟨.array 64 5, 64, 64, [.int .u8 0, .int .u8 0, .int .u8 0, .int .u8 0, .int .u8 0, .int .u8 0, .int .u8 0, .int .u8 0, .int .u8 0, .int .u8 0, .int .u8 0, .int .u8 0, .int .u8 0, .int .u8 0, .int .u8 0, .int .u8 0, .int .u8 0, .int .u8 0, .int .u8 0, .int .u8 0, .int .u8 0, .int .u8 0, .int .u8 0, .int .u8 0, .int .u8 0, .int .u8 0, .int .u8 0, .int .u8 0, .int .u8 0, .int .u8 0, .int .u8 0, .int .u8 0, .int .u8 0, .int .u8 0, .int .u8 0, .int .u8 0, .int .u8 0, .int .u8 0, .int .u8 0, .int .u8 0, .int .u8 0, .int .u8 0, .int .u8 0, .int .u8 0, .int .u8 0, .int .u8 0, .int .u8 0, .int .u8 0, .int .u8 0, .int .u8 0, .int .u8 0, .int .u8 0, .int .u8 0, .int .u8 0, .int .u8 0, .int .u8 0, .int .u8 0, .int .u8 0, .int .u8 0, .int .u8 0, .int .u8 0, .int .u8 0, .int .u8 0, .int .u8 0], false⟩) .leaf .leaf) .leaf) (.node (some ⟨.scalar, 1, 8, [.nilf], false⟩) .leaf .leaf)) (.node (some ⟨.scalar, 1, 8, [.nilf], false⟩) (.node (some ⟨.scalar, 1, 8, [.nilf], false⟩) .leaf .leaf) (.node (some ⟨.scalar, 1, 8, [.nilf], false⟩) .leaf .leaf))) (.node (some ⟨.scalar, 1, 8, [.nilf], false⟩) (.node (some ⟨.scalar, 1, 8, [.nilf], false⟩) (.node (some ⟨.scalar, 1, 8, [.nilf], false⟩) .leaf .leaf) (.node (some ⟨.scalar, 1, 8, [.nilf], false⟩) .leaf .leaf)) (.node (some ⟨.scalar, 1, 8, [.nilf], false⟩) (.node (some ⟨.struct [(0, 1, false), (1, 1, false), (2, 1, false), (3, 1, false)], 4, 40, [.int .i64 0, .str ⟨#[]⟩, .int .i64 0, .int .i64 0], true⟩) .leaf .leaf) (.node (some ⟨.scalar, 1, 8, [.nilp], false⟩) .leaf .leaf)))) (.node (some ⟨.num .u64, 1, 8, [.int .u64 0], false⟩) (.node (some ⟨.scalar, 1, 8, [.nilf], false⟩) (.node (some ⟨.scalar, 1, 8, [.nilf], false⟩) (.node (some ⟨.scalar, 1, 8, [.nilf], false⟩) (.node (some ⟨.scalar, 1, 8, [.nilf], false⟩) .leaf .leaf) .leaf) (.node (some ⟨.scalar, 1, 8, [.nilf], false⟩) .leaf .leaf)) (.node (some ⟨.struct [(0, 1, false)], 1, 8, [.int .i64 0], true⟩) (.node (some ⟨.struct [(0, 1, false), (1, 1, false)], 2, 16, [.int .i64 0, .int .i64 0], true⟩) .leaf .leaf) (.node (some ⟨.scalar, 1, 8, [.nilf], false⟩) .leaf .leaf))) (.node (some ⟨.scalar, 1, 8, [.nilf], false⟩) (.node (some ⟨.scalar, 1, 8, [.nilf], false⟩) (.node (some ⟨.scalar, 1, 8, [.nilf], false⟩) .leaf .leaf) (.node (some ⟨.iface, 1, 16, [.nili], false⟩) .leaf .leaf)) (.node (some ⟨.scalar, 1, 8, [.nilf], false⟩) (.node (some ⟨.scalar, 1, 8, [.nilf], false⟩) .leaf .leaf) .leaf))))) (.node none (.node none (.node none (.node (some ⟨.scalar, 1, 8, [.nilf], false⟩) (.node (some ⟨.struct [(0, 1, false), (1, 1, false), (2, 2, true), (4, 1, false), (5, 1, false)], 6, 112, [.int .i64 0, .nils, .nils, .nils, .nils, .int .u64 0], false⟩) (.node (some ⟨.struct [(0, 1, false), (1, 1, false), (2, 1, false)], 3, 32, [.int .i64 0, .int .i64 0, .str ⟨#[]⟩], true⟩) (.node (some ⟨.scalar, 1, 8, [.nilf], false⟩) .leaf .leaf) .leaf) (.node (some ⟨.scalar, 1, 8, [.nilf], false⟩) .leaf .leaf)) (.node (some ⟨.scalar, 1, 8, [.nilf], false⟩) (.node (some ⟨.scalar, 1, 8, [.nilf], false⟩) .leaf .leaf) (.node (some ⟨.scalar, 1, 8, [.nilf], false⟩) .leaf .leaf))) (.node (some ⟨.slice 3, 1, 24, [.nils], false⟩) (.node (some ⟨.slice 81, 1, 24, [.nils], false⟩) (.node (some ⟨.scalar, 1, 8, [.nilf], false⟩) .leaf .leaf) .leaf) (.node (some ⟨.scalar, 1, 8, [.nilf], false⟩) (.node (some ⟨.scalar, 1, 8, [.nilf], false⟩) .leaf .leaf) (.node (some ⟨.scalar, 1, 8, [.nilf], false⟩) .leaf .leaf)))) (.node (some ⟨.struct [(0, 1, false), (1, 1, false), (2, 1, false), (3, 1, false), (4, 1, false)], 5, 120, [.nils, .nils, .nils, .nils, .nils], false⟩) (.node (some ⟨.struct [(0, 1, false), (1, 1, false), (2, 1, false), (3, 1, false), (4, 1, false), (5, 1, false)], 6, 120, [.str ⟨#[]⟩, .int .u64 0, .nils, .nils, .nils, .nils], false⟩) (.node (some ⟨.scalar, 1, 8, [.nilf], false⟩) (.node (some ⟨.scalar, 1, 8, [.nilf], false⟩) .leaf .leaf) (.node (some ⟨.scalar, 1, 8, [.nilf], false⟩) .leaf .leaf)) (.node (some ⟨.scalar, 1, 8, [.nilp], false⟩) (.node (some ⟨.scalar, 1, 8, [.nilf], false⟩) .leaf .leaf) (.node (some ⟨.scalar, 1, 8, [.nilp], false⟩) .leaf .leaf))) (.node (some ⟨.slice 40, 1, 24, [.nils], false⟩) (.node none (.node (some ⟨.slice 5, 1, 24, [.nils], false⟩) .leaf .leaf) (.node (some ⟨.scalar, 1, 8, [.nilf], false⟩) .leaf .leaf)) (.node (some ⟨.scalar, 1, 8, [.nilf], false⟩) (.node (some ⟨.scalar, 1, 8, [.nilf], false⟩) .leaf .leaf) (.node (some ⟨.scalar, 1, 8, [.nilf], false⟩) .leaf .leaf))))) (.node none (.node (some ⟨.slice 9, 1, 24, [.nils], false⟩) (.node (some ⟨.struct [(0, 1, false), (1, 1, false), (2, 1, false)], 3, 32, [.str ⟨#[]⟩, .int .i64 0, .int .u64 0], true⟩) (.node (some ⟨.scalar, 1, 8, [.nilf], false⟩) (.node (some ⟨.scalar, 1, 8, [.nilf], false⟩) .leaf .leaf) (.node (some ⟨.scalar, 1, 8, [.nilf], false⟩) .leaf .leaf)) (.node none (.node (some ⟨.scalar, 1, 8, [.nilf], false⟩) .leaf .leaf) (.node (some ⟨.scalar, 1, 8, [.nilf], false⟩) .leaf .leaf))) (.node (some ⟨.struct [(0, 1, false), (1, 1, false)], 2, 16, [.int .i64 0, .int .i64 0], true⟩) (.node (some ⟨.scalar, 1, 8, [.nilf], false⟩) (.node (some ⟨.scalar, 1, 8, [.nilf], false⟩) .leaf .leaf) (.node (some ⟨.scalar, 1, 8, [.nilp], false⟩) .leaf .leaf)) (.node (some ⟨.scalar, 1, 8, [.nilf], false⟩) (.node (some ⟨.scalar, 1, 8, [.nilf], false⟩) .leaf .leaf) (.node (some ⟨.struct [(0, 1, false)], 1, 16, [.str ⟨#[]⟩], true⟩) .leaf .leaf)))) (.node (some ⟨.scalar, 1, 8, [.nilf], false⟩) (.node (some ⟨.struct [(0, 1, false), (1, 1, false), (2, 1, false), (3, 1, false)], 4, 72, [.int .i64 0, .str ⟨#[]⟩, .nils, .nils], false⟩) (.node (some ⟨.scalar, 1, 8, [.nilp], false⟩) (.node (some ⟨.scalar, 1, 8, [.nilf], false⟩) .leaf .leaf) (.node (some ⟨.scalar, 1, 8, [.nilf], false⟩) .leaf .leaf)) (.node none (.node (some ⟨.struct [(0, 1, false), (1, 1, false), (2, 1, false), (3, 1, false), (4, 1, false), (5, 1, false), (6, 1, false)], 7, 104, [.nils, .int .i64 0, .int .i64 0, .nils, .int .i64 0, .int .i64 0, .nils], false⟩) .leaf .leaf) (.node (some ⟨.scalar, 1, 8, [.nilf], false⟩) .leaf .leaf))) (.node (some ⟨.slice 2, 1, 24, [.nils], false⟩) (.node (some ⟨.scalar, 1, 8, [.nilf], false⟩) (.node (some ⟨.num .u32, 1, 4, [.int .u32 0], false⟩) .leaf .leaf) (.node (some ⟨.scalar, 1, 8, [.nilf], false⟩) .leaf .leaf)) (.node (some ⟨.scalar, 1, 8, [.nilf], false⟩) (.node (some ⟨.scalar, 1, 8, [.nilf], false⟩) .leaf .leaf) (.node (some ⟨.scalar, 1, 8, [.nilf], false⟩) .leaf .leaf))))))))
noncomputable def Tt : Tab := Tt0.get
end Go.Ab
namespace Go.Ab
def Kt : Kn := ⟨fun f => bif Nat.beq f 9 then some true else none, fun _ => none, fun _ => none⟩
end Go.Ab
namespace Go.Ab
open Go.RowKit

def leafB : AV → Value → Bool
 | .int k n, .int k' m => k == k' && n == m
 | .bool a, .bool b => a == b
 | .str a, .string b => a.data == b.data
 | .nilp, .pointer none => true
 | .nils, .slice none 0 0 => true
 | .nilf, .nilFunc => true
 | .nili, .nilIface => true
 | .nilm, .map none => true
 | _, _ => false
theorem leafB_ok {u : AV} {v : Value} (h : leafB u v = true) : ofVal v = some u := by
 unfold leafB at h
 split at h
 case h_3 => simp only [beq_iff_eq] at h; simp [ofVal, ByteArray.ext h]
 all_goals simp_all [ofVal]
def zeroB : List AV → List Value → Bool
 | [], [] => true
 | u :: r, v :: r' => leafB u v && zeroB r r'
 | _, _ => false
theorem zeroB_len : ∀ {us : List AV} {vs : List Value}, zeroB us vs = true → vs.length = us.length
 | [], [], _ => rfl
 | u :: r, v :: r', h => by simp only [zeroB, Bool.and_eq_true] at h; simp [zeroB_len h.2]
 | [], _ :: _, h => by simp [zeroB] at h
 | _ :: _, [], h => by simp [zeroB] at h
theorem zeroB_get : ∀ {us : List AV} {vs : List Value}, zeroB us vs = true → ∀ (k : Nat) (u : AV) (v : Value), us[k]? = some u → vs[k]? = some v → ofVal v = some u
 | [], [], _, k, u, v, hu, _ => by simp at hu
 | u :: r, v :: r', h, k, x, y, hu, hv => by
  simp only [zeroB, Bool.and_eq_true] at h
  cases k with
  | zero => simp at hu hv; subst hu; subst hv; exact leafB_ok h.1
  | succ k => exact zeroB_get h.2 k x y (by simpa using hu) (by simpa using hv)
 | [], _ :: _, h, _, _, _, _, _ => by simp [zeroB] at h
 | _ :: _, [], h, _, _, _, _, _ => by simp [zeroB] at h

def fldsB (P : Program) : List (Nat × Nat × Bool) → List Field → Bool
 | [], [] => true
 | q :: r, f :: r' => f.offset == q.1 && (match P.info? f.type with | some ti => ti.size == q.2.1 | none => false) && (match P.underlying f.type with | some d => aggD d == q.2.2 | none => false) && fldsB P r r'
 | _, _ => false
theorem fldsB_len {P : Program} : ∀ {fs : List (Nat × Nat × Bool)} {gs : List Field}, fldsB P fs gs = true → gs.length = fs.length
 | [], [], _ => rfl
 | u :: r, v :: r', h => by simp only [fldsB, Bool.and_eq_true] at h; simp [fldsB_len h.2]
 | [], _ :: _, h => by simp [fldsB] at h
 | _ :: _, [], h => by simp [fldsB] at h
theorem fldsB_get {P : Program} : ∀ {fs : List (Nat × Nat × Bool)} {gs : List Field}, fldsB P fs gs = true → ∀ (k : Nat) (f : Field) (q : Nat × Nat × Bool), gs[k]? = some f → fs[k]? = some q →
  f.offset = q.1 ∧ (∃ ti, P.info? f.type = some ti ∧ ti.size = q.2.1) ∧ ∃ d, P.underlying f.type = some d ∧ aggD d = q.2.2
 | [], [], _, k, u, v, hu, _ => by simp at hu
 | u :: r, v :: r', h, k, x, y, hu, hv => by
  simp only [fldsB, Bool.and_eq_true] at h
  cases k with
  | zero =>
   simp at hu hv; subst hu; subst hv
   obtain ⟨⟨⟨h1, h2⟩, h3⟩, -⟩ := h
   refine ⟨by simpa using h1, ?_, ?_⟩
   ·split at h2
    ·exact ⟨_, ‹_›, by simpa using h2⟩
    ·cases h2
   ·split at h3
    ·exact ⟨_, ‹_›, by simpa using h3⟩
    ·cases h3
  | succ k => exact fldsB_get h.2 k x y (by simpa using hu) (by simpa using hv)
 | [], _ :: _, h, _, _, _, _, _ => by simp [fldsB] at h
 | _ :: _, [], h, _, _, _, _, _ => by simp [fldsB] at h

def shB (P : Program) (t : TypeId) (s : Sh) : Bool :=
 match s, P.underlying t with
 | .scalar, some d => !aggD d && !ifcD d
 | .iface, some (.interface _) => true
 | .text, some .string => true
 | .boolean, some .bool => true
 | .num k, some (.int k') => k == k'
 | .map k e, some (.map k' e') => k == k' && e == e'
 | .slice e, some (.slice e') => e == e'
 | .array n e, some (.array n' e') => n == n' && e == e'
 | .struct fs, some (.struct gs) => fldsB P fs gs.toList
 | _, _ => false
theorem shB_ok {P : Program} {t : TypeId} {s : Sh} (h : shB P t s = true) : ShOk P t s := by
 unfold shB at h
 split at h
 ·exact ⟨_, ‹_›, by simpa using h⟩
 ·exact ⟨_, ‹_›⟩
 ·assumption
 ·assumption
 ·simp only [beq_iff_eq] at h; subst h; assumption
 ·simp only [Bool.and_eq_true, beq_iff_eq] at h; obtain ⟨rfl, rfl⟩ := h; assumption
 ·simp only [beq_iff_eq] at h; subst h; assumption
 ·simp only [Bool.and_eq_true, beq_iff_eq] at h; obtain ⟨rfl, rfl⟩ := h; assumption
 ·rename_i fs gs hu
  refine ⟨gs, hu, by simpa using fldsB_len h, fun k f q hf hq => fldsB_get h k f q (by simpa using hf) hq⟩
 ·cases h

def flatFs (P : Program) : Nat → List AV → List Field → Bool
 | _, [], [] => true
 | k, c :: z, f :: r => f.name != "_" && f.offset == k && (match c, P.underlying f.type with | .int _ _, some (.int _) | .bool _, some .bool | .str _, some .string => true | _, _ => false) && flatFs P (k + 1) z r
 | _, _, _ => false
def flatB (P : Program) (t : TypeId) (z : List AV) : Bool :=
 !P.stoodInHeld t && !P.eqGuardType P.depth t && match P.underlying t with | some (.struct fs) => flatFs P 0 z fs.toList | _ => false

section
variable {P : Program} {w0 : World} {B0 : Nat} {ρ : Loc}
theorem run_part_cell {t : TypeId} {d : TypeDesc} (h : P.underlying t = some d) (hd : aggD d = false) {cs : Array Value} {off : Nat} {v : Value} (hv : cs[off]? = some v) (w : World) : (part t cs off).run P w = .ok v w := by
 unfold part
 simp [run_isAgg' h, hd, hv]
theorem eqf_cons' {d : Nat} {xs ys : Array Value} {f : Field} {fs : List Field} {a b : Value} {r s : Bool} {w : World} (hn : (f.name != "_") = true) (ha : (part f.type xs f.offset).run P w = .ok a w) (hb : (part f.type ys f.offset).run P w = .ok b w) (he : (Op.equalIn d f.type a b).run P w = .ok r w) (hr : (Op.eqFields d xs ys fs).run P w = .ok s w) : (Op.eqFields d xs ys (f :: fs)).run P w = .ok (r && s) w := by
 have hn' : f.name ≠ "_" := by simpa using hn
 rw [Op.eqFields]
 simp only [if_pos hn', Sem.run_bind, ha, hb, he, Result.andThen_ok]
 cases r
 ·simp
 ·simpa using hr
theorem flatEq_cons {c : AV} {z as0 bs : List AV} {q : Bool} (h : flatEq (c :: z) as0 bs = some q) : ∃ a b as0' bs' r s, as0 = a :: as0' ∧ bs = b :: bs' ∧ flatEq z as0' bs' = some s ∧ q = (r && s) ∧
  ((∃ k0 m0 k1 x y, c = .int k0 m0 ∧ a = .int k1 x ∧ b = .int k1 y ∧ r = (x == y)) ∨ (∃ m0 x y, c = .bool m0 ∧ a = .bool x ∧ b = .bool y ∧ r = (x == y)) ∨ (∃ m0 x y, c = .str m0 ∧ a = .str x ∧ b = .str y ∧ r = (x == y))) := by
 cases as0 with
 | nil => cases c <;> simp [flatEq] at h
 | cons a as0 =>
  cases bs with
  | nil => cases c <;> cases a <;> simp [flatEq] at h
  | cons b bs =>
   refine ⟨a, b, as0, bs, ?_⟩
   cases c with
   | int k0 m0 =>
    cases a with
    | int k x =>
     cases b with
     | int k' y =>
      simp only [flatEq] at h
      split at h
      ·subst k'
       cases hs : flatEq z as0 bs with
       | none => simp [hs] at h
       | some s =>
        simp only [hs, Option.map_some, sjj] at h
        exact ⟨_, s, rfl, rfl, rfl, h.symm, .inl ⟨_, _, _, _, _, rfl, rfl, rfl, rfl⟩⟩
      ·cases h
     | _ => simp [flatEq] at h
    | _ => simp [flatEq] at h
   | bool m0 =>
    cases a with
    | bool x =>
     cases b with
     | bool y =>
      simp only [flatEq] at h
      cases hs : flatEq z as0 bs with
      | none => simp [hs] at h
      | some s =>
       simp only [hs, Option.map_some, sjj] at h
       exact ⟨_, s, rfl, rfl, rfl, h.symm, .inr (.inl ⟨_, _, _, rfl, rfl, rfl, rfl⟩)⟩
     | _ => simp [flatEq] at h
    | _ => simp [flatEq] at h
   | str m0 =>
    cases a with
    | str x =>
     cases b with
     | str y =>
      simp only [flatEq] at h
      cases hs : flatEq z as0 bs with
      | none => simp [hs] at h
      | some s =>
       simp only [hs, Option.map_some, sjj] at h
       exact ⟨_, s, rfl, rfl, rfl, h.symm, .inr (.inr ⟨_, _, _, rfl, rfl, rfl, rfl⟩)⟩
     | _ => simp [flatEq] at h
    | _ => simp [flatEq] at h
   | _ => simp [flatEq] at h

theorem flatFs_ok {d : Nat} {xs ys : Array Value} {w : World} : ∀ {z : List AV} {fs : List Field} {as0 bs : List AV} {k : Nat} {q : Bool}, flatFs P k z fs = true → flatEq z as0 bs = some q →
  (∀ i u v, as0[i]? = some u → xs[k + i]? = some v → VR w0 B0 ρ u v) → (∀ i u v, bs[i]? = some u → ys[k + i]? = some v → VR w0 B0 ρ u v) → xs.size = k + as0.length → ys.size = k + bs.length →
  (Op.eqFields (d + 1) xs ys fs).run P w = .ok q w
 | [], [], as0, bs, k, q, _, h, _, _, _, _ => by
  cases as0 <;> cases bs <;> simp [flatEq] at h
  subst h
  simp [Op.eqFields]
 | [], _ :: _, _, _, _, _, h, _, _, _, _, _ => by simp [flatFs] at h
 | _ :: _, [], _, _, _, _, h, _, _, _, _, _ => by simp [flatFs] at h
 | c :: z, f :: fs, as0, bs, k, q, hf, h, hx, hy, lx, ly => by
  simp only [flatFs, Bool.and_eq_true, beq_iff_eq] at hf
  obtain ⟨⟨⟨h1, h2⟩, h3⟩, h4⟩ := hf
  have key : ∃ a b as0' bs' r s, as0 = a :: as0' ∧ bs = b :: bs' ∧ flatEq z as0' bs' = some s ∧ q = (r && s) ∧
    ∀ a' b', VR w0 B0 ρ a a' → VR w0 B0 ρ b b' → (∃ dd, P.underlying f.type = some dd ∧ aggD dd = false) ∧ (Op.equalIn (d + 1) f.type a' b').run P w = .ok r w := by
   obtain ⟨a, b, as0', bs', r, s, e1, e2, e3, e4, e5⟩ := flatEq_cons h
   refine ⟨a, b, as0', bs', r, s, e1, e2, e3, e4, fun a' b' ha hb => ?_⟩
   rcases e5 with ⟨k0, m0, k1, x, y, rfl, rfl, rfl, rfl⟩ | ⟨m0, x, y, rfl, rfl, rfl, rfl⟩ | ⟨m0, x, y, rfl, rfl, rfl, rfl⟩
   ·cases ha; cases hb
    cases hu : P.underlying f.type with
    | none => simp [hu] at h3
    | some dd => cases dd <;> simp [hu] at h3; exact ⟨⟨_, rfl, rfl⟩, by simp [Op.equalIn, run_underlying hu]⟩
   ·cases ha; cases hb
    cases hu : P.underlying f.type with
    | none => simp [hu] at h3
    | some dd => cases dd <;> simp [hu] at h3; exact ⟨⟨_, rfl, rfl⟩, by simp [Op.equalIn, run_underlying hu]⟩
   ·cases ha; cases hb
    cases hu : P.underlying f.type with
    | none => simp [hu] at h3
    | some dd => cases dd <;> simp [hu] at h3; exact ⟨⟨_, rfl, rfl⟩, by simp [Op.equalIn, run_underlying hu]⟩
  obtain ⟨a, b, as0', bs', r, s, rfl, rfl, hs, rfl, hk⟩ := key
  have hkx : k < xs.size := by simp at lx; omega
  have hky : k < ys.size := by simp at ly; omega
  have ex : xs[k]? = some xs[k] := by simp [hkx]
  have ey : ys[k]? = some ys[k] := by simp [hky]
  obtain ⟨⟨dd, hu, hdd⟩, he⟩ := hk _ _ (hx 0 a _ rfl ex) (hy 0 b _ rfl ey)
  subst h2
  refine eqf_cons' h1 (run_part_cell hu hdd ex w) (run_part_cell hu hdd ey w) he ?_
  refine flatFs_ok h4 hs (fun i u v hu hv => hx (i + 1) u v (by simpa using hu) (by rw [← hv]; congr 1; omega)) (fun i u v hu hv => hy (i + 1) u v (by simpa using hu) (by rw [← hv]; congr 1; omega)) ?_ ?_
  ·simp at lx; omega
  ·simp at ly; omega

theorem flatB_ok {t : TypeId} {z : List AV} (h : flatB P t z = true) : FlatOk P t z := by
 simp only [flatB, Bool.and_eq_true, Bool.not_eq_true'] at h
 obtain ⟨⟨h1, h2⟩, h3⟩ := h
 split at h3
 ·rename_i fs hu
  intro w0 B0 ρ as0 bs xs ys q w x y ha hb hq
  have hf : P.fieldsOf t = fs := by simp [Program.fieldsOf, hu]
  have he : (Op.equal t (.agg xs) (.agg ys)).run P w = .ok q w := by
   unfold Op.equal
   show (Op.equalIn (9999 + 1) t (.agg xs) (.agg ys)).run P w = _
   rw [run_equalIn_struct (P := P) (w := w) 9999 t xs ys (by rw [hf]; exact hu) h1, hf]
   exact flatFs_ok (d := 9998) (w0 := w0) (B0 := B0) (ρ := ρ) (k := 0) h3 hq (fun i u v hu hv => ha.2 i u v hu (by simpa using hv)) (fun i u v hu hv => hb.2 i u v hu (by simpa using hv))
    (by have := ha.1; simp at this; omega) (by have := hb.1; simp at this; omega)
  constructor
  ·simp [eqGuard, h2, binOp, he]
  ·simp [eqGuard, h2, binOp, he]
 ·cases h3

def tiB (P : Program) (t : TypeId) (i : TI) : Bool :=
 (match P.info? t with
   | none => false
   | some ti => ti.size == i.size && ti.bytes == i.bytes && match ti.zero with | none => false | some z => zeroB i.zero z.cells.toList && match z with | .agg _ => i.sh.isAgg | .tuple _ => false | _ => !i.sh.isAgg) &&
 shB P t i.sh && i.zero.length == i.size && (!i.flat || flatB P t i.zero)
theorem tiB_ok {t : TypeId} {i : TI} (h : tiB P t i = true) : TiOk P t i := by
 simp only [tiB, Bool.and_eq_true, beq_iff_eq, Bool.or_eq_true, Bool.not_eq_true'] at h
 obtain ⟨⟨⟨h1, h2⟩, h3⟩, h4⟩ := h
 split at h1
 ·cases h1
 ·rename_i ti hti
  simp only [Bool.and_eq_true, beq_iff_eq] at h1
  obtain ⟨⟨h5, h6⟩, h7⟩ := h1
  split at h7
  ·cases h7
  ·rename_i z hz
   simp only [Bool.and_eq_true] at h7
   obtain ⟨h7, h8⟩ := h7
   refine ⟨?_, shB_ok h2, h3, fun ti' z' hti' hz' => ?_, fun hf => flatB_ok (by rcases h4 with h | h; (rw [hf] at h; cases h); exact h)⟩
   rotate_left
   ·rw [hti] at hti'
    cases hti'
    rw [hz] at hz'
    cases hz'
    split at h8
    ·exact ⟨fun _ => ⟨_, rfl⟩, fun hf => by rw [hf] at h8; cases h8⟩
    ·cases h8
    ·rename_i n1 n2
     refine ⟨fun hf => (by rw [hf] at h8; cases h8), fun _ => ?_⟩
     cases z with
     | agg arr => exact absurd rfl (n1 arr)
     | tuple arr => exact absurd rfl (n2 arr)
     | _ => rfl
   exact ⟨ti, z, hti, h5, h6, hz, by simpa using zeroB_len h7, fun k u v hu hv => zeroB_get h7 k u v hu (by simpa using hv)⟩
end

def treeB (P : Program) : Tr TI → Nat → Nat → Bool
 | .leaf, _, _ => true
 | .node v l r, s, k => (match v with | some i => tiB P k i | none => true) && treeB P l (2 * s) (k + s) && treeB P r (2 * s) (k + 2 * s)
theorem treeB_ok {P : Program} : ∀ {tr : Tr TI} {s k j : Nat} {i : TI}, treeB P tr s k = true → tr.get j = some i → TiOk P (k + s * j) i
 | .leaf, _, _, _, _, _, h => by simp [Tr.get_leaf] at h
 | .node v l r, s, k, j, i, h, hg => by
  simp only [treeB, Bool.and_eq_true] at h
  obtain ⟨⟨h1, h2⟩, h3⟩ := h
  rw [Tr.get_node] at hg
  cases hj : Nat.beq j 0 with
  | true =>
   have : j = 0 := Nat.eq_of_beq_eq_true hj
   subst this
   simp only [hj, cond_true] at hg
   subst hg
   simpa using tiB_ok h1
  | false =>
   have hj0 : j ≠ 0 := fun e => by subst e; cases hj
   simp only [hj, cond_false] at hg
   cases hm : Nat.beq (j % 2) 1 with
   | true =>
    have hm' : j % 2 = 1 := Nat.eq_of_beq_eq_true hm
    simp only [hm, cond_true] at hg
    have := treeB_ok h2 hg
    have e : k + s + 2 * s * (j / 2) = k + s * j := by
     have : j = 2 * (j / 2) + 1 := by omega
     conv => rhs; rw [this]
     rw [Nat.mul_add, ← Nat.mul_assoc, Nat.mul_comm s 2]; omega
    rwa [e] at this
   | false =>
    have hm' : j % 2 = 0 := by
     have : j % 2 ≠ 1 := fun e => by rw [e] at hm; cases hm
     omega
    simp only [hm, cond_false] at hg
    have := treeB_ok h3 hg
    have e : k + 2 * s + 2 * s * (j / 2 - 1) = k + s * j := by
     have : j = 2 * (j / 2 - 1) + 2 := by omega
     conv => rhs; rw [this]
     rw [Nat.mul_add, ← Nat.mul_assoc, Nat.mul_comm s 2]; omega
    rwa [e] at this
theorem tab_ok {P : Program} {tr : Tr TI} (h : treeB P tr 1 0 = true) : TabOk P tr.get := fun t i hi => by simpa using treeB_ok h hi

def ngB (P : Program) : Bool := P.funcs.toList.all fun fn => !(fn.name == "runtime.NumGoroutine")
theorem ng_ok {P : Program} (h : ngB P = true) : NoNG P := by
 intro f fn hf
 simp only [ngB, aet] at h
 have := h fn (by rw [List.mem_iff_getElem?]; exact ⟨f, by simpa using hf⟩)
 simpa using this
end Go.Ab
namespace Go.Ab
open Go.RowKit
theorem GlOk.none (w0 : World) (B0 : Nat) : GlOk w0 B0 fun _ => none := fun _ _ _ h => by cases h
def yes (r : Option (End × St)) : Bool := match r with
 | some (.ret (.bool b), _) => b
 | _ => false
theorem closed_run {P : Program} {T : Tab} {K : Kn} (w : World) (hgl : GlOk w w.heap.size K.gl) (hm : P.follows .mixedOrders = true) (hT : TabOk P T) (hng : NoNG P) (hK : KOk P w w.heap.size K) {n : Nat} {f : FuncId} (hf : f < yb) (hx : K.ext f = none) (h : yes (evX P T K n f [] ⟨0, .leaf, []⟩) = true) :
  Calls P f #[] w fun e w' => e = .returned (.bool true) ∧ Below w.heap.size w w' := by
 cases n with
 | zero => simp [evX, yes] at h
 | succ n =>
 cases hr : evX P T K (n + 1) f [] ⟨0, .leaf, []⟩ with
 | none => simp [hr, yes] at h
 | some r =>
  obtain ⟨e, s'⟩ := r
  cases e with
  | pan v => simp [hr, yes] at h
  | ret v =>
   cases v with
   | bool b =>
    simp only [hr, yes] at h
    subst h
    have hs : Sim w w.heap.size (fun _ _ => none) ⟨0, .leaf, []⟩ w :=
     { low := Below.refl _ _, big := nlr _,
       ver := by intros; simp_all, al := by intros; simp_all, sep := by intros; simp_all, ctr := by intros; simp_all }
    refine (callsIn_wide.1 ((call_left (w0 := w) (B0 := w.heap.size) hgl hm hT hng hK (call_sound hgl hm hT hng hK n) hf hx hr).2 _ w #[] hs CR.nil)).mono fun e w' hp => ?_
    obtain ⟨ρ', _, h2, hp⟩ := hp
    cases e with
    | returned v' => cases (show VR w w.heap.size ρ' (.bool true) v' from hp); exact ⟨rfl, h2.low⟩
    | _ => exact hp.elim
   | _ => simp [hr, yes] at h
theorem closed_call {P : Program} {T : Tab} {K : Kn} (w : World) (hgl : GlOk w w.heap.size K.gl) (hm : P.follows .mixedOrders = true) (hT : TabOk P T) (hng : NoNG P) (hK : KOk P w w.heap.size K) {n : Nat} {f : FuncId} (hf : f < yb) (hx : K.ext f = none) {args : List AV} {args' : Array Value} (ha : CR w w.heap.size (fun _ _ => none) args args'.toList)
  {v : AV} {s' : St} (h : evX P T K (n + 1) f args ⟨0, .leaf, []⟩ = some (.ret v, s')) :
  Callable P f ∧ Calls P f args' w fun e w' => ∃ ρ' v', e = .returned v' ∧ VR w w.heap.size ρ' v v' ∧ Below w.heap.size w w' := by
 have hs : Sim w w.heap.size (fun _ _ => none) ⟨0, .leaf, []⟩ w :=
  { low := Below.refl _ _, big := nlr _,
    ver := by intros; simp_all, al := by intros; simp_all, sep := by intros; simp_all, ctr := by intros; simp_all }
 have hl := call_left (w0 := w) (B0 := w.heap.size) hgl hm hT hng hK (call_sound hgl hm hT hng hK n) hf hx h
 refine ⟨hl.1, (callsIn_wide.1 (hl.2 _ w args' hs ha)).mono fun e w' hp => ?_⟩
 obtain ⟨ρ', _, h2, hp⟩ := hp
 cases e with
 | returned v' => exact ⟨ρ', v', rfl, hp, h2.low⟩
 | _ => exact hp.elim
end Go.Ab
