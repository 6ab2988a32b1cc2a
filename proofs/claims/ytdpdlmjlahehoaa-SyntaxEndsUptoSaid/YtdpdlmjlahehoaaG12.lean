/- A region that draws its order ends as the text's order does. -/
import Derived.Test.YtdpdlmjlahehoaaG11
namespace Go.Ab
open Go.RowKit
section
variable {P : Program} {w0 : World} {B0 : Nat} {T : Tab}
variable {call : FuncId → List AV → St → Option (AV × St)}

/-! ### what must come ahead -/
def bef (acc : Array Nat) (o : Oper) : Nat := o.after.foldl (fun s e => if Region.binds .any e then s ||| 2 ^ e.on ||| acc.getD e.on 0 else s) 0
theorem before_eq (ops : Array Oper) : Region.before ops = ops.foldl (init := #[]) fun acc o => acc.push (bef acc o) := rfl
theorem bef_bit {acc : Array Nat} {o : Oper} {i : Nat} (h : (bef acc o).testBit i = true) : ∃ e ∈ o.after, Region.binds .any e = true ∧ (e.on = i ∨ (acc.getD e.on 0).testBit i = true) := by
  unfold bef at h
  rw [← Array.foldl_toList] at h
  have key : ∀ (l : List Edge) (s : Nat), (l.foldl (fun s e => if Region.binds .any e then s ||| 2 ^ e.on ||| acc.getD e.on 0 else s) s).testBit i = true →
      s.testBit i = true ∨ ∃ e ∈ l, Region.binds .any e = true ∧ (e.on = i ∨ (acc.getD e.on 0).testBit i = true) := by
    intro l
    induction l with
    | nil => intro s h; exact .inl h
    | cons e l ih =>
      intro s h
      rw [List.foldl_cons] at h
      rcases ih _ h with h | ⟨e', he', h1, h2⟩
      · split at h
        · rename_i hb
          rw [Nat.testBit_or, Nat.testBit_or, Bool.or_eq_true, Bool.or_eq_true] at h
          rcases h with (h | h) | h
          · exact .inl h
          · refine .inr ⟨e, by simp, hb, .inl ?_⟩
            rw [Nat.testBit_two_pow] at h
            simpa using h
          · exact .inr ⟨e, by simp, hb, .inr h⟩
        · exact .inl h
      · exact .inr ⟨e', by simp [he'], h1, h2⟩
  rcases key _ _ h with h | ⟨e, he, h⟩
  · simp at h
  · exact ⟨e, by simpa using he, h⟩
theorem before_list : ∀ (l : List Oper) (acc : Array Nat), let r := l.foldl (fun acc o => acc.push (bef acc o)) acc
    r.size = acc.size + l.length ∧ (∀ j, j < acc.size → r[j]? = acc[j]?) ∧ ∀ j o, l[j]? = some o → ∃ pre : Array Nat, pre.size = acc.size + j ∧ (∀ k, k < pre.size → pre[k]? = r[k]?) ∧ r[acc.size + j]? = some (bef pre o)
  | [], acc => ⟨rfl, fun _ _ => rfl, fun j o h => by simp at h⟩
  | o :: l, acc => by
    obtain ⟨h1, h2, h3⟩ := before_list l (acc.push (bef acc o))
    simp only [List.foldl_cons]
    rw [Array.size_push] at h1 h2 h3
    refine ⟨by rw [h1, List.length_cons]; omega, fun j hj => ?_, fun j o' ho => ?_⟩
    · rw [h2 j (by omega), Array.getElem?_push, if_neg (by omega)]
    · cases j with
      | zero =>
        simp only [List.getElem?_cons_zero, Option.some.injEq] at ho
        subst ho
        refine ⟨acc, rfl, fun k hk => ?_, ?_⟩
        · rw [h2 k (by omega), Array.getElem?_push, if_neg (by omega)]
        · rw [Nat.add_zero, h2 _ (by omega), Array.getElem?_push, if_pos rfl]
      | succ j =>
        simp only [List.getElem?_cons_succ] at ho
        obtain ⟨pre, k1, k2, k3⟩ := h3 j o' ho
        exact ⟨pre, by omega, k2, by rw [show acc.size + (j + 1) = acc.size + 1 + j by omega]; exact k3⟩
theorem before_spec {ops : Array Oper} {j : Nat} {o : Oper} (ho : ops[j]? = some o) {i : Nat} (h : aheadB (Region.before ops) i j = true) :
    ∃ e ∈ o.after, Region.binds .any e = true ∧ (e.on = i ∨ (e.on < j ∧ aheadB (Region.before ops) i e.on = true)) := by
  have hl := before_list ops.toList #[]
  simp only [Array.size_empty, Nat.zero_add] at hl
  obtain ⟨_, _, h3⟩ := hl
  obtain ⟨pre, k1, k2, k3⟩ := h3 j o (by simpa using ho)
  have hr : ops.toList.foldl (fun acc o => acc.push (bef acc o)) #[] = Region.before ops := by rw [before_eq, ← Array.foldl_toList]
  rw [hr] at k2 k3
  unfold aheadB at h
  simp only [Array.getD_eq_getD_getElem?, k3, Option.getD_some] at h
  obtain ⟨e, he, hb, h⟩ := bef_bit h
  refine ⟨e, he, hb, h.imp id fun h => ?_⟩
  by_cases hlt : e.on < j
  · refine ⟨hlt, ?_⟩
    unfold aheadB
    rw [Array.getD_eq_getD_getElem?, ← k2 e.on (by omega), ← Array.getD_eq_getD_getElem?]
    exact h
  · rw [Array.getD_eq_getD_getElem?, Array.getElem?_eq_none (by omega)] at h
    simp at h

/-- Listed operations have what must come ahead of them listed. -/
def Closed (ops : Array Oper) (L : Array Bool) : Prop := ∀ j o, ops[j]? = some o → L.getD j false = true → ∀ e ∈ o.after, Region.binds .any e = true → L.getD e.on false = true
theorem ahead_listed {ops : Array Oper} {L : Array Bool} (hc : Closed ops L) : ∀ (j : Nat) (o : Oper), ops[j]? = some o → (∀ e ∈ o.after, Region.binds .any e = true → L.getD e.on false = true) → ∀ i, aheadB (Region.before ops) i j = true → L.getD i false = true := by
  intro j
  induction j using Nat.strongRecOn with
  | _ j ih =>
    intro o ho hp i h
    obtain ⟨e, he, hb, h⟩ := before_spec ho h
    have hl := hp e he hb
    rcases h with h | ⟨hlt, h⟩
    · rw [← h]; exact hl
    · have hs : e.on < ops.size := by have := (Array.getElem?_eq_some_iff.1 ho).1; omega
      exact ih e.on hlt ops[e.on] (by simp [hs]) (hc e.on _ (by simp [hs]) hl) i h

/-! ### one step, whatever the heap -/
theorem looks_ops {ops : Array Oper} {o : Oper} {t t' : TL} (h : Agree t t' (o.looksAt ops)) : Agree t t' (tmpsOf o.op.operands.toList) := h.sub fun d hd => by
  unfold Oper.looksAt
  rw [List.mem_append]
  exact .inl hd
theorem guard_congr {ops : Array Oper} {o : Oper} {t t' : TL} (h : Agree t t' (o.looksAt ops)) : guardA ops t o.guard = guardA ops t' o.guard := by
  unfold guardA
  cases hg : o.guard with
  | none => rfl
  | some g =>
    obtain ⟨j, want⟩ := g
    simp only
    cases hd : (ops[j]?).bind (·.dst) with
    | none => rfl
    | some d =>
      simp only
      have : t.get d = t'.get d := h d (by unfold Oper.looksAt; rw [List.mem_append]; right; simp [hg, hd])
      rw [this]
/-- The same state: the same answer. -/
theorem step_same {ops : Array Oper} {o : Oper} {t t1 t' : TL} {s s1 : St} (h : evStep T call ops o t s = some (t1, s1)) (ha : Agree t t' (o.looksAt ops)) :
    ∃ v, t1 = putA t o.dst v ∧ evStep T call ops o t' s = some (putA t' o.dst v, s1) := by
  unfold evStep at h ⊢
  rw [← guard_congr ha, ← evOp_congr (looks_ops ha) s]
  cases hg : guardA ops t o.guard with
  | none => simp [hg] at h
  | some b =>
    cases b with
    | false =>
      simp only [hg, Option.some.injEq, Prod.mk.injEq] at h ⊢
      obtain ⟨rfl, rfl⟩ := h
      exact ⟨.undef, rfl, by simp⟩
    | true =>
      simp only [hg] at h ⊢
      cases hop : evOp T o.op t s with
      | none => simp [hop] at h
      | some rs =>
        obtain ⟨r, s2⟩ := rs
        cases r with
        | val v =>
          simp only [hop, Option.some.injEq, Prod.mk.injEq] at h ⊢
          obtain ⟨rfl, rfl⟩ := h
          exact ⟨v, rfl, by simp⟩
        | skip =>
          simp only [hop, Option.some.injEq, Prod.mk.injEq] at h ⊢
          obtain ⟨rfl, rfl⟩ := h
          exact ⟨.undef, rfl, by simp⟩
        | call f args =>
          simp only [hop] at h ⊢
          cases hc : call f args s2 with
          | none => simp [hc] at h
          | some vs =>
            obtain ⟨v, s3⟩ := vs
            simp only [hc, Option.some.injEq, Prod.mk.injEq] at h ⊢
            obtain ⟨rfl, rfl⟩ := h
            exact ⟨v, rfl, by simp⟩
/-- What turns nothing, over any heap that has what it reads. -/
theorem step_still {ops : Array Oper} {o : Oper} {t t1 t' : TL} {s s1 s' : St} (he : Op.eff o.op = false) (h : evStep T call ops o t s = some (t1, s1)) (ha : Agree t t' (o.looksAt ops))
    (hr : ∀ g, guardA ops t o.guard = some true → readsA t o.op = some g → s'.get g = s.get g) : s1 = s ∧ ∃ v, t1 = putA t o.dst v ∧ evStep T call ops o t' s' = some (putA t' o.dst v, s') := by
  unfold evStep at h ⊢
  rw [← guard_congr ha]
  cases hg : guardA ops t o.guard with
  | none => simp [hg] at h
  | some b =>
    cases b with
    | false =>
      simp only [hg, Option.some.injEq, Prod.mk.injEq] at h ⊢
      obtain ⟨rfl, rfl⟩ := h
      exact ⟨rfl, .undef, rfl, by simp⟩
    | true =>
      simp only [hg] at h ⊢
      cases hop : evOp T o.op t s with
      | none => simp [hop] at h
      | some rs =>
        obtain ⟨r, s2⟩ := rs
        obtain ⟨rfl, v, rfl⟩ := still_op hop he
        have h2 := evOp_heap (s' := s') he hop (fun g hg' => hr g hg hg')
        rw [← evOp_congr (looks_ops ha) s', h2]
        simp only [hop, Option.some.injEq, Prod.mk.injEq] at h ⊢
        obtain ⟨rfl, rfl⟩ := h
        exact ⟨rfl, v, rfl, by simp⟩

/-! ### the early groups -/
theorem eqB_ok {x y : AV} (h : AV.eqB x y = true) : x = y := by
  unfold AV.eqB at h
  split at h
  case h_3 => simp only [beq_iff_eq] at h; rw [ByteArray.ext h]
  all_goals simp_all
theorem eqBs_ok : ∀ {xs ys : List AV}, AV.eqBs xs ys = true → xs = ys
  | [], [], _ => rfl
  | x :: r, y :: r', h => by
    simp only [AV.eqBs, Bool.and_eq_true] at h
    rw [eqB_ok h.1, eqBs_ok h.2]
  | [], _ :: _, h => by simp [AV.eqBs] at h
  | _ :: _, [], h => by simp [AV.eqBs] at h
theorem earlyVal_congr {ops : Array Oper} {o : Oper} {t t' : TL} (h : Agree t t' (o.looksAt ops)) (c : Nat) (cs : List AV) : earlyVal T ops o t c cs = earlyVal T ops o t' c cs := by
  have hop : ∀ s, evOp T o.op t s = evOp T o.op t' s := fun s => evOp_congr (looks_ops h) s
  unfold earlyVal
  rw [guard_congr h]
  cases guardA ops t' o.guard with
  | none => rfl
  | some q =>
    cases q with
    | false => rfl
    | true =>
      simp only
      cases hq : o.op <;> simp only <;> (rw [hq] at hop; rw [hop])
theorem early_run {P : Program} {w0 : World} {B0 : Nat} {ρ : Loc} {a : Act} {w : World} {b : Bool} {ops : Array Oper} {o : Oper} {t : TL} {c : Nat} {cs : List AV} {v : AV} (hT : TabOk P T) (ht : TR w0 B0 ρ t a.tmps) (he : Oper.early b o = true)
    (hz : earlyCells T cs o.op = some cs) (hlf : cs.all AV.leaf = true) (hg : guardA ops t o.guard = some true) (hv : earlyVal T ops o t c cs = some v) : EarlyRun P w0 B0 ρ a o w c cs v := by
  unfold earlyVal at hv
  rw [hg] at hv
  simp only at hv
  have other : (∀ (r : Res) (s' : St), evOp T o.op t ⟨c, .leaf, []⟩ = some (r, s') → ∃ v cs, r = .val v ∧ s' = (⟨c, .leaf, []⟩ : St).newG ⟨[⟨cs, 0, none⟩]⟩ ∧ EarlyRun P w0 B0 ρ a o w c cs v) →
      (match evOp T o.op t ⟨c, .leaf, []⟩ with
        | some (.val v, s1) => match s1.get c with
          | some ⟨[⟨cs', 0, none⟩]⟩ => if AV.eqBs cs' cs then some v else none
          | _ => none
        | _ => none) = some v → EarlyRun P w0 B0 ρ a o w c cs v := by
    intro h2 hv
    split at hv
    · rename_i v1 s1 hop
      obtain ⟨v2, cs2, e1, e2, h3⟩ := h2 _ _ hop
      cases e1
      subst e2
      have hg : ((⟨c, .leaf, []⟩ : St).newG ⟨[⟨cs2, 0, none⟩]⟩).get c = some ⟨[⟨cs2, 0, none⟩]⟩ := St.get_newG_eq _ _
      rw [hg] at hv
      split at hv
      · rename_i cs' hcs
        simp only [Option.some.injEq, Grp.mk.injEq, List.cons.injEq, Ver.mk.injEq, and_true] at hcs
        subst hcs
        split at hv
        · rename_i hq
          simp only [Option.some.injEq] at hv
          subst hv
          obtain rfl := eqBs_ok hq
          exact h3
        · cases hv
      · cases hv
    · cases hv
  cases hop : o.op with
  | alloc e =>
    rw [hop] at hv hz
    simp only [Option.some.injEq] at hv
    subst hv
    simp only [earlyCells] at hz
    cases hti : T e with
    | none => simp [hti] at hz
    | some ti =>
      simp only [hti, Option.some.injEq] at hz
      subst hz
      exact e_alloc hT hop hti hlf c
  | box e x =>
    refine other (fun r s' h => e_box ht hop h) ?_
    rw [hop] at hv ⊢
    exact hv
  | buildSlice tt len parts =>
    refine other (fun r s' h => e_buildSlice hT ht hop h) ?_
    rw [hop] at hv ⊢
    exact hv
  | _ => unfold Oper.early at he; rw [hop] at he; simp at he

structure HoistS (b : Bool) (T : Tab) (l : List Oper) (s s' : St) (hs : List (Option (Nat × List AV))) : Prop where
  len : hs.length = l.length
  lt : ∀ (i c : Nat) (cs : List AV), hs[i]? = some (some (c, cs)) → s.ctr ≤ c ∧ c < s'.ctr
  inj : ∀ (i j c : Nat) (cs cs' : List AV), hs[i]? = some (some (c, cs)) → hs[j]? = some (some (c, cs')) → i = j
  ear : ∀ (i : Nat) (o : Oper) (c : Nat) (cs : List AV), l[i]? = some o → hs[i]? = some (some (c, cs)) → Oper.early b o = true ∧ earlyCells T cs o.op = some cs ∧ cs.all AV.leaf = true ∧ s'.get c = some ⟨[⟨cs, 0, none⟩]⟩
  late : ∀ (i : Nat) (o : Oper), l[i]? = some o → hs[i]? = some none → Oper.early b o = false
theorem hoist_keep {b : Bool} : ∀ (l : List Oper) (gs : List (List AV)) (s s' : St) (hs : List (Option (Nat × List AV))), hoist b T l gs s = some (s', hs) → ∀ g, g < s.ctr → s'.get g = s.get g := by
  intro l
  induction l with
  | nil => intro gs s s' hs h g _; simp only [hoist, Option.some.injEq, Prod.mk.injEq] at h; obtain ⟨rfl, _⟩ := h; rfl
  | cons o l ih =>
    intro gs s s' hs h g hg
    simp only [hoist] at h
    repeat' split at h
    all_goals first
      | (cases h; done)
      | (rename_i h2; simp only [Option.some.injEq, Prod.mk.injEq] at h; obtain ⟨rfl, _⟩ := h; first | (rw [ih _ _ _ _ h2 g (by simp [St.newG]; omega)]; exact St.get_newG_ne _ _ (by omega)) | exact ih _ _ _ _ h2 g hg)
theorem hoist_spec {b : Bool} : ∀ (l : List Oper) (gs : List (List AV)) (s s' : St) (hs : List (Option (Nat × List AV))), hoist b T l gs s = some (s', hs) → HoistS b T l s s' hs
  | [], gs, s, s', hs, h => by
    simp only [hoist, Option.some.injEq, Prod.mk.injEq] at h
    obtain ⟨rfl, rfl⟩ := h
    exact ⟨rfl, fun i c cs h => by simp at h, fun i j c cs cs' h => by simp at h, fun i o c cs h => by simp at h, fun i o h => by simp at h⟩
  | o :: l, gs, s, s', hs, h => by
    simp only [hoist] at h
    split at h
    · rename_i hearly
      split at h
      · cases h
      · rename_i zs hzs
        split at h
        · rename_i hlf
          split at h
          · cases h
          · rename_i s2 l2 h2
            simp only [Option.some.injEq, Prod.mk.injEq] at h
            obtain ⟨rfl, rfl⟩ := h
            have ih := hoist_spec l _ _ _ _ h2
            have hx := Ext.hoist l _ h2
            have hc : (s.newG ⟨[⟨zs, 0, none⟩]⟩).ctr = s.ctr + 1 := rfl
            refine ⟨by simp [ih.len], fun i c cs hi => ?_, fun i j c cs cs' hi hj => ?_, fun i o' c cs ho hi => ?_, fun i o' ho hi => ?_⟩
            · cases i with
              | zero => simp only [List.getElem?_cons_zero, Option.some.injEq, Prod.mk.injEq] at hi; obtain ⟨rfl, _⟩ := hi; have := hx.ctr; omega
              | succ i => have := ih.lt i c cs (by simpa using hi); omega
            · cases i with
              | zero =>
                cases j with
                | zero => rfl
                | succ j =>
                  simp only [List.getElem?_cons_zero, Option.some.injEq, Prod.mk.injEq] at hi
                  have := ih.lt j c cs' (by simpa using hj)
                  omega
              | succ i =>
                cases j with
                | zero =>
                  simp only [List.getElem?_cons_zero, Option.some.injEq, Prod.mk.injEq] at hj
                  have := ih.lt i c cs (by simpa using hi)
                  omega
                | succ j => have := ih.inj i j c cs cs' (by simpa using hi) (by simpa using hj); omega
            · cases i with
              | zero =>
                simp only [List.getElem?_cons_zero, Option.some.injEq, Prod.mk.injEq] at ho hi
                obtain ⟨rfl, rfl⟩ := hi
                subst ho
                refine ⟨hearly, ?_, hlf, ?_⟩
                · cases hop : o.op with
                  | alloc e => rw [hop] at hzs; simpa [earlyCells] using hzs
                  | _ => simp [earlyCells]
                · rw [hoist_keep l _ _ _ _ h2 s.ctr (by rw [hc]; omega)]
                  exact St.get_newG_eq _ _
              | succ i => exact ih.ear i o' c cs (by simpa using ho) (by simpa using hi)
            · cases i with
              | zero => simp at hi
              | succ i => exact ih.late i o' (by simpa using ho) (by simpa using hi)
        · cases h
    · rename_i hearly
      split at h
      · cases h
      · rename_i s2 l2 h2
        simp only [Option.some.injEq, Prod.mk.injEq] at h
        obtain ⟨rfl, rfl⟩ := h
        have ih := hoist_spec l _ _ _ _ h2
        refine ⟨by simp [ih.len], fun i c cs hi => ?_, fun i j c cs cs' hi hj => ?_, fun i o' c cs ho hi => ?_, fun i o' ho hi => ?_⟩
        · cases i with
          | zero => simp at hi
          | succ i => exact ih.lt i c cs (by simpa using hi)
        · cases i with
          | zero => simp at hi
          | succ i =>
            cases j with
            | zero => simp at hj
            | succ j => have := ih.inj i j c cs cs' (by simpa using hi) (by simpa using hj); omega
        · cases i with
          | zero => simp at hi
          | succ i => exact ih.ear i o' c cs (by simpa using ho) (by simpa using hi)
        · cases i with
          | zero =>
            simp only [List.getElem?_cons_zero, Option.some.injEq] at ho
            subst ho
            simpa using hearly
          | succ i => exact ih.late i o' (by simpa using ho) (by simpa using hi)
end
end Go.Ab
