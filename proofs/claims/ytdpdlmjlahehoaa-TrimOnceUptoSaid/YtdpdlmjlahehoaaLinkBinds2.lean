/- Parts of one proof, put together: G12 G13 G14 GU GV GT CK GF G15 GK H1 H2 H3 H4 H5 H6 H7 H8 D1 D2 D3 D10 D4 D11 D12. -/
import Derived.Test.YtdpdlmjlahehoaaLinkBinds1
import Derived.Test.YtdpdlmjlahehoaaProg
import Derived.Laws.StructEq
/- A region that draws its order ends as the text's order does. -/
namespace Go.Ab
open Go.RowKit
section
variable {P : Program} {w0 : World} {B0 : Nat} {T : Tab}
variable {call : FuncId → List AV → St → Option (AV × St)}

/-! ### what must come ahead -/
def bef (acc : Array Nat) (o : Oper) : Nat := o.after.foldl (fun s e => if Region.binds .any e then s ||| 2 ^ e.on ||| acc.getD e.on 0 else s) 0
theorem before_eq (ops : Array Oper) : Region.before ops = ops.foldl (init := #[]) fun acc o => acc.push (bef acc o) := rfl
theorem bef_bit {acc : Array Nat} {o : Oper} {i : Nat} (h : (bef acc o).testBit i = true) : ∃ e ∈ o.after, Region.binds .any e = true ∧ (e.on = i ∨ (acc.getD e.on 0).testBit i = true) := by
  unfold bef at h
  rw [← Array.foldl_toList] at h
  have key : ∀ (l : List Edge) (s : Nat), (l.foldl (fun s e => if Region.binds .any e then s ||| 2 ^ e.on ||| acc.getD e.on 0 else s) s).testBit i = true →
      s.testBit i = true ∨ ∃ e ∈ l, Region.binds .any e = true ∧ (e.on = i ∨ (acc.getD e.on 0).testBit i = true) := by
    intro l
    induction l with
    | nil => intro s h; exact .inl h
    | cons e l ih =>
      intro s h
      rw [List.foldl_cons] at h
      rcases ih _ h with h | ⟨e', he', h1, h2⟩
      · split at h
        · rename_i hb
          rw [Nat.testBit_or, Nat.testBit_or, Bool.or_eq_true, Bool.or_eq_true] at h
          rcases h with (h | h) | h
          · exact .inl h
          · refine .inr ⟨e, by simp, hb, .inl ?_⟩
            rw [Nat.testBit_two_pow] at h
            simpa using h
          · exact .inr ⟨e, by simp, hb, .inr h⟩
        · exact .inl h
      · exact .inr ⟨e', by simp [he'], h1, h2⟩
  rcases key _ _ h with h | ⟨e, he, h⟩
  · simp at h
  · exact ⟨e, by simpa using he, h⟩
theorem before_list : ∀ (l : List Oper) (acc : Array Nat), let r := l.foldl (fun acc o => acc.push (bef acc o)) acc
    r.size = acc.size + l.length ∧ (∀ j, j < acc.size → r[j]? = acc[j]?) ∧ ∀ j o, l[j]? = some o → ∃ pre : Array Nat, pre.size = acc.size + j ∧ (∀ k, k < pre.size → pre[k]? = r[k]?) ∧ r[acc.size + j]? = some (bef pre o)
  | [], acc => ⟨rfl, fun _ _ => rfl, fun j o h => by simp at h⟩
  | o :: l, acc => by
    obtain ⟨h1, h2, h3⟩ := before_list l (acc.push (bef acc o))
    simp only [List.foldl_cons]
    rw [Array.size_push] at h1 h2 h3
    refine ⟨by rw [h1, List.length_cons]; omega, fun j hj => ?_, fun j o' ho => ?_⟩
    · rw [h2 j (by omega), Array.getElem?_push, if_neg (by omega)]
    · cases j with
      | zero =>
        simp only [List.getElem?_cons_zero, Option.some.injEq] at ho
        subst ho
        refine ⟨acc, rfl, fun k hk => ?_, ?_⟩
        · rw [h2 k (by omega), Array.getElem?_push, if_neg (by omega)]
        · rw [Nat.add_zero, h2 _ (by omega), Array.getElem?_push, if_pos rfl]
      | succ j =>
        simp only [List.getElem?_cons_succ] at ho
        obtain ⟨pre, k1, k2, k3⟩ := h3 j o' ho
        exact ⟨pre, by omega, k2, by rw [show acc.size + (j + 1) = acc.size + 1 + j by omega]; exact k3⟩
theorem before_spec {ops : Array Oper} {j : Nat} {o : Oper} (ho : ops[j]? = some o) {i : Nat} (h : aheadB (Region.before ops) i j = true) :
    ∃ e ∈ o.after, Region.binds .any e = true ∧ (e.on = i ∨ (e.on < j ∧ aheadB (Region.before ops) i e.on = true)) := by
  have hl := before_list ops.toList #[]
  simp only [Array.size_empty, Nat.zero_add] at hl
  obtain ⟨_, _, h3⟩ := hl
  obtain ⟨pre, k1, k2, k3⟩ := h3 j o (by simpa using ho)
  have hr : ops.toList.foldl (fun acc o => acc.push (bef acc o)) #[] = Region.before ops := by rw [before_eq, ← Array.foldl_toList]
  rw [hr] at k2 k3
  unfold aheadB at h
  simp only [Array.getD_eq_getD_getElem?, k3, Option.getD_some] at h
  obtain ⟨e, he, hb, h⟩ := bef_bit h
  refine ⟨e, he, hb, h.imp id fun h => ?_⟩
  by_cases hlt : e.on < j
  · refine ⟨hlt, ?_⟩
    unfold aheadB
    rw [Array.getD_eq_getD_getElem?, ← k2 e.on (by omega), ← Array.getD_eq_getD_getElem?]
    exact h
  · rw [Array.getD_eq_getD_getElem?, Array.getElem?_eq_none (by omega)] at h
    simp at h

/-- Listed operations have what must come ahead of them listed. -/
def Closed (ops : Array Oper) (L : Array Bool) : Prop := ∀ j o, ops[j]? = some o → L.getD j false = true → ∀ e ∈ o.after, Region.binds .any e = true → L.getD e.on false = true
theorem ahead_listed {ops : Array Oper} {L : Array Bool} (hc : Closed ops L) : ∀ (j : Nat) (o : Oper), ops[j]? = some o → (∀ e ∈ o.after, Region.binds .any e = true → L.getD e.on false = true) → ∀ i, aheadB (Region.before ops) i j = true → L.getD i false = true := by
  intro j
  induction j using Nat.strongRecOn with
  | _ j ih =>
    intro o ho hp i h
    obtain ⟨e, he, hb, h⟩ := before_spec ho h
    have hl := hp e he hb
    rcases h with h | ⟨hlt, h⟩
    · rw [← h]; exact hl
    · have hs : e.on < ops.size := by have := (Array.getElem?_eq_some_iff.1 ho).1; omega
      exact ih e.on hlt ops[e.on] (by simp [hs]) (hc e.on _ (by simp [hs]) hl) i h

/-! ### one step, whatever the heap -/
theorem looks_ops {ops : Array Oper} {o : Oper} {t t' : TL} (h : Agree t t' (o.looksAt ops)) : Agree t t' (tmpsOf o.op.operands.toList) := h.sub fun d hd => by
  unfold Oper.looksAt
  rw [List.mem_append]
  exact .inl hd
theorem guard_congr {ops : Array Oper} {o : Oper} {t t' : TL} (h : Agree t t' (o.looksAt ops)) : guardA ops t o.guard = guardA ops t' o.guard := by
  unfold guardA
  cases hg : o.guard with
  | none => rfl
  | some g =>
    obtain ⟨j, want⟩ := g
    simp only
    cases hd : (ops[j]?).bind (·.dst) with
    | none => rfl
    | some d =>
      simp only
      have : t.get d = t'.get d := h d (by unfold Oper.looksAt; rw [List.mem_append]; right; simp [hg, hd])
      rw [this]
/-- The same state: the same answer. -/
theorem step_same {ops : Array Oper} {o : Oper} {t t1 t' : TL} {s s1 : St} (h : evStep T call ops o t s = some (t1, s1)) (ha : Agree t t' (o.looksAt ops)) :
    ∃ v, t1 = putA t o.dst v ∧ evStep T call ops o t' s = some (putA t' o.dst v, s1) := by
  unfold evStep at h ⊢
  rw [← guard_congr ha, ← evOp_congr (looks_ops ha) s]
  cases hg : guardA ops t o.guard with
  | none => simp [hg] at h
  | some b =>
    cases b with
    | false =>
      simp only [hg, Option.some.injEq, Prod.mk.injEq] at h ⊢
      obtain ⟨rfl, rfl⟩ := h
      exact ⟨.undef, rfl, by simp⟩
    | true =>
      simp only [hg] at h ⊢
      cases hop : evOp T o.op t s with
      | none => simp [hop] at h
      | some rs =>
        obtain ⟨r, s2⟩ := rs
        cases r with
        | val v =>
          simp only [hop, Option.some.injEq, Prod.mk.injEq] at h ⊢
          obtain ⟨rfl, rfl⟩ := h
          exact ⟨v, rfl, by simp⟩
        | skip =>
          simp only [hop, Option.some.injEq, Prod.mk.injEq] at h ⊢
          obtain ⟨rfl, rfl⟩ := h
          exact ⟨.undef, rfl, by simp⟩
        | call f args =>
          simp only [hop] at h ⊢
          cases hc : call f args s2 with
          | none => simp [hc] at h
          | some vs =>
            obtain ⟨v, s3⟩ := vs
            simp only [hc, Option.some.injEq, Prod.mk.injEq] at h ⊢
            obtain ⟨rfl, rfl⟩ := h
            exact ⟨v, rfl, by simp⟩
/-- What turns nothing, over any heap that has what it reads. -/
theorem step_still {ops : Array Oper} {o : Oper} {t t1 t' : TL} {s s1 s' : St} (he : Op.eff o.op = false) (h : evStep T call ops o t s = some (t1, s1)) (ha : Agree t t' (o.looksAt ops))
    (hr : ∀ g, guardA ops t o.guard = some true → readsA t o.op = some g → s'.get g = s.get g) : s1 = s ∧ ∃ v, t1 = putA t o.dst v ∧ evStep T call ops o t' s' = some (putA t' o.dst v, s') := by
  unfold evStep at h ⊢
  rw [← guard_congr ha]
  cases hg : guardA ops t o.guard with
  | none => simp [hg] at h
  | some b =>
    cases b with
    | false =>
      simp only [hg, Option.some.injEq, Prod.mk.injEq] at h ⊢
      obtain ⟨rfl, rfl⟩ := h
      exact ⟨rfl, .undef, rfl, by simp⟩
    | true =>
      simp only [hg] at h ⊢
      cases hop : evOp T o.op t s with
      | none => simp [hop] at h
      | some rs =>
        obtain ⟨r, s2⟩ := rs
        obtain ⟨rfl, v, rfl⟩ := still_op hop he
        have h2 := evOp_heap (s' := s') he hop (fun g hg' => hr g hg hg')
        rw [← evOp_congr (looks_ops ha) s', h2]
        simp only [hop, Option.some.injEq, Prod.mk.injEq] at h ⊢
        obtain ⟨rfl, rfl⟩ := h
        exact ⟨rfl, v, rfl, by simp⟩

/-! ### the early groups -/
theorem eqB_ok {x y : AV} (h : AV.eqB x y = true) : x = y := by
  unfold AV.eqB at h
  split at h
  case h_3 => simp only [beq_iff_eq] at h; rw [ByteArray.ext h]
  all_goals simp_all
theorem eqBs_ok : ∀ {xs ys : List AV}, AV.eqBs xs ys = true → xs = ys
  | [], [], _ => rfl
  | x :: r, y :: r', h => by
    simp only [AV.eqBs, Bool.and_eq_true] at h
    rw [eqB_ok h.1, eqBs_ok h.2]
  | [], _ :: _, h => by simp [AV.eqBs] at h
  | _ :: _, [], h => by simp [AV.eqBs] at h
theorem earlyVal_congr {ops : Array Oper} {o : Oper} {t t' : TL} (h : Agree t t' (o.looksAt ops)) (c : Nat) (cs : List AV) : earlyVal T ops o t c cs = earlyVal T ops o t' c cs := by
  have hop : ∀ s, evOp T o.op t s = evOp T o.op t' s := fun s => evOp_congr (looks_ops h) s
  unfold earlyVal
  rw [guard_congr h]
  cases guardA ops t' o.guard with
  | none => rfl
  | some q =>
    cases q with
    | false => rfl
    | true =>
      simp only
      cases hq : o.op <;> simp only <;> (rw [hq] at hop; rw [hop])
theorem early_run {P : Program} {w0 : World} {B0 : Nat} {ρ : Loc} {a : Act} {w : World} {b : Bool} {ops : Array Oper} {o : Oper} {t : TL} {c : Nat} {cs : List AV} {v : AV} (hT : TabOk P T) (ht : TR w0 B0 ρ t a.tmps) (he : Oper.early b o = true)
    (hz : earlyCells T cs o.op = some cs) (hlf : cs.all AV.leaf = true) (hg : guardA ops t o.guard = some true) (hv : earlyVal T ops o t c cs = some v) : EarlyRun P w0 B0 ρ a o w c cs v := by
  unfold earlyVal at hv
  rw [hg] at hv
  simp only at hv
  have other : (∀ (r : Res) (s' : St), evOp T o.op t ⟨c, .leaf, []⟩ = some (r, s') → ∃ v cs, r = .val v ∧ s' = (⟨c, .leaf, []⟩ : St).newG ⟨[⟨cs, 0, none⟩]⟩ ∧ EarlyRun P w0 B0 ρ a o w c cs v) →
      (match evOp T o.op t ⟨c, .leaf, []⟩ with
        | some (.val v, s1) => match s1.get c with
          | some ⟨[⟨cs', 0, none⟩]⟩ => if AV.eqBs cs' cs then some v else none
          | _ => none
        | _ => none) = some v → EarlyRun P w0 B0 ρ a o w c cs v := by
    intro h2 hv
    split at hv
    · rename_i v1 s1 hop
      obtain ⟨v2, cs2, e1, e2, h3⟩ := h2 _ _ hop
      cases e1
      subst e2
      have hg : ((⟨c, .leaf, []⟩ : St).newG ⟨[⟨cs2, 0, none⟩]⟩).get c = some ⟨[⟨cs2, 0, none⟩]⟩ := St.get_newG_eq _ _
      rw [hg] at hv
      split at hv
      · rename_i cs' hcs
        simp only [Option.some.injEq, Grp.mk.injEq, List.cons.injEq, Ver.mk.injEq, and_true] at hcs
        subst hcs
        split at hv
        · rename_i hq
          simp only [Option.some.injEq] at hv
          subst hv
          obtain rfl := eqBs_ok hq
          exact h3
        · cases hv
      · cases hv
    · cases hv
  cases hop : o.op with
  | alloc e =>
    rw [hop] at hv hz
    simp only [Option.some.injEq] at hv
    subst hv
    simp only [earlyCells] at hz
    cases hti : T e with
    | none => simp [hti] at hz
    | some ti =>
      simp only [hti, Option.some.injEq] at hz
      subst hz
      exact e_alloc hT hop hti hlf c
  | box e x =>
    refine other (fun r s' h => e_box ht hop h) ?_
    rw [hop] at hv ⊢
    exact hv
  | buildSlice tt len parts =>
    refine other (fun r s' h => e_buildSlice hT ht hop h) ?_
    rw [hop] at hv ⊢
    exact hv
  | _ => unfold Oper.early at he; rw [hop] at he; simp at he

structure HoistS (b : Bool) (T : Tab) (l : List Oper) (s s' : St) (hs : List (Option (Nat × List AV))) : Prop where
  len : hs.length = l.length
  lt : ∀ (i c : Nat) (cs : List AV), hs[i]? = some (some (c, cs)) → s.ctr ≤ c ∧ c < s'.ctr
  inj : ∀ (i j c : Nat) (cs cs' : List AV), hs[i]? = some (some (c, cs)) → hs[j]? = some (some (c, cs')) → i = j
  ear : ∀ (i : Nat) (o : Oper) (c : Nat) (cs : List AV), l[i]? = some o → hs[i]? = some (some (c, cs)) → Oper.early b o = true ∧ earlyCells T cs o.op = some cs ∧ cs.all AV.leaf = true ∧ s'.get c = some ⟨[⟨cs, 0, none⟩]⟩
  late : ∀ (i : Nat) (o : Oper), l[i]? = some o → hs[i]? = some none → Oper.early b o = false
theorem hoist_keep {b : Bool} : ∀ (l : List Oper) (gs : List (List AV)) (s s' : St) (hs : List (Option (Nat × List AV))), hoist b T l gs s = some (s', hs) → ∀ g, g < s.ctr → s'.get g = s.get g := by
  intro l
  induction l with
  | nil => intro gs s s' hs h g _; simp only [hoist, Option.some.injEq, Prod.mk.injEq] at h; obtain ⟨rfl, _⟩ := h; rfl
  | cons o l ih =>
    intro gs s s' hs h g hg
    simp only [hoist] at h
    repeat' split at h
    all_goals first
      | (cases h; done)
      | (rename_i h2; simp only [Option.some.injEq, Prod.mk.injEq] at h; obtain ⟨rfl, _⟩ := h; first | (rw [ih _ _ _ _ h2 g (by simp [St.newG]; omega)]; exact St.get_newG_ne _ _ (by omega)) | exact ih _ _ _ _ h2 g hg)
theorem hoist_spec {b : Bool} : ∀ (l : List Oper) (gs : List (List AV)) (s s' : St) (hs : List (Option (Nat × List AV))), hoist b T l gs s = some (s', hs) → HoistS b T l s s' hs
  | [], gs, s, s', hs, h => by
    simp only [hoist, Option.some.injEq, Prod.mk.injEq] at h
    obtain ⟨rfl, rfl⟩ := h
    exact ⟨rfl, fun i c cs h => by simp at h, fun i j c cs cs' h => by simp at h, fun i o c cs h => by simp at h, fun i o h => by simp at h⟩
  | o :: l, gs, s, s', hs, h => by
    simp only [hoist] at h
    split at h
    · rename_i hearly
      split at h
      · cases h
      · rename_i zs hzs
        split at h
        · rename_i hlf
          split at h
          · cases h
          · rename_i s2 l2 h2
            simp only [Option.some.injEq, Prod.mk.injEq] at h
            obtain ⟨rfl, rfl⟩ := h
            have ih := hoist_spec l _ _ _ _ h2
            have hx := Ext.hoist l _ h2
            have hc : (s.newG ⟨[⟨zs, 0, none⟩]⟩).ctr = s.ctr + 1 := rfl
            refine ⟨by simp [ih.len], fun i c cs hi => ?_, fun i j c cs cs' hi hj => ?_, fun i o' c cs ho hi => ?_, fun i o' ho hi => ?_⟩
            · cases i with
              | zero => simp only [List.getElem?_cons_zero, Option.some.injEq, Prod.mk.injEq] at hi; obtain ⟨rfl, _⟩ := hi; have := hx.ctr; omega
              | succ i => have := ih.lt i c cs (by simpa using hi); omega
            · cases i with
              | zero =>
                cases j with
                | zero => rfl
                | succ j =>
                  simp only [List.getElem?_cons_zero, Option.some.injEq, Prod.mk.injEq] at hi
                  have := ih.lt j c cs' (by simpa using hj)
                  omega
              | succ i =>
                cases j with
                | zero =>
                  simp only [List.getElem?_cons_zero, Option.some.injEq, Prod.mk.injEq] at hj
                  have := ih.lt i c cs (by simpa using hi)
                  omega
                | succ j => have := ih.inj i j c cs cs' (by simpa using hi) (by simpa using hj); omega
            · cases i with
              | zero =>
                simp only [List.getElem?_cons_zero, Option.some.injEq, Prod.mk.injEq] at ho hi
                obtain ⟨rfl, rfl⟩ := hi
                subst ho
                refine ⟨hearly, ?_, hlf, ?_⟩
                · cases hop : o.op with
                  | alloc e => rw [hop] at hzs; simpa [earlyCells] using hzs
                  | _ => simp [earlyCells]
                · rw [hoist_keep l _ _ _ _ h2 s.ctr (by rw [hc]; omega)]
                  exact St.get_newG_eq _ _
              | succ i => exact ih.ear i o' c cs (by simpa using ho) (by simpa using hi)
            · cases i with
              | zero => simp at hi
              | succ i => exact ih.late i o' (by simpa using ho) (by simpa using hi)
        · cases h
    · rename_i hearly
      split at h
      · cases h
      · rename_i s2 l2 h2
        simp only [Option.some.injEq, Prod.mk.injEq] at h
        obtain ⟨rfl, rfl⟩ := h
        have ih := hoist_spec l _ _ _ _ h2
        refine ⟨by simp [ih.len], fun i c cs hi => ?_, fun i j c cs cs' hi hj => ?_, fun i o' c cs ho hi => ?_, fun i o' ho hi => ?_⟩
        · cases i with
          | zero => simp at hi
          | succ i => exact ih.lt i c cs (by simpa using hi)
        · cases i with
          | zero => simp at hi
          | succ i =>
            cases j with
            | zero => simp at hj
            | succ j => have := ih.inj i j c cs cs' (by simpa using hi) (by simpa using hj); omega
        · cases i with
          | zero => simp at hi
          | succ i => exact ih.ear i o' c cs (by simpa using ho) (by simpa using hi)
        · cases i with
          | zero =>
            simp only [List.getElem?_cons_zero, Option.some.injEq] at ho
            subst ho
            simpa using hearly
          | succ i => exact ih.late i o' (by simpa using ho) (by simpa using hi)
end
end Go.Ab
/- The draw itself. -/
namespace Go.Ab
open Go.RowKit
section
variable {P : Program} {w0 : World} {B0 : Nat} {T : Tab}
variable {call : FuncId → List AV → St → Option (AV × St)}

/-- All that is fixed while a region is run in some order. -/
structure Reg (b : Bool) (T : Tab) (call : FuncId → List AV → St → Option (AV × St)) (ops : Array Oper) (hs : List (Option (Nat × List AV))) (c0 : Nat) (tr : Nat → TL × St) (l : List Entry) : Prop where
  hl : hs.length = ops.size
  earlyAt : ∀ (i : Nat) (o : Oper) (c : Nat) (cs : List AV), ops[i]? = some o → hs[i]? = some (some (c, cs)) → (∃ v, earlyVal T ops o (tr i).1 c cs = some v ∧ (tr (i + 1)).1 = putA (tr i).1 o.dst v) ∧ (tr (i + 1)).2 = (tr i).2
  stepAt : ∀ (i : Nat) (o : Oper), ops[i]? = some o → hs[i]? = some none → ∃ s', evStep T call ops o (tr i).1 { (tr i).2 with wr := [] } = some ((tr (i + 1)).1, s') ∧ (tr (i + 1)).2 = { s' with wr := s'.wr ++ (tr i).2.wr }
  ear : ∀ (i : Nat) (o : Oper) (c : Nat) (cs : List AV), ops[i]? = some o → hs[i]? = some (some (c, cs)) → Oper.early b o = true ∧ earlyCells T cs o.op = some cs ∧ cs.all AV.leaf = true ∧ (tr 0).2.get c = some ⟨[⟨cs, 0, none⟩]⟩
  late : ∀ (i : Nat) (o : Oper), ops[i]? = some o → hs[i]? = some none → Oper.early b o = false
  inj : ∀ (i j c : Nat) (cs cs' : List AV), hs[i]? = some (some (c, cs)) → hs[j]? = some (some (c, cs')) → i = j
  lt : ∀ (i c : Nat) (cs : List AV), hs[i]? = some (some (c, cs)) → c0 ≤ c ∧ c < (tr 0).2.ctr
  /-- What is read isn't turned by what has no order with the reader. -/
  rd : ∀ (i e : Nat) (o oe : Oper) (g : Nat) (se : St), ops[i]? = some o → hs[i]? = some none → guardA ops (tr i).1 o.guard = some true → readsA (tr i).1 o.op = some g → ops[e]? = some oe → hs[e]? = some none →
    evStep T call ops oe (tr e).1 { (tr e).2 with wr := [] } = some ((tr (e + 1)).1, se) → aheadB (Region.before ops) e i = true ∨ aheadB (Region.before ops) i e = true ∨ g ∉ se.wr
  /-- An early variable is turned behind its own operation alone. -/
  al : ∀ (i e : Nat) (oe : Oper) (c : Nat) (cs : List AV) (se : St), hs[i]? = some (some (c, cs)) → ops[e]? = some oe → hs[e]? = some none →
    evStep T call ops oe (tr e).1 { (tr e).2 with wr := [] } = some ((tr (e + 1)).1, se) → aheadB (Region.before ops) i e = true ∨ c ∉ se.wr
  /-- Two operations without an order. -/
  two : ∀ (i j : Nat) (x y : Oper), ops[i]? = some x → ops[j]? = some y → i ≠ j → aheadB (Region.before ops) i j = true ∨ aheadB (Region.before ops) j i = true ∨ (Oper.apart ops x y = true ∧ ¬ (Oper.turns b x = true ∧ Oper.turns b y = true))
  up : ∀ (i j : Nat), aheadB (Region.before ops) i j = true → j < ops.size → i < j
  dn : ∀ (j : Nat) (o : Oper), ops[j]? = some o → ∀ e ∈ o.after, Region.binds .any e = true → e.on < j

variable {ops : Array Oper} {hs : List (Option (Nat × List AV))} {b : Bool} {c0 : Nat} {tr : Nat → TL × St} {l : List Entry}

theorem Reg.hsAt (R : Reg b T call ops hs c0 tr l) {i : Nat} {o : Oper} (ho : ops[i]? = some o) : ∃ q, hs[i]? = some q := by
  have : i < ops.size := (Array.getElem?_eq_some_iff.1 ho).1
  exact ⟨hs[i]'(by rw [R.hl]; exact this), by simp⟩
theorem Reg.opAt (_R : Reg b T call ops hs c0 tr l) {i : Nat} (hi : i < ops.size) : ∃ o, ops[i]? = some o := ⟨ops[i], by simp [hi]⟩
/-- What isn't a turn leaves the state. -/
theorem Reg.stay (_hce : CallExt call) (R : Reg b T call ops hs c0 tr l) {k : Nat} {o : Oper} (ho : ops[k]? = some o) (hn : ¬ (Oper.turns b o = true ∧ hs[k]? = some none)) : (tr (k + 1)).2 = (tr k).2 := by
  obtain ⟨q, hq⟩ := R.hsAt ho
  cases q with
  | some cc => exact (R.earlyAt k o cc.1 cc.2 ho hq).2
  | none =>
    have hlate := R.late k o ho hq
    have he : Op.eff o.op = false := by
      cases h : Op.eff o.op with
      | false => rfl
      | true => exact absurd ⟨by simp [Oper.turns, h, hlate], hq⟩ hn
    obtain ⟨s', h1, h2⟩ := R.stepAt k o ho hq
    have := (step_still (s' := { (tr k).2 with wr := [] }) he h1 (fun d _ => rfl) (fun g _ _ => rfl)).1
    subst this
    rw [h2]
    simp
theorem Reg.ctrLe (hce : CallExt call) (R : Reg b T call ops hs c0 tr l) {k : Nat} (hk : k < ops.size) : (tr k).2.ctr ≤ (tr (k + 1)).2.ctr := by
  obtain ⟨o, ho⟩ := R.opAt hk
  obtain ⟨q, hq⟩ := R.hsAt ho
  cases q with
  | some cc => rw [(R.earlyAt k o cc.1 cc.2 ho hq).2]; exact Nat.le_refl _
  | none =>
    obtain ⟨s', h1, h2⟩ := R.stepAt k o ho hq
    rw [h2]
    exact (Ext.step hce h1).ctr
theorem Reg.ctr0 (hce : CallExt call) (R : Reg b T call ops hs c0 tr l) : ∀ k, k ≤ ops.size → (tr 0).2.ctr ≤ (tr k).2.ctr
  | 0, _ => Nat.le_refl _
  | k + 1, h => Nat.le_trans (R.ctr0 hce k (by omega)) (R.ctrLe hce (by omega))
theorem Reg.putAt (R : Reg b T call ops hs c0 tr l) {k : Nat} {o : Oper} (ho : ops[k]? = some o) : ∃ v, (tr (k + 1)).1 = putA (tr k).1 o.dst v := by
  obtain ⟨q, hq⟩ := R.hsAt ho
  cases q with
  | some cc => obtain ⟨v, _, h⟩ := (R.earlyAt k o cc.1 cc.2 ho hq).1; exact ⟨v, h⟩
  | none =>
    obtain ⟨s', h1, h2⟩ := R.stepAt k o ho hq
    obtain ⟨v, hv, _⟩ := step_same h1 (fun d _ => rfl)
    exact ⟨v, hv⟩
theorem Reg.tmpN (R : Reg b T call ops hs c0 tr l) : ∀ k, k ≤ ops.size → (tr k).1.n = (tr 0).1.n
  | 0, _ => rfl
  | k + 1, hk => by
    obtain ⟨ok, hok⟩ := R.opAt (show k < ops.size by omega)
    obtain ⟨v, hv⟩ := R.putAt hok
    rw [hv, putA_n]
    exact R.tmpN k (by omega)
theorem Reg.tmpOut (R : Reg b T call ops hs c0 tr l) {d : Tmp} (hd : (tr 0).1.n ≤ d) : ∀ k, k ≤ ops.size → (tr k).1.get d = (tr 0).1.get d
  | 0, _ => rfl
  | k + 1, hk => by
    obtain ⟨ok, hok⟩ := R.opAt (show k < ops.size by omega)
    obtain ⟨v, hv⟩ := R.putAt hok
    rw [hv]
    have hn := R.tmpN k (by omega)
    cases ok.dst with
    | none => exact R.tmpOut hd k (by omega)
    | some d' =>
      simp only [putA]
      rw [TL.get_set, if_neg (fun e => by omega)]
      exact R.tmpOut hd k (by omega)
/-- Between two places without a writer a slot stays. -/
theorem Reg.slot (R : Reg b T call ops hs c0 tr l) {d : Tmp} : ∀ (n p : Nat), p + n ≤ ops.size → (∀ j o, p ≤ j → j < p + n → ops[j]? = some o → o.dst ≠ some d) → (tr (p + n)).1.get d = (tr p).1.get d
  | 0, p, _, _ => rfl
  | n + 1, p, hle, h => by
    obtain ⟨o, ho⟩ := R.opAt (show p + n < ops.size by omega)
    obtain ⟨v, hv⟩ := R.putAt ho
    have ih := R.slot n p (by omega) (fun j o h1 h2 h3 => h j o h1 (by omega) h3)
    rw [← Nat.add_assoc, hv, ← ih]
    have hd := h (p + n) o (by omega) (by omega) ho
    cases hdst : o.dst with
    | none => rfl
    | some d' =>
      simp only [putA]
      rw [TL.get_set, if_neg (fun e => hd (by rw [hdst, e.1]))]
theorem Reg.slot2 (R : Reg b T call ops hs c0 tr l) {d : Tmp} {p q : Nat} (hp : p ≤ ops.size) (hq : q ≤ ops.size) (h : ∀ j o, ops[j]? = some o → o.dst = some d → (j < p ↔ j < q)) : (tr p).1.get d = (tr q).1.get d := by
  rcases Nat.le_total p q with hle | hle
  · obtain ⟨n, rfl⟩ := Nat.exists_eq_add_of_le hle
    exact (R.slot n p hq (fun j o h1 h2 h3 h4 => by have := h j o h3 h4; omega)).symm
  · obtain ⟨n, rfl⟩ := Nat.exists_eq_add_of_le hle
    exact R.slot n q hp (fun j o h1 h2 h3 h4 => by have := h j o h3 h4; omega)
/-- Between two places without a turn the state stays. -/
theorem Reg.state (hce : CallExt call) (R : Reg b T call ops hs c0 tr l) : ∀ (n p : Nat), p + n ≤ ops.size → (∀ j o, p ≤ j → j < p + n → ops[j]? = some o → ¬ (Oper.turns b o = true ∧ hs[j]? = some none)) → (tr (p + n)).2 = (tr p).2
  | 0, p, _, _ => rfl
  | n + 1, p, hle, h => by
    obtain ⟨o, ho⟩ := R.opAt (show p + n < ops.size by omega)
    rw [← Nat.add_assoc, R.stay hce ho (h (p + n) o (by omega) (by omega) ho)]
    exact R.state hce n p (by omega) (fun j o h1 h2 h3 => h j o h1 (by omega) h3)
theorem Reg.state2 (hce : CallExt call) (R : Reg b T call ops hs c0 tr l) {p q : Nat} (hp : p ≤ ops.size) (hq : q ≤ ops.size) (h : ∀ j o, ops[j]? = some o → Oper.turns b o = true → hs[j]? = some none → (j < p ↔ j < q)) : (tr p).2 = (tr q).2 := by
  rcases Nat.le_total p q with hle | hle
  · obtain ⟨n, rfl⟩ := Nat.exists_eq_add_of_le hle
    exact (R.state hce n p hq (fun j o h1 h2 h3 ⟨h4, h5⟩ => by have := h j o h3 h4 h5; omega)).symm
  · obtain ⟨n, rfl⟩ := Nat.exists_eq_add_of_le hle
    exact R.state hce n q hp (fun j o h1 h2 h3 ⟨h4, h5⟩ => by have := h j o h3 h4 h5; omega)
/-- Between two places whose turns leave a group alone it stays. -/
theorem Reg.group (hce : CallExt call) (R : Reg b T call ops hs c0 tr l) {g : Nat} : ∀ (n p : Nat), p + n ≤ ops.size →
    (∀ j o se, p ≤ j → j < p + n → ops[j]? = some o → hs[j]? = some none → evStep T call ops o (tr j).1 { (tr j).2 with wr := [] } = some ((tr (j + 1)).1, se) → Oper.turns b o = true → g ∉ se.wr) → (tr (p + n)).2.get g = (tr p).2.get g
  | 0, p, _, _ => rfl
  | n + 1, p, hle, h => by
    have ih := R.group hce n p (by omega) (fun j o se h1 h2 h3 => h j o se h1 (by omega) h3)
    obtain ⟨o, ho⟩ := R.opAt (show p + n < ops.size by omega)
    rw [← Nat.add_assoc, ← ih]
    by_cases ht : Oper.turns b o = true ∧ hs[p + n]? = some none
    · obtain ⟨s', h1, h2⟩ := R.stepAt (p + n) o ho ht.2
      have hn := h (p + n) o s' (by omega) (by omega) ho ht.2 h1 ht.1
      obtain ⟨m, k1, k2⟩ := (Ext.step hce h1).wr
      simp only [List.append_nil] at k1
      rw [k1] at hn
      have := k2 g hn
      rw [h2]
      exact this
    · rw [R.stay hce ho ht]
theorem Reg.group2 (hce : CallExt call) (R : Reg b T call ops hs c0 tr l) {g p q : Nat} (hp : p ≤ ops.size) (hq : q ≤ ops.size)
    (h : ∀ j o se, ops[j]? = some o → hs[j]? = some none → evStep T call ops o (tr j).1 { (tr j).2 with wr := [] } = some ((tr (j + 1)).1, se) → Oper.turns b o = true → (j < p ↔ j < q) ∨ g ∉ se.wr) : (tr p).2.get g = (tr q).2.get g := by
  rcases Nat.le_total p q with hle | hle
  · obtain ⟨n, rfl⟩ := Nat.exists_eq_add_of_le hle
    exact (R.group hce n p hq (fun j o se h1 h2 h3 h4 h5 h6 => by rcases h j o se h3 h4 h5 h6 with h | h <;> first | omega | exact h)).symm
  · obtain ⟨n, rfl⟩ := Nat.exists_eq_add_of_le hle
    exact R.group hce n q hp (fun j o se h1 h2 h3 h4 h5 h6 => by rcases h j o se h3 h4 h5 h6 with h | h <;> first | omega | exact h)

/-- In the middle of a region: what is listed has been done. -/
structure Mid (b : Bool) (w0 : World) (B0 : Nat) (ops : Array Oper) (hs : List (Option (Nat × List AV))) (c0 : Nat) (tr : Nat → TL × St) (ρ0 : Loc) (d0 : List Deferred) (L : Array Bool) (a : Act) (w : World) (ρ : Loc) (t : TL) (m : Nat) : Prop where
  size : L.size = ops.size
  closed : Closed ops L
  tr_ : TR w0 B0 ρ t a.tmps
  slots : ∀ d : Tmp, ∃ p, p ≤ ops.size ∧ t.get d = (tr p).1.get d ∧ ∀ (j : Nat) (o : Oper), ops[j]? = some o → o.dst = some d → (L.getD j false = true ↔ j < p)
  tn : t.n = (tr 0).1.n
  mle : m ≤ ops.size
  heap : ∀ (e : Nat) (o : Oper), ops[e]? = some o → Oper.turns b o = true → hs[e]? = some none → (L.getD e false = true ↔ e < m)
  sim : Sim w0 B0 ρ (tr m).2 w
  wait : ∀ (i c : Nat) (cs : List AV), hs[i]? = some (some (c, cs)) → L.getD i false = false → ∀ j, ρ c j = none
  lex : ρ0.lex c0 ρ
  def_ : a.defers = d0

theorem getD_true_false {L : Array Bool} {j n : Nat} (hs : L.size = n) (hj : j < n) : L.getD j true = L.getD j false := by
  have : j < L.size := by omega
  simp [this]

theorem draw_steps (hT : TabOk P T) (hcall : CallOk P w0 B0 call) (hce : CallExt call) (R : Reg b T call ops hs c0 tr l) (hc0 : c0 ≤ (tr 0).2.ctr) {ρ0 : Loc} {d0 : List Deferred} {Q : Exit → Act → World → Prop}
    (hQ : ∀ (ρ : Loc) (a : Act) (w : World), ρ0.lex c0 ρ → Sim w0 B0 ρ (tr ops.size).2 w → TR w0 B0 ρ (tr ops.size).1 a.tmps → a.defers = d0 → Q .normal a w) :
    ∀ (fuel : Nat) (L : Array Bool) (a : Act) (w : World) (ρ : Loc) (t : TL) (m : Nat), (L.toList.countP (· == false)) = fuel → Mid b w0 B0 ops hs c0 tr ρ0 d0 L a w ρ t m → wpAny P .any ops Q fuel L a w := by
  intro fuel
  induction fuel with
  | zero =>
    intro L a w ρ t m hcount M
    have hall : ∀ j, j < ops.size → L.getD j false = true := by
      intro j hj
      have hjl : j < L.size := by rw [M.size]; exact hj
      rw [List.countP_eq_zero] at hcount
      have := hcount L[j] (by simp)
      simp [hjl]
      simpa using this
    refine ⟨?_, ?_⟩
    · rw [List.eq_nil_iff_forall_not_mem]
      intro j hj
      obtain ⟨h1, o, h2, _⟩ := mem_ready.1 hj
      have hjn := (Array.getElem?_eq_some_iff.1 h2).1
      rw [getD_true_false M.size hjn, hall j hjn] at h1
      cases h1
    · have hst : (tr m).2 = (tr ops.size).2 := R.state2 hce M.mle (Nat.le_refl _) (fun j o h1 h2 h3 => by
        have hjn := (Array.getElem?_eq_some_iff.1 h1).1
        have := (M.heap j o h1 h2 h3).1 (hall j hjn)
        omega)
      refine hQ ρ a w M.lex (hst ▸ M.sim) ?_ M.def_
      refine M.tr_.congr (by rw [M.tn, R.tmpN ops.size (Nat.le_refl _)]) fun d => ?_
      obtain ⟨p, hp, h1, h2⟩ := M.slots d
      rw [h1]
      exact R.slot2 hp (Nat.le_refl _) (fun j o k1 k2 => by
        have hjn := (Array.getElem?_eq_some_iff.1 k1).1
        have := (h2 j o k1 k2).1 (hall j hjn)
        omega)
  | succ fuel ih =>
    intro L a w ρ t m hcount M
    -- the first that is not listed is ready
    have hex : Region.ready .any ops L ≠ [] := by
      have : 0 < L.toList.countP (· == false) := by omega
      rw [List.countP_pos_iff] at this
      obtain ⟨b, hb, hbf⟩ := this
      obtain ⟨j0, hj0, hb0⟩ := List.mem_iff_getElem.1 hb
      have hex : ∃ j, j < ops.size ∧ L.getD j false = false := ⟨j0, by rw [← M.size]; simpa using hj0, by
        have h1 : j0 < L.size := by simpa using hj0
        simp [h1]
        simp at hb0
        rw [hb0]
        simpa using hbf⟩
      have : ∀ n, (∃ j, j < ops.size ∧ L.getD j false = false ∧ j ≤ n) → ∃ j, j < ops.size ∧ L.getD j false = false ∧ ∀ k, k < j → L.getD k false = true := by
        intro n
        induction n using Nat.strongRecOn with
        | _ n ihn =>
          rintro ⟨j, h1, h2, h3⟩
          by_cases hk : ∃ k, k < j ∧ L.getD k false = false
          · obtain ⟨k, hk1, hk2⟩ := hk
            exact ihn k (by omega) ⟨k, by omega, hk2, Nat.le_refl _⟩
          · exact ⟨j, h1, h2, fun k hk1 => by
              cases hq : L.getD k false with
              | true => rfl
              | false => exact absurd ⟨k, hk1, hq⟩ hk⟩
      obtain ⟨j, h1, h2⟩ := hex
      obtain ⟨j, h1, h2, h3⟩ := this j ⟨j, h1, h2, Nat.le_refl _⟩
      obtain ⟨o, ho⟩ := R.opAt h1
      have : j ∈ Region.ready .any ops L := mem_ready.2 ⟨by rw [getD_true_false M.size h1]; exact h2, o, ho, fun e he hb => h3 _ (R.dn j o ho e he hb)⟩
      intro hnil
      rw [hnil] at this
      cases this
    refine ⟨fun h => absurd h hex, fun i hi => ?_⟩
    obtain ⟨hi1, o, ho, hpred⟩ := mem_ready.1 hi
    have hin : i < ops.size := (Array.getElem?_eq_some_iff.1 ho).1
    have hiL : i < L.size := by rw [M.size]; exact hin
    have hunl : L.getD i false = false := by rw [← getD_true_false M.size hin]; exact hi1
    have hahead : ∀ k, aheadB (Region.before ops) k i = true → L.getD k false = true := ahead_listed M.closed i o ho hpred
    have hbehind : ∀ k, k < ops.size → aheadB (Region.before ops) i k = true → L.getD k false = false := by
      intro k hk h
      cases hq : L.getD k false with
      | false => rfl
      | true =>
        obtain ⟨ok, hok⟩ := R.opAt hk
        have := ahead_listed M.closed k ok hok (M.closed k ok hok hq) i h
        rw [hunl] at this
        cases this
    -- an operation that has an order with this one is listed just if it comes ahead in the text
    have hord : ∀ k, k < ops.size → (aheadB (Region.before ops) k i = true ∨ aheadB (Region.before ops) i k = true) → (L.getD k false = true ↔ k < i) := by
      intro k hk h
      rcases h with h | h
      · have := R.up k i h hin
        exact ⟨fun _ => this, fun _ => hahead k h⟩
      · have h1 := R.up i k h hk
        have h2 := hbehind k hk h
        rw [h2]
        exact ⟨fun h => (by cases h), fun h => (by omega)⟩
    have hset : ∀ j, (L.setIfInBounds i true).getD j false = if j = i then true else L.getD j false := by
      intro j
      by_cases hji : j = i
      · subst hji; simp [hiL]
      · rw [if_neg hji]
        simp [Array.getElem?_setIfInBounds_ne (Ne.symm hji)]
    have hcount' : ((L.setIfInBounds i true).toList.countP (· == false)) = fuel := by
      rw [Array.toList_setIfInBounds, List.countP_set (by simpa using hiL)]
      have : L.toList[i]'(by simpa using hiL) = false := by
        have := hunl
        simp [hiL] at this
        simpa using this
      rw [this, hcount]
      simp
    have hclosed' : Closed ops (L.setIfInBounds i true) := by
      intro j oj hj hl e he hb
      rw [hset] at hl ⊢
      by_cases hji : j = i
      · subst hji
        rw [ho] at hj
        cases hj
        have := hpred e he hb
        split
        · rfl
        · exact this
      · rw [if_neg hji] at hl
        have := M.closed j oj hj hl e he hb
        split
        · rfl
        · exact this
    -- the slots that it looks at hold what they hold in the text's order
    have hagree : Agree (tr i).1 t (o.looksAt ops) := by
      intro d hd
      obtain ⟨p, hp, h1, h2⟩ := M.slots d
      rw [h1]
      refine R.slot2 (by omega) hp (fun j oj hj hdj => ?_)
      rw [← h2 j oj hj hdj]
      by_cases hji : j = i
      · subst hji
        rw [hunl]
        exact ⟨fun h => (by omega), fun h => (by cases h)⟩
      · have hjn := (Array.getElem?_eq_some_iff.1 hj).1
        rcases R.two j i oj o hj ho hji with h | h | ⟨h, _⟩
        · exact (hord j hjn (.inl h)).symm
        · exact (hord j hjn (.inr h)).symm
        · exact absurd hd ((Oper.apart_spec h).1 d hdj)
    -- the slots behind it
    have hslots' : ∀ (v : AV), (tr (i + 1)).1 = putA (tr i).1 o.dst v → t.n = (tr i).1.n → ∀ d : Tmp, ∃ p, p ≤ ops.size ∧ (putA t o.dst v).get d = (tr p).1.get d ∧
        ∀ (j : Nat) (o' : Oper), ops[j]? = some o' → o'.dst = some d → ((L.setIfInBounds i true).getD j false = true ↔ j < p) := by
      intro v hv hlen d
      by_cases hd : o.dst = some d
      · refine ⟨i + 1, by omega, ?_, fun j oj hj hdj => ?_⟩
        · rw [hv, hd]
          simp only [putA]
          rw [TL.get_set, TL.get_set, hlen]
          by_cases hb : d = d ∧ d < (tr i).1.n
          · rw [if_pos hb, if_pos hb]
          · have hdn : (tr 0).1.n ≤ d := by
              have hq := R.tmpN i (by omega)
              have hq2 : ¬ d < (tr i).1.n := fun h => hb ⟨rfl, h⟩
              rw [hq] at hq2
              exact Nat.le_of_not_lt hq2
            rw [if_neg hb, if_neg hb]
            obtain ⟨p, hp, h1, _⟩ := M.slots d
            rw [h1, R.tmpOut hdn p hp, R.tmpOut hdn i (by omega)]
        · rw [hset]
          by_cases hji : j = i
          · subst hji; simp
          · rw [if_neg hji]
            have hjn := (Array.getElem?_eq_some_iff.1 hj).1
            have : L.getD j false = true ↔ j < i := by
              rcases R.two j i oj o hj ho hji with h | h | ⟨h, _⟩
              · exact hord j hjn (.inl h)
              · exact hord j hjn (.inr h)
              · exact absurd hd ((Oper.apart_spec h).2.1 d hdj)
            rw [this]
            omega
      · obtain ⟨p, hp, h1, h2⟩ := M.slots d
        refine ⟨p, hp, ?_, fun j oj hj hdj => ?_⟩
        · rw [← h1]
          cases hdst : o.dst with
          | none => rfl
          | some d' =>
            simp only [putA]
            rw [TL.get_set, if_neg (fun e => hd (by rw [hdst, e.1]))]
        · rw [hset, if_neg (fun e => by subst e; rw [ho] at hj; cases hj; exact hd hdj)]
          exact h2 j oj hj hdj
    have hlent : t.n = (tr i).1.n := by rw [M.tn, R.tmpN i (by omega)]
    obtain ⟨q, hq⟩ := R.hsAt ho
    cases q with
    | some cc =>
      -- what is laid early
      obtain ⟨c, cs⟩ := cc
      obtain ⟨hearly, hzs, hlf, hget⟩ := R.ear i o c cs ho hq
      have hcl := R.lt i c cs hq
      have hget' : (tr m).2.get c = some ⟨[⟨cs, 0, none⟩]⟩ := by
        rw [← hget]
        refine R.group2 hce M.mle (by omega) (fun j oj se h1 h2 h3 h4 => ?_)
        have hjn := (Array.getElem?_eq_some_iff.1 h1).1
        rcases R.al i j oj c cs se hq h1 h2 h3 with h | h
        · left
          have h5 := hbehind j hjn h
          have := M.heap j oj h1 h4 h2
          rw [h5] at this
          simp at this
          omega
        · exact .inr h
      have hρ : ∀ j, ρ c j = none := M.wait i c cs hq hunl
      obtain ⟨v, hval, hv⟩ := (R.earlyAt i o c cs ho hq).1
      rw [earlyVal_congr hagree] at hval
      have hgs : ∃ q, guardA ops t o.guard = some q := by
        unfold earlyVal at hval
        cases hq : guardA ops t o.guard with
        | none => simp [hq] at hval
        | some q => exact ⟨q, rfl⟩
      obtain ⟨q, hgd⟩ := hgs
      cases q with
      | false =>
        -- it isn't wanted
        have hvu : v = .undef := by
          unfold earlyVal at hval
          rw [hgd] at hval
          simpa using hval.symm
        subst hvu
        unfold wpOp
        rw [ho]
        simp only
        rw [if_neg (by rw [guard_sound M.tr_ hgd]; exact Bool.false_ne_true)]
        refine ih _ _ _ ρ (putA t o.dst .undef) m hcount' ⟨by simp [M.size], hclosed', ?_, hslots' _ hv hlent, (by rw [putA_n, M.tn]), M.mle, ?_, M.sim, ?_, M.lex, ?_⟩
        · exact M.tr_.put .undef o.dst
        · intro e' o' h1 h2 h3
          rw [hset, if_neg (fun e => by subst e; rw [hq] at h3; cases h3)]
          exact M.heap e' o' h1 h2 h3
        · intro i' c' cs' h1 h2 j
          rw [hset] at h2
          by_cases hii : i' = i
          · rw [if_pos hii] at h2; cases h2
          · rw [if_neg hii] at h2
            exact M.wait i' c' cs' h1 h2 j
        · rw [← M.def_]; cases o.dst <;> rfl
      | true =>
      obtain ⟨arr, e, v', hrun, hz1, _, hz2, hvr⟩ := early_run (P := P) (w0 := w0) (B0 := B0) (ρ := ρ) (w := w) hT M.tr_ hearly hzs hlf hgd hval
      have hlt : c < (tr m).2.ctr := by have := R.ctr0 hce m M.mle; omega
      obtain ⟨hle, hsim⟩ := M.sim.lay (arr := arr) e hlt hρ hget' hz1 hlf hz2
      have hlex : ρ.lex c0 (ρ.put c 0 (w.heap.size, 0, arr.size)) := Loc.put_lex (hρ 0) (.inl hcl.1)
      unfold wpOp
      rw [ho]
      simp only
      rw [if_pos (guard_sound M.tr_ hgd)]
      refine .inl ?_
      unfold Oper.wp
      rw [hrun, Oper.upon_value]
      refine ih _ _ _ (ρ.put c 0 (w.heap.size, 0, arr.size)) (putA t o.dst v) m hcount' ⟨by simp [M.size], hclosed', ?_, hslots' _ hv hlent, (by rw [putA_n, M.tn]), M.mle, ?_, hsim, ?_, Loc.lex_trans M.lex hlex (Nat.le_refl _), ?_⟩
      · exact (TR.mono hle M.tr_).put (hvr _ Loc.put_eq) o.dst
      · intro e' o' h1 h2 h3
        rw [hset, if_neg (fun e => by subst e; rw [hq] at h3; cases h3)]
        exact M.heap e' o' h1 h2 h3
      · intro i' c' cs' h1 h2 j
        rw [hset] at h2
        by_cases hii : i' = i
        · rw [if_pos hii] at h2; cases h2
        · rw [if_neg hii] at h2
          have hcc : c' ≠ c := fun e => hii (R.inj i' i c cs' cs (e ▸ h1) hq)
          have := M.wait i' c' cs' h1 h2 j
          unfold Loc.put
          rw [if_neg (fun h => hcc h.1)]
          exact this
      · rw [← M.def_]; cases o.dst <;> rfl
    | none =>
      obtain ⟨s', h1, h2⟩ := R.stepAt i o ho hq
      have hlate := R.late i o ho hq
      by_cases hturn : Oper.turns b o = true
      · -- a turn: the state is the text's
        have hst : (tr m).2 = (tr i).2 := R.state2 hce M.mle (by omega) (fun j oj k1 k2 k3 => by
          have hjn := (Array.getElem?_eq_some_iff.1 k1).1
          rw [← M.heap j oj k1 k2 k3]
          by_cases hji : j = i
          · subst hji
            rw [hunl]
            exact ⟨fun h => (by cases h), fun h => (by omega)⟩
          · rcases R.two j i oj o k1 ho hji with h | h | ⟨_, h⟩
            · exact hord j hjn (.inl h)
            · exact hord j hjn (.inr h)
            · exact absurd ⟨k2, hturn⟩ h)
        obtain ⟨v, hv, hstep⟩ := step_same h1 hagree
        have hsim0 : Sim w0 B0 ρ { (tr i).2 with wr := [] } w := (hst ▸ M.sim).wr []
        refine step_sound hT hcall ho M.tr_ hsim0 hstep (fun ρ' v' u' w' k1 k2 k3 k4 => ?_)
        have hctr : c0 ≤ (tr i).2.ctr := Nat.le_trans hc0 (R.ctr0 hce i (by omega))
        refine ih _ _ _ ρ' (putA t o.dst v) (i + 1) hcount' ⟨by simp [M.size], hclosed', ?_, hslots' v hv hlent, (by rw [putA_n, M.tn]), by omega, ?_, ?_, ?_, Loc.lex_trans M.lex k1 hctr, ?_⟩
        · rw [k4]; exact (TR.mono k1.1 M.tr_).put k3 o.dst
        · intro e' o' q1 q2 q3
          rw [hset]
          by_cases hei : e' = i
          · subst hei; simp
          · rw [if_neg hei]
            have hen := (Array.getElem?_eq_some_iff.1 q1).1
            have : L.getD e' false = true ↔ e' < i := by
              rcases R.two e' i o' o q1 ho hei with h | h | ⟨_, h⟩
              · exact hord e' hen (.inl h)
              · exact hord e' hen (.inr h)
              · exact absurd ⟨q2, hturn⟩ h
            rw [this]
            omega
        · rw [h2]; exact k2.wr _
        · intro i' c' cs' q1 q2 j
          rw [hset] at q2
          by_cases hii : i' = i
          · rw [if_pos hii] at q2; cases q2
          · rw [if_neg hii] at q2
            refine k1.2 c' ?_ (M.wait i' c' cs' q1 q2) j
            have := (R.lt i' c' cs' q1).2
            exact Nat.lt_of_lt_of_le this (R.ctr0 hce i (by omega))
        · rw [← M.def_]; cases o.dst <;> rfl
      · -- it turns nothing
        have he : Op.eff o.op = false := by
          cases h : Op.eff o.op with
          | false => rfl
          | true => exact absurd (by simp [Oper.turns, h, hlate]) hturn
        have hrd : ∀ g, guardA ops (tr i).1 o.guard = some true → readsA (tr i).1 o.op = some g → ({ (tr m).2 with wr := [] } : St).get g = ({ (tr i).2 with wr := [] } : St).get g := by
          intro g hg1 hg2
          have := R.group2 hce (g := g) M.mle (show i ≤ ops.size by omega) (fun j oj se k1 k2 k3 k4 => by
            have hjn := (Array.getElem?_eq_some_iff.1 k1).1
            rcases R.rd i j o oj g se ho hq hg1 hg2 k1 k2 k3 with h | h | h
            · left; rw [← M.heap j oj k1 k4 k2]; exact hord j hjn (.inl h)
            · left; rw [← M.heap j oj k1 k4 k2]; exact hord j hjn (.inr h)
            · exact .inr h)
          exact this
        obtain ⟨hs1, v, hv, hstep⟩ := step_still he h1 hagree hrd
        have hsim0 : Sim w0 B0 ρ { (tr m).2 with wr := [] } w := M.sim.wr []
        refine step_sound hT hcall ho M.tr_ hsim0 hstep (fun ρ' v' u' w' k1 k2 k3 k4 => ?_)
        have hctr : c0 ≤ (tr m).2.ctr := Nat.le_trans hc0 (R.ctr0 hce m M.mle)
        refine ih _ _ _ ρ' (putA t o.dst v) m hcount' ⟨by simp [M.size], hclosed', ?_, hslots' v hv hlent, (by rw [putA_n, M.tn]), M.mle, ?_, ?_, ?_, Loc.lex_trans M.lex k1 hctr, ?_⟩
        · rw [k4]; exact (TR.mono k1.1 M.tr_).put k3 o.dst
        · intro e' o' q1 q2 q3
          rw [hset, if_neg (fun e => by subst e; rw [ho] at q1; cases q1; exact hturn q2)]
          exact M.heap e' o' q1 q2 q3
        · have := k2.wr (tr m).2.wr
          exact this
        · intro i' c' cs' q1 q2 j
          rw [hset] at q2
          by_cases hii : i' = i
          · rw [if_pos hii] at q2; cases q2
          · rw [if_neg hii] at q2
            refine k1.2 c' ?_ (M.wait i' c' cs' q1 q2) j
            have := (R.lt i' c' cs' q1).2
            exact Nat.lt_of_lt_of_le this (R.ctr0 hce m M.mle)
        · rw [← M.def_]; cases o.dst <;> rfl
end
end Go.Ab
/- The evaluator is right: what it says of a call holds of the call. -/
namespace Go.Ab
open Go.RowKit
section
variable {P : Program} {w0 : World} {B0 : Nat} {T : Tab}
variable {call : FuncId → List AV → St → Option (AV × St)}

theorem draw_sound (hm : P.follows .mixedOrders = true) (hT : TabOk P T) (hcall : CallOk P w0 B0 call) (hce : CallExt call) : DrawOk P w0 B0 T call := by
  intro b gs id ops ρ t t' s s0 s' hs l a w ht hsim hd hh hlog hok
  have HS := hoist_spec _ _ _ _ _ hh
  have hx := Ext.hoist _ _ hh
  obtain ⟨tr, tr0, trn, hlen, hE, hS⟩ := log_spec ops.toList 0 hs t t' s0 s' l HS.len hlog
  simp only [Nat.zero_add, Array.length_toList, Array.getElem?_toList] at trn hlen hE hS
  have hhl : hs.length = ops.size := by rw [HS.len]; simp
  have hlogAt : ∀ i x, l[i]? = some x → (∀ g, x.rd = some g → ∀ e y, l[e]? = some y → aheadB (Region.before ops) e i = true ∨ aheadB (Region.before ops) i e = true ∨ g ∉ y.wr) ∧
      (∀ g, x.al = some g → ∀ e y, l[e]? = some y → aheadB (Region.before ops) i e = true ∨ g ∉ y.wr) := by
    intro i x hi
    have hil : i < l.length := (List.getElem?_eq_some_iff.1 hi).1
    unfold logOk at hok
    have h1 := List.all_eq_true.1 hok i (List.mem_range.2 hil)
    simp only [hi, Bool.and_eq_true] at h1
    refine ⟨fun g hg e y he => ?_, fun g hg e y he => ?_⟩
    · have h2 := h1.1
      simp only [hg] at h2
      have h3 := List.all_eq_true.1 h2 e (List.mem_range.2 (List.getElem?_eq_some_iff.1 he).1)
      simp only [he, Bool.or_eq_true, Bool.not_eq_true'] at h3
      rcases h3 with (h3 | h3) | h3
      · exact .inl h3
      · exact .inr (.inl h3)
      · exact .inr (.inr (by simpa using h3))
    · have h2 := h1.2
      simp only [hg] at h2
      have h3 := List.all_eq_true.1 h2 e (List.mem_range.2 (List.getElem?_eq_some_iff.1 he).1)
      simp only [he, Bool.or_eq_true, Bool.not_eq_true'] at h3
      rcases h3 with h3 | h3
      · exact .inl h3
      · exact .inr (by simpa using h3)
  unfold drawOk at hd
  rw [Bool.and_eq_true] at hd
  have hdn : ∀ (j : Nat) (o : Oper), ops[j]? = some o → ∀ e ∈ o.after, Region.binds .any e = true → e.on < j := by
    intro j o ho e he hb
    have h1 := List.all_eq_true.1 hd.1 j (List.mem_range.2 (Array.getElem?_eq_some_iff.1 ho).1)
    simp only [ho] at h1
    have h2 := Array.all_eq_true_iff_forall_mem.1 h1 e he
    simpa [hb] using h2
  have hup : ∀ (j : Nat), j < ops.size → ∀ i, aheadB (Region.before ops) i j = true → i < j := by
    intro j
    induction j using Nat.strongRecOn with
    | _ j ih =>
      intro hj i h
      obtain ⟨e, he, hb, h⟩ := before_spec (o := ops[j]) (by simp [hj]) h
      have hlt := hdn j ops[j] (by simp [hj]) e he hb
      rcases h with h | ⟨_, h⟩
      · omega
      · have := ih e.on hlt (by omega) i h
        omega
  have htwo : ∀ (i j : Nat) (x y : Oper), ops[i]? = some x → ops[j]? = some y → i < j → aheadB (Region.before ops) i j = true ∨ (Oper.apart ops x y = true ∧ Oper.apart ops y x = true ∧ ¬ (Oper.turns b x = true ∧ Oper.turns b y = true)) := by
    intro i j x y hi hj hlt
    have h1 := List.all_eq_true.1 hd.2 j (List.mem_range.2 (Array.getElem?_eq_some_iff.1 hj).1)
    have h2 := List.all_eq_true.1 h1 i (List.mem_range.2 hlt)
    simp only [hi, hj, Bool.or_eq_true, Bool.and_eq_true, Bool.not_eq_true'] at h2
    rcases h2 with h2 | ⟨⟨h2, h3⟩, h4⟩
    · exact .inl h2
    · exact .inr ⟨h2, h3, fun ⟨q1, q2⟩ => by rw [q1, q2] at h4; simp at h4⟩
  have R : Reg b T call ops hs s.ctr tr l := {
    hl := hhl
    earlyAt := fun i o c cs ho hc => ⟨(hE i o c cs ho hc).1, (hE i o c cs ho hc).2.1⟩
    stepAt := fun i o ho hc => by obtain ⟨s1, h1, h2, _⟩ := hS i o ho hc; exact ⟨s1, h1, h2⟩
    ear := fun i o c cs ho hc => by rw [tr0]; exact HS.ear i o c cs (by simpa using ho) hc
    late := fun i o ho hc => HS.late i o (by simpa using ho) hc
    inj := HS.inj
    lt := fun i c cs hc => by rw [tr0]; exact HS.lt i c cs hc
    rd := fun i e o oe g se ho hc hg hr hoe hce' hst => by
      obtain ⟨s1, h1, h2, h3⟩ := hS i o ho hc
      obtain ⟨s2, k1, k2, k3⟩ := hS e oe hoe hce'
      rw [hst] at k1
      cases k1
      exact (hlogAt i _ h3).1 g (by simp [hg, hr]) e _ k3
    al := fun i e oe c cs se hc hoe hce' hst => by
      have hi : i < ops.size := by rw [← hhl]; exact (List.getElem?_eq_some_iff.1 hc).1
      obtain ⟨_, _, h3⟩ := hE i ops[i] c cs (by simp [hi]) hc
      obtain ⟨s2, k1, k2, k3⟩ := hS e oe hoe hce'
      rw [hst] at k1
      cases k1
      exact (hlogAt i _ h3).2 c rfl e _ k3
    two := fun i j x y hi hj hne => by
      rcases Nat.lt_or_gt_of_ne hne with hlt | hlt
      · rcases htwo i j x y hi hj hlt with h | ⟨h, _, h2⟩
        · exact .inl h
        · exact .inr (.inr ⟨h, h2⟩)
      · rcases htwo j i y x hj hi hlt with h | ⟨_, h, h2⟩
        · exact .inr (.inl h)
        · exact .inr (.inr ⟨h, fun q => h2 ⟨q.2, q.1⟩⟩)
    up := fun i j h hj => hup j hj i h
    dn := hdn }
  refine wp_region_any hm ?_
  refine draw_steps (m := 0) (ρ := ρ) (t := t) (ρ0 := ρ) (d0 := a.defers) hT hcall hce R (by rw [tr0]; exact hx.ctr) (fun ρ' a' w' k1 k2 k3 k4 => ?_) ops.size _ a _ ?_ ?_
  · rw [trn] at k2 k3
    exact ⟨trivial, k4, ρ', k1, k2, k3⟩
  · simp [List.countP_replicate]
  · have hfalse : ∀ j, (Array.replicate ops.size false).getD j false = false := fun j => by
      simp only [Array.getD_eq_getD_getElem?, Array.getElem?_replicate]
      split <;> rfl
    refine ⟨by simp, fun j o hj h => (by rw [hfalse] at h; cases h), ht, fun d => ⟨0, by omega, (by rw [tr0]), fun j o hj hd => (by rw [hfalse]; simp)⟩, (by rw [tr0]), by omega, fun e o h1 h2 h3 => (by rw [hfalse]; simp), ?_, fun i c cs h1 _ j => ?_, Loc.lex_refl _ _, rfl⟩
    · rw [tr0]
      -- the early variables' groups are there; nothing of them lies anywhere yet
      have grow : ∀ (l : List Oper) (gs : List (List AV)) (s s' : St) (hs : List (Option (Nat × List AV))), hoist b T l gs s = some (s', hs) → ∀ {w : World}, Sim w0 B0 ρ s w → Sim w0 B0 ρ s' w := by
        intro l
        induction l with
        | nil => intro gs s s' hs h w hw; simp only [hoist, Option.some.injEq, Prod.mk.injEq] at h; obtain ⟨rfl, _⟩ := h; exact hw
        | cons o l ih =>
          intro gs s s' hs h w hw
          simp only [hoist] at h
          repeat' split at h
          all_goals first
            | (cases h; done)
            | (rename_i h2; simp only [Option.some.injEq, Prod.mk.injEq] at h; obtain ⟨rfl, _⟩ := h; first | exact ih _ _ _ _ h2 (hw.newG _) | exact ih _ _ _ _ h2 hw)
      exact (grow _ _ _ _ _ hh hsim).drew
    · cases hq : ρ c j with
      | none => rfl
      | some x =>
        have h2 := hsim.ctr _ _ _ hq
        have h3 := (HS.lt i c cs h1).1
        omega

/-- No function of the program is the one that the model answers by itself. -/
def NoNG (P : Program) : Prop := ∀ (f : FuncId) (fn : Func), P.funcs[f]? = some fn → (fn.name == "runtime.NumGoroutine") = false

def resF (tm : Array Value) : ResultVar → Sem Value
  | .tmp t => pure (tm.getD t Go.undef)
  | .cell a t => do loadVar t (← asAddr (tm.getD a Go.undef))
theorem results_eq (fn : Func) (tm : Array Value) : results fn tm = (do let vs ← fn.results.mapM (resF tm); pure (if h : vs.size = 1 then vs[0] else .tuple vs)) := rfl
theorem getD_VR {ρ : Loc} {t : TL} {a : Act} (h : TR w0 B0 ρ t a.tmps) (i : Nat) : VR w0 B0 ρ (t.get i) (a.tmps.getD i Go.undef) := h.getD i
theorem run_resM (hT : TabOk P T) {ρ : Loc} {t : TL} {s : St} {a : Act} {w : World} (ht : TR w0 B0 ρ t a.tmps) (hs : Sim w0 B0 ρ s w) : ∀ {l : List ResultVar} {us : List AV}, resA T t s l = some us →
    ∃ vs, (l.mapM (resF a.tmps)).run P w = .ok vs w ∧ CR w0 B0 ρ us vs
  | [], us, h => by
    simp only [resA, Option.some.injEq] at h
    subst h
    exact ⟨[], by simp, CR.nil⟩
  | .tmp i :: l, us, h => by
    simp only [resA] at h
    cases h1 : resA T t s l with
    | none => simp [h1] at h
    | some vs =>
      simp only [h1, Option.some.injEq] at h
      subst h
      obtain ⟨vs', k1, k2⟩ := run_resM hT ht hs h1
      exact ⟨a.tmps.getD i Go.undef :: vs', by simp [List.mapM_cons, resF, k1], CR.cons (getD_VR ht i) k2⟩
  | .cell q tt :: l, us, h => by
    simp only [resA] at h
    have hr := getD_VR ht q
    split at h
    · rename_i i g j off hti hg
      rw [hg] at hr
      split at h
      · cases h
      · rename_i cs hcs
        split at h
        · rename_i v vs hof h1
          simp only [Option.some.injEq] at h
          subst h
          obtain ⟨vs', k1, k2⟩ := run_resM hT ht hs h1
          generalize hq : a.tmps.getD q Go.undef = qv at hr
          cases hr with
          | ptr _ _ _ b st n hρ =>
          obtain ⟨xs, x1, x2, x3⟩ := hs.read hρ hcs
          have hl := run_loadVar' (P := P) (hT tt i hti) x1 x3
          refine ⟨(if i.sh.isAgg then .agg xs.toArray else xs.getD 0 Go.undef) :: vs', ?_, CR.cons (ofCells_VR hof x2) k2⟩
          simp only [List.mapM_cons, resF, hq, asAddr, Sem.run_bind, Sem.run_pure, Result.andThen_ok, hl, k1]
        · cases h
    · cases h

theorem call_sound (hm : P.follows .mixedOrders = true) (hT : TabOk P T) (hng : NoNG P) : ∀ n, CallOk P w0 B0 (evCall P T n)
  | 0 => fun f args s v s' h => by simp [evCall] at h
  | n + 1 => fun f args s v s' h => by
    have ih := call_sound hm hT hng n
    have hce := Ext.calls (T := T) (P := P) n
    simp only [evCall] at h
    split at h
    · cases h
    · rename_i fn hfn
      split at h
      · cases h
      · rename_i c hc
        refine ⟨⟨fn, hfn, by simp [hc], hng f fn hfn⟩, fun ρ w args' hs hargs => ?_⟩
        have hl : args.length = args'.size := by have := hargs.1; rwa [Array.length_toList] at this
        have htr : TR w0 B0 ρ (TL.start args fn.ntmps) (args' ++ Array.replicate (fn.ntmps - args'.size) Go.undef) := by
          have hsz : (args' ++ Array.replicate (fn.ntmps - args'.size) Go.undef).size = args'.size + (fn.ntmps - args'.size) := by simp
          refine ⟨by rw [TL.n_start, hsz, hl], fun i v hv => ?_, fun i hi => ?_⟩
          · rw [TL.get_start]
            rw [Array.getElem?_append] at hv
            split at hv
            · rename_i hlt
              have hlt' : i < args.length := by omega
              exact hargs.2 i _ v (by simp [List.getD, hlt']) (by simpa using hv)
            · rename_i hlt
              rw [Array.getElem?_replicate] at hv
              split at hv
              · cases hv
                rw [List.getD_eq_getElem?_getD, List.getElem?_eq_none (by omega)]
                exact .undef
              · cases hv
          · rw [TL.get_start, List.getD_eq_getElem?_getD, List.getElem?_eq_none (by omega)]
            rfl
        cases hev : evCode T (evCall P T n) n c (TL.start args fn.ntmps) s with
        | none => simp [hev] at h
        | some r =>
          obtain ⟨x, t1, s1⟩ := r
          have hcode : c.wp P (After w0 B0 ρ s.ctr x t1 s1 []) { tmps := args' ++ Array.replicate (fn.ntmps - args'.size) Go.undef, defers := [] } w := (code_sound hT ih hce (draw_sound hm hT ih hce) n).1 c (show TR w0 B0 ρ _ (Act.mk (args' ++ Array.replicate (fn.ntmps - args'.size) Go.undef) []).tmps from htr) hs hev
          -- the end, by either way out
          have fin : (match resA T t1 s1 fn.results.toList with
              | some [v] => some (v, s1)
              | some vs => some (.tup vs, s1)
              | none => none) = some (v, s') → (x = .normal ∨ x = .ret) → Calls P f args' w fun e w' => ∃ v' ρ', e = .returned v' ∧ ρ.lex s.ctr ρ' ∧ Sim w0 B0 ρ' s' w' ∧ VR w0 B0 ρ' v v' := by
            intro hres hx
            refine calls_of_wp hfn hc (wp_mono hcode (fun e a' w' ⟨k1, k2, ρ', k3, k4, k5⟩ => ?_))
            have hb : bodyPost P fn (fun e w' => ∃ v' ρ', e = .returned v' ∧ ρ.lex s.ctr ρ' ∧ Sim w0 B0 ρ' s' w' ∧ VR w0 B0 ρ' v v') .ret a' w' := by
              refine ⟨k2, ?_⟩
              cases hr : resA T t1 s1 fn.results.toList with
              | none => simp [hr] at hres
              | some us =>
                obtain ⟨vs, m1, m2⟩ := run_resM (P := P) hT k5 k4 hr
                have hrun : (results fn a'.tmps).run P w' = .ok (if h : vs.toArray.size = 1 then vs.toArray[0] else .tuple vs.toArray) w' := by
                  rw [results_eq, Array.mapM_eq_mapM_toList]
                  simp only [Sem.run_bind, Sem.run_map, m1, Result.andThen_ok, Sem.run_pure]
                refine ⟨_, hrun, ?_⟩
                rw [hr] at hres
                split at hres
                · rename_i u hu
                  simp only [Option.some.injEq] at hu
                  subst hu
                  simp only [Option.some.injEq, Prod.mk.injEq] at hres
                  obtain ⟨rfl, rfl⟩ := hres
                  obtain ⟨v', rfl, hv'⟩ := m2.one
                  exact ⟨v', ρ', by simp, k3, k4, hv'⟩
                · rename_i us' hne hu
                  simp only [Option.some.injEq] at hu
                  subst hu
                  simp only [Option.some.injEq, Prod.mk.injEq] at hres
                  obtain ⟨rfl, rfl⟩ := hres
                  have hne1 : ¬ vs.toArray.size = 1 := by
                    intro h1
                    have : us.length = 1 := by rw [m2.1]; simpa using h1
                    match us, this with
                    | [u], _ => exact hne u rfl
                  exact ⟨.tuple vs.toArray, ρ', by rw [dif_neg hne1], k3, k4, .tup us _ (by simpa using m2.1) (fun i u v hu hv => m2.2 i u v hu (by simpa using hv))⟩
                · cases hres
            cases e with
            | normal => exact hb
            | ret => exact hb
            | _ => rcases hx with rfl | rfl <;> exact k1.elim
          rw [hev] at h
          cases x with
          | normal => exact fin h (.inl rfl)
          | ret => exact fin h (.inr rfl)
          | exit id => simp at h
          | goto l => simp at h
end
end Go.Ab
/- More rounds: what the evaluator answers it answers with more rounds too. -/
namespace Go.Ab
section
variable {T : Tab} {call call' : FuncId → List AV → St → Option (AV × St)}
def CallLe (call call' : FuncId → List AV → St → Option (AV × St)) : Prop := ∀ f a s r, call f a s = some r → call' f a s = some r
end
end Go.Ab
/- A drawn region that turns nothing answers as the text's order does. -/
namespace Go.Ab
section
variable {T : Tab} {call : FuncId → List AV → St → Option (AV × St)}
def stillOps (l : List Oper) : Bool := l.all fun o => !Op.eff o.op
end
end Go.Ab
/- The type table of the program, as the abstract machine reads it (printed by a program of this session out of the translation's own rows; the kernel checks it). -/
namespace Go.Ab
set_option maxRecDepth 100000 in
def Tt0 : Tr TI := (.node none (.node (some ⟨.scalar, 1, 8, [.nilf], false⟩) (.node (some ⟨.num .i64, 1, 8, [.int .i64 0], false⟩) (.node none (.node none (.node (some ⟨.scalar, 1, 8, [.nilf], false⟩) (.node (some ⟨.scalar, 1, 8, [.nilf], false⟩) (.node (some ⟨.scalar, 1, 8, [.nilf], false⟩) .leaf .leaf) .leaf) (.node (some ⟨.scalar, 1, 8, [.nilf], false⟩) .leaf .leaf)) (.node (some ⟨.struct [(0, 1, false), (1, 1, false), (2, 1, false), (3, 1, false), (4, 1, false), (5, 1, false)], 6, 96, [.int .u64 0, .nils, .nils, .int .i64 0, .int .i64 0, .nils], false⟩) (.node (some ⟨.slice 9, 1, 24, [.nils], false⟩) (.node (some ⟨.scalar, 1, 8, [.nilf], false⟩) .leaf .leaf) .leaf) (.node (some ⟨.scalar, 1, 8, [.nilf], false⟩) .leaf .leaf))) (.node (some ⟨.scalar, 1, 8, [.nilf], false⟩) (.node (some ⟨.scalar, 1, 8, [.nilf], false⟩) (.node (some ⟨.struct [(0, 1, false), (1, 1, false)], 2, 16, [.int .i64 0, .int .u64 0], true⟩) (.node (some ⟨.num .u32, 1, 4, [.int .u32 0], false⟩) .leaf .leaf) .leaf) (.node (some ⟨.scalar, 1, 8, [.nilf], false⟩) .leaf .leaf)) (.node (some ⟨.struct [(0, 1, false), (1, 1, false), (2, 1, false), (3, 1, false)], 4, 96, [.nils, .nils, .nils, .nils], false⟩) (.node (some ⟨.scalar, 1, 8, [.nilf], false⟩) .leaf .leaf) (.node (some ⟨.scalar, 1, 8, [.nilf], false⟩) .leaf .leaf)))) (.node none (.node none (.node (some ⟨.scalar, 1, 8, [.nilf], false⟩) (.node (some ⟨.scalar, 1, 8, [.nilf], false⟩) (.node (some ⟨.scalar, 1, 8, [.nilf], false⟩) .leaf .leaf) .leaf) (.node (some ⟨.scalar, 1, 8, [.nilf], false⟩) .leaf .leaf)) (.node (some ⟨.scalar, 1, 8, [.nilf], false⟩) (.node (some ⟨.scalar, 1, 8, [.nilf], false⟩) .leaf .leaf) (.node (some ⟨.struct [(0, 1, false), (1, 1, false), (2, 1, false)], 3, 32, [.int .i64 0, .int .i64 0, .str ⟨#[]⟩], true⟩) .leaf .leaf))) (.node (some ⟨.scalar, 1, 8, [.nilf], false⟩) (.node (some ⟨.scalar, 1, 8, [.nilf], false⟩) (.node (some ⟨.scalar, 1, 8, [.nilf], false⟩) (.node (some ⟨.scalar, 1, 8, [.nilf], false⟩) .leaf .leaf) .leaf) (.node (some ⟨.scalar, 1, 8, [.nilf], false⟩) .leaf .leaf)) (.node (some ⟨.scalar, 1, 8, [.nilf], false⟩) (.node (some ⟨.scalar, 1, 8, [.nilf], false⟩) .leaf .leaf) (.node (some ⟨.array 2 3, 2, 16, [.int .i64 0, .int .i64 0], false⟩) .leaf .leaf))))) (.node (some ⟨.num .u8, 1, 1, [.int .u8 0], false⟩) (.node (some ⟨.text, 1, 16, [.str ⟨#[]⟩], false⟩) (.node none (.node none (.node (some ⟨.scalar, 1, 8, [.nilf], false⟩) (.node (some ⟨.scalar, 1, 8, [.nilf], false⟩) .leaf .leaf) .leaf) (.node (some ⟨.map 3 2, 1, 8, [.nilm], false⟩) .leaf .leaf)) (.node (some ⟨.struct [(0, 1, false), (1, 1, false)], 2, 16, [.int .i64 0, .int .i64 0], true⟩) (.node (some ⟨.struct [(0, 1, false), (1, 1, false), (2, 1, false), (3, 1, false)], 4, 72, [.int .i64 0, .str ⟨#[]⟩, .nils, .nils], false⟩) .leaf .leaf) (.node (some ⟨.struct [(0, 1, false), (1, 1, false), (2, 1, false)], 3, 24, [.int .i64 0, .int .i64 0, .int .i64 0], true⟩) .leaf .leaf))) (.node none (.node (some ⟨.scalar, 1, 8, [.nilf], false⟩) (.node (some ⟨.scalar, 1, 8, [.nilf], false⟩) (.node (some ⟨.scalar, 1, 8, [.nilf], false⟩) .leaf .leaf) .leaf) (.node (some ⟨.scalar, 1, 8, [.nilf], false⟩) .leaf .leaf)) (.node (some ⟨.num .i64, 1, 8, [.int .i64 0], false⟩) (.node (some ⟨.scalar, 1, 8, [.nilf], false⟩) (.node (some ⟨.scalar, 1, 8, [.nilp], false⟩) .leaf .leaf) .leaf) (.node (some ⟨.scalar, 1, 8, [.nilf], false⟩) .leaf .leaf)))) (.node none (.node (some ⟨.num .i32, 1, 4, [.int .i32 0], false⟩) (.node (some ⟨.scalar, 1, 8, [.nilf], false⟩) (.node (some ⟨.scalar, 1, 8, [.nilf], false⟩) (.node (some ⟨.scalar, 1, 8, [.nilf], false⟩) .leaf .leaf) .leaf) (.node (some ⟨.scalar, 1, 8, [.nilf], false⟩) .leaf .leaf)) (.node (some ⟨.slice 48, 1, 24, [.nils], false⟩) (.node (some ⟨.scalar, 1, 8, [.nilf], false⟩) (.node (some ⟨.scalar, 1, 8, [.nilf], false⟩) .leaf .leaf) .leaf) (.node (some ⟨.num .u64, 1, 8, [.int .u64 0], false⟩) .leaf .leaf))) (.node (some ⟨.scalar, 1, 8, [.nilf], false⟩) (.node (some ⟨.num .u64, 1, 8, [.int .u64 0], false⟩) (.node (some ⟨.scalar, 1, 8, [.nilf], false⟩) (.node (some ⟨.scalar, 1, 8, [.nilf], false⟩) .leaf .leaf) .leaf) (.node (some ⟨.scalar, 1, 8, [.nilf], false⟩) .leaf .leaf)) (.node (some ⟨.scalar, 1, 8, [.nilf], false⟩) (.node (some ⟨.scalar, 1, 8, [.nilf], false⟩) .leaf .leaf) (.node (some ⟨.scalar, 1, 8, [.nilf], false⟩) .leaf .leaf)))))) (.node (some ⟨.num .i64, 1, 8, [.int .i64 0], false⟩) (.node (some ⟨.boolean, 1, 1, [.bool false], false⟩) (.node none (.node none (.node (some ⟨.scalar, 1, 8, [.nilf], false⟩) (.node (some ⟨.slice 55, 1, 24, [.nils], false⟩) (.node (some ⟨.slice 52, 1, 24, [.nils], false⟩) .leaf .leaf) .leaf) (.node (some ⟨.scalar, 1, 8, [.nilf], false⟩) .leaf .leaf)) (.node (some ⟨.struct [(0, 1, false), (1, 1, false), (2, 1, false), (3, 1, false), (4, 1, false), (5, 1, false)], 6, 96, [.int .u64 0, .nils, .nils, .int .i64 0, .int .i64 0, .nils], false⟩) (.node (some ⟨.slice 84, 1, 24, [.nils], false⟩) .leaf .leaf) (.node (some ⟨.struct [(0, 1, false), (1, 1, false), (2, 1, false)], 3, 24, [.int .i64 0, .int .i64 0, .int .i64 0], true⟩) .leaf .leaf))) (.node (some ⟨.slice 3, 1, 24, [.nils], false⟩) (.node (some ⟨.slice 24, 1, 24, [.nils], false⟩) (.node (some ⟨.scalar, 1, 8, [.nilf], false⟩) .leaf .leaf) (.node (some ⟨.scalar, 1, 8, [.nilf], false⟩) .leaf .leaf)) (.node (some ⟨.scalar, 1, 8, [.nilf], false⟩) (.node (some ⟨.scalar, 1, 8, [.nilf], false⟩) (.node (some ⟨.scalar, 1, 8, [.nilf], false⟩) .leaf .leaf) .leaf) (.node (some ⟨.scalar, 1, 8, [.nilf], false⟩) .leaf .leaf)))) (.node (some ⟨.num .u64, 1, 8, [.int .u64 0], false⟩) (.node none (.node (some ⟨.scalar, 1, 8, [.nilf], false⟩) (.node (some ⟨.scalar, 1, 8, [.nilf], false⟩) (.node (some ⟨.scalar, 1, 8, [.nilf], false⟩) .leaf .leaf) .leaf) (.node (some ⟨.scalar, 1, 8, [.nilf], false⟩) .leaf .leaf)) (.node (some ⟨.slice 71, 1, 24, [.nils], false⟩) (.node (some ⟨.slice 116, 1, 24, [.nils], false⟩) .leaf .leaf) (.node (some ⟨.struct [(0, 1, false), (1, 1, false), (2, 1, false)], 3, 32, [.int .i64 0, .int .i64 0, .str ⟨#[]⟩], true⟩) .leaf .leaf))) (.node (some ⟨.scalar, 1, 8, [.nilf], false⟩) (.node (some ⟨.num .u64, 1, 8, [.int .u64 0], false⟩) (.node (some ⟨.scalar, 1, 8, [.nilf], false⟩) (.node (some ⟨.scalar, 1, 8, [.nilf], false⟩) .leaf .leaf) .leaf) (.node (some ⟨.slice 46, 1, 24, [.nils], false⟩) .leaf .leaf)) (.node none (.node (some ⟨.scalar, 1, 8, [.nilf], false⟩) .leaf .leaf) .leaf)))) (.node none (.node none (.node none (.node (some ⟨.scalar, 1, 8, [.nilf], false⟩) (.node (some ⟨.scalar, 1, 8, [.nilf], false⟩) (.node (some ⟨.scalar, 1, 8, [.nilf], false⟩) .leaf .leaf) .leaf) (.node (some ⟨.scalar, 1, 8, [.nilf], false⟩) .leaf .leaf)) (.node (some ⟨.struct [(0, 1, false), (1, 1, false)], 2, 16, [.int .i64 0, .int .i64 0], true⟩) (.node (some ⟨.struct [(0, 1, false), (1, 1, false), (2, 1, false), (3, 1, false)], 4, 72, [.int .i64 0, .str ⟨#[]⟩, .nils, .nils], false⟩) .leaf .leaf) (.node (some ⟨.scalar, 1, 8, [.nilf], false⟩) .leaf .leaf))) (.node (some ⟨.scalar, 1, 8, [.nilf], false⟩) (.node (some ⟨.slice 4, 1, 24, [.nils], false⟩) (.node (some ⟨.scalar, 1, 8, [.nilf], false⟩) .leaf .leaf) (.node (some ⟨.scalar, 1, 8, [.nilf], false⟩) .leaf .leaf)) (.node none (.node (some ⟨.slice 2, 1, 24, [.nils], false⟩) .leaf .leaf) (.node (some ⟨.scalar, 1, 8, [.nilf], false⟩) .leaf .leaf)))) (.node none (.node (some ⟨.slice 82, 1, 24, [.nils], false⟩) (.node (some ⟨.slice 30, 1, 24, [.nils], false⟩) (.node (some ⟨.struct [(0, 1, false), (1, 1, false)], 2, 16, [.int .i64 0, .int .u64 0], true⟩) (.node (some ⟨.scalar, 1, 8, [.nilf], false⟩) .leaf .leaf) .leaf) (.node (some ⟨.scalar, 1, 8, [.nilf], false⟩) .leaf .leaf)) (.node (some ⟨.struct [(0, 1, false), (1, 1, false), (2, 1, false), (3, 1, false)], 4, 96, [.nils, .nils, .nils, .nils], false⟩) (.node (some ⟨.scalar, 1, 8, [.nilf], false⟩) .leaf .leaf) .leaf)) (.node (some ⟨.slice 50, 1, 24, [.nils], false⟩) (.node (some ⟨.slice 45, 1, 24, [.nils], false⟩) (.node (some ⟨.scalar, 1, 8, [.nilf], false⟩) (.node (some ⟨.scalar, 1, 8, [.nilf], false⟩) .leaf .leaf) .leaf) (.node (some ⟨.scalar, 1, 8, [.nilf], false⟩) .leaf .leaf)) (.node (some ⟨.scalar, 1, 8, [.nilf], false⟩) (.node (some ⟨.scalar, 1, 8, [.nilf], false⟩) (.node (some ⟨.scalar, 1, 8, [.nilp], false⟩) .leaf .leaf) .leaf) (.node (some ⟨.scalar, 1, 8, [.nilf], false⟩) .leaf .leaf)))))))
noncomputable def Tt : Tab := Tt0.get
end Go.Ab
/- Closed functions that are known: the chapters' examples hold. -/
namespace Go.Ab
def Kt : FuncId → Option Bool := fun f => bif Nat.beq f 16 then some true else bif Nat.beq f 33 then some true else none
end Go.Ab
/- The type table is checked by the kernel: what the rows say is what the program says. -/
namespace Go.Ab
open Go.RowKit

def leafB : AV → Value → Bool
  | .int k n, .int k' m => k == k' && n == m
  | .bool a, .bool b => a == b
  | .str a, .string b => a.data == b.data
  | .nilp, .pointer none => true
  | .nils, .slice none 0 0 => true
  | .nilf, .nilFunc => true
  | .nili, .nilIface => true
  | .nilm, .map none => true
  | _, _ => false
theorem leafB_ok {u : AV} {v : Value} (h : leafB u v = true) : ofVal v = some u := by
  unfold leafB at h
  split at h
  case h_3 => simp only [beq_iff_eq] at h; simp [ofVal, ByteArray.ext h]
  all_goals simp_all [ofVal]
def zeroB : List AV → List Value → Bool
  | [], [] => true
  | u :: r, v :: r' => leafB u v && zeroB r r'
  | _, _ => false
theorem zeroB_len : ∀ {us : List AV} {vs : List Value}, zeroB us vs = true → vs.length = us.length
  | [], [], _ => rfl
  | u :: r, v :: r', h => by simp only [zeroB, Bool.and_eq_true] at h; simp [zeroB_len h.2]
  | [], _ :: _, h => by simp [zeroB] at h
  | _ :: _, [], h => by simp [zeroB] at h
theorem zeroB_get : ∀ {us : List AV} {vs : List Value}, zeroB us vs = true → ∀ (k : Nat) (u : AV) (v : Value), us[k]? = some u → vs[k]? = some v → ofVal v = some u
  | [], [], _, k, u, v, hu, _ => by simp at hu
  | u :: r, v :: r', h, k, x, y, hu, hv => by
    simp only [zeroB, Bool.and_eq_true] at h
    cases k with
    | zero => simp at hu hv; subst hu; subst hv; exact leafB_ok h.1
    | succ k => exact zeroB_get h.2 k x y (by simpa using hu) (by simpa using hv)
  | [], _ :: _, h, _, _, _, _, _ => by simp [zeroB] at h
  | _ :: _, [], h, _, _, _, _, _ => by simp [zeroB] at h

def fldsB (P : Program) : List (Nat × Nat × Bool) → List Field → Bool
  | [], [] => true
  | q :: r, f :: r' => f.offset == q.1 && (match P.info? f.type with | some ti => ti.size == q.2.1 | none => false) && (match P.underlying f.type with | some d => aggD d == q.2.2 | none => false) && fldsB P r r'
  | _, _ => false
theorem fldsB_len {P : Program} : ∀ {fs : List (Nat × Nat × Bool)} {gs : List Field}, fldsB P fs gs = true → gs.length = fs.length
  | [], [], _ => rfl
  | u :: r, v :: r', h => by simp only [fldsB, Bool.and_eq_true] at h; simp [fldsB_len h.2]
  | [], _ :: _, h => by simp [fldsB] at h
  | _ :: _, [], h => by simp [fldsB] at h
theorem fldsB_get {P : Program} : ∀ {fs : List (Nat × Nat × Bool)} {gs : List Field}, fldsB P fs gs = true → ∀ (k : Nat) (f : Field) (q : Nat × Nat × Bool), gs[k]? = some f → fs[k]? = some q →
    f.offset = q.1 ∧ (∃ ti, P.info? f.type = some ti ∧ ti.size = q.2.1) ∧ ∃ d, P.underlying f.type = some d ∧ aggD d = q.2.2
  | [], [], _, k, u, v, hu, _ => by simp at hu
  | u :: r, v :: r', h, k, x, y, hu, hv => by
    simp only [fldsB, Bool.and_eq_true] at h
    cases k with
    | zero =>
      simp at hu hv; subst hu; subst hv
      obtain ⟨⟨⟨h1, h2⟩, h3⟩, -⟩ := h
      refine ⟨by simpa using h1, ?_, ?_⟩
      · split at h2
        · exact ⟨_, ‹_›, by simpa using h2⟩
        · cases h2
      · split at h3
        · exact ⟨_, ‹_›, by simpa using h3⟩
        · cases h3
    | succ k => exact fldsB_get h.2 k x y (by simpa using hu) (by simpa using hv)
  | [], _ :: _, h, _, _, _, _, _ => by simp [fldsB] at h
  | _ :: _, [], h, _, _, _, _, _ => by simp [fldsB] at h

def shB (P : Program) (t : TypeId) (s : Sh) : Bool :=
  match s, P.underlying t with
  | .scalar, some d => !aggD d
  | .text, some .string => true
  | .boolean, some .bool => true
  | .num k, some (.int k') => k == k'
  | .map k e, some (.map k' e') => k == k' && e == e'
  | .slice e, some (.slice e') => e == e'
  | .array n e, some (.array n' e') => n == n' && e == e'
  | .struct fs, some (.struct gs) => fldsB P fs gs.toList
  | _, _ => false
theorem shB_ok {P : Program} {t : TypeId} {s : Sh} (h : shB P t s = true) : ShOk P t s := by
  unfold shB at h
  split at h
  · exact ⟨_, ‹_›, by simpa using h⟩
  · assumption
  · assumption
  · simp only [beq_iff_eq] at h; subst h; assumption
  · simp only [Bool.and_eq_true, beq_iff_eq] at h; obtain ⟨rfl, rfl⟩ := h; assumption
  · simp only [beq_iff_eq] at h; subst h; assumption
  · simp only [Bool.and_eq_true, beq_iff_eq] at h; obtain ⟨rfl, rfl⟩ := h; assumption
  · rename_i fs gs hu
    refine ⟨gs, hu, by simpa using fldsB_len h, fun k f q hf hq => fldsB_get h k f q (by simpa using hf) hq⟩
  · cases h

def flatFs (P : Program) : Nat → List AV → List Field → Bool
  | _, [], [] => true
  | k, c :: z, f :: r => f.name != "_" && f.offset == k && (match c, P.underlying f.type with | .int _ _, some (.int _) | .bool _, some .bool | .str _, some .string => true | _, _ => false) && flatFs P (k + 1) z r
  | _, _, _ => false
def flatB (P : Program) (t : TypeId) (z : List AV) : Bool :=
  !P.stoodInHeld t && !P.eqGuardType P.depth t && match P.underlying t with | some (.struct fs) => flatFs P 0 z fs.toList | _ => false

section
variable {P : Program} {w0 : World} {B0 : Nat} {ρ : Loc}
theorem run_part_cell {t : TypeId} {d : TypeDesc} (h : P.underlying t = some d) (hd : aggD d = false) {cs : Array Value} {off : Nat} {v : Value} (hv : cs[off]? = some v) (w : World) : (part t cs off).run P w = .ok v w := by
  unfold part
  simp [run_isAgg' h, hd, hv]
theorem eqf_cons' {d : Nat} {xs ys : Array Value} {f : Field} {fs : List Field} {a b : Value} {r s : Bool} {w : World} (hn : (f.name != "_") = true) (ha : (part f.type xs f.offset).run P w = .ok a w) (hb : (part f.type ys f.offset).run P w = .ok b w) (he : (Op.equalIn d f.type a b).run P w = .ok r w) (hr : (Op.eqFields d xs ys fs).run P w = .ok s w) : (Op.eqFields d xs ys (f :: fs)).run P w = .ok (r && s) w := by
  have hn' : f.name ≠ "_" := by simpa using hn
  rw [Op.eqFields]
  simp only [if_pos hn', Sem.run_bind, ha, hb, he, Result.andThen_ok]
  cases r
  · simp
  · simpa using hr
theorem flatEq_cons {c : AV} {z as0 bs : List AV} {q : Bool} (h : flatEq (c :: z) as0 bs = some q) : ∃ a b as0' bs' r s, as0 = a :: as0' ∧ bs = b :: bs' ∧ flatEq z as0' bs' = some s ∧ q = (r && s) ∧
    ((∃ k0 m0 k1 x y, c = .int k0 m0 ∧ a = .int k1 x ∧ b = .int k1 y ∧ r = (x == y)) ∨ (∃ m0 x y, c = .bool m0 ∧ a = .bool x ∧ b = .bool y ∧ r = (x == y)) ∨ (∃ m0 x y, c = .str m0 ∧ a = .str x ∧ b = .str y ∧ r = (x == y))) := by
  cases as0 with
  | nil => cases c <;> simp [flatEq] at h
  | cons a as0 =>
    cases bs with
    | nil => cases c <;> cases a <;> simp [flatEq] at h
    | cons b bs =>
      refine ⟨a, b, as0, bs, ?_⟩
      cases c with
      | int k0 m0 =>
        cases a with
        | int k x =>
          cases b with
          | int k' y =>
            simp only [flatEq] at h
            split at h
            · subst k'
              cases hs : flatEq z as0 bs with
              | none => simp [hs] at h
              | some s =>
                simp only [hs, Option.map_some, Option.some.injEq] at h
                exact ⟨_, s, rfl, rfl, rfl, h.symm, .inl ⟨_, _, _, _, _, rfl, rfl, rfl, rfl⟩⟩
            · cases h
          | _ => simp [flatEq] at h
        | _ => simp [flatEq] at h
      | bool m0 =>
        cases a with
        | bool x =>
          cases b with
          | bool y =>
            simp only [flatEq] at h
            cases hs : flatEq z as0 bs with
            | none => simp [hs] at h
            | some s =>
              simp only [hs, Option.map_some, Option.some.injEq] at h
              exact ⟨_, s, rfl, rfl, rfl, h.symm, .inr (.inl ⟨_, _, _, rfl, rfl, rfl, rfl⟩)⟩
          | _ => simp [flatEq] at h
        | _ => simp [flatEq] at h
      | str m0 =>
        cases a with
        | str x =>
          cases b with
          | str y =>
            simp only [flatEq] at h
            cases hs : flatEq z as0 bs with
            | none => simp [hs] at h
            | some s =>
              simp only [hs, Option.map_some, Option.some.injEq] at h
              exact ⟨_, s, rfl, rfl, rfl, h.symm, .inr (.inr ⟨_, _, _, rfl, rfl, rfl, rfl⟩)⟩
          | _ => simp [flatEq] at h
        | _ => simp [flatEq] at h
      | _ => simp [flatEq] at h

theorem flatFs_ok {d : Nat} {xs ys : Array Value} {w : World} : ∀ {z : List AV} {fs : List Field} {as0 bs : List AV} {k : Nat} {q : Bool}, flatFs P k z fs = true → flatEq z as0 bs = some q →
    (∀ i u v, as0[i]? = some u → xs[k + i]? = some v → VR w0 B0 ρ u v) → (∀ i u v, bs[i]? = some u → ys[k + i]? = some v → VR w0 B0 ρ u v) → xs.size = k + as0.length → ys.size = k + bs.length →
    (Op.eqFields (d + 1) xs ys fs).run P w = .ok q w
  | [], [], as0, bs, k, q, _, h, _, _, _, _ => by
    cases as0 <;> cases bs <;> simp [flatEq] at h
    subst h
    simp [Op.eqFields]
  | [], _ :: _, _, _, _, _, h, _, _, _, _, _ => by simp [flatFs] at h
  | _ :: _, [], _, _, _, _, h, _, _, _, _, _ => by simp [flatFs] at h
  | c :: z, f :: fs, as0, bs, k, q, hf, h, hx, hy, lx, ly => by
    simp only [flatFs, Bool.and_eq_true, beq_iff_eq] at hf
    obtain ⟨⟨⟨h1, h2⟩, h3⟩, h4⟩ := hf
    have key : ∃ a b as0' bs' r s, as0 = a :: as0' ∧ bs = b :: bs' ∧ flatEq z as0' bs' = some s ∧ q = (r && s) ∧
        ∀ a' b', VR w0 B0 ρ a a' → VR w0 B0 ρ b b' → (∃ dd, P.underlying f.type = some dd ∧ aggD dd = false) ∧ (Op.equalIn (d + 1) f.type a' b').run P w = .ok r w := by
      obtain ⟨a, b, as0', bs', r, s, e1, e2, e3, e4, e5⟩ := flatEq_cons h
      refine ⟨a, b, as0', bs', r, s, e1, e2, e3, e4, fun a' b' ha hb => ?_⟩
      rcases e5 with ⟨k0, m0, k1, x, y, rfl, rfl, rfl, rfl⟩ | ⟨m0, x, y, rfl, rfl, rfl, rfl⟩ | ⟨m0, x, y, rfl, rfl, rfl, rfl⟩
      · cases ha; cases hb
        cases hu : P.underlying f.type with
        | none => simp [hu] at h3
        | some dd => cases dd <;> simp [hu] at h3; exact ⟨⟨_, rfl, rfl⟩, by simp [Op.equalIn, run_underlying hu]⟩
      · cases ha; cases hb
        cases hu : P.underlying f.type with
        | none => simp [hu] at h3
        | some dd => cases dd <;> simp [hu] at h3; exact ⟨⟨_, rfl, rfl⟩, by simp [Op.equalIn, run_underlying hu]⟩
      · cases ha; cases hb
        cases hu : P.underlying f.type with
        | none => simp [hu] at h3
        | some dd => cases dd <;> simp [hu] at h3; exact ⟨⟨_, rfl, rfl⟩, by simp [Op.equalIn, run_underlying hu]⟩
    obtain ⟨a, b, as0', bs', r, s, rfl, rfl, hs, rfl, hk⟩ := key
    have hkx : k < xs.size := by simp at lx; omega
    have hky : k < ys.size := by simp at ly; omega
    have ex : xs[k]? = some xs[k] := by simp [hkx]
    have ey : ys[k]? = some ys[k] := by simp [hky]
    obtain ⟨⟨dd, hu, hdd⟩, he⟩ := hk _ _ (hx 0 a _ rfl ex) (hy 0 b _ rfl ey)
    subst h2
    refine eqf_cons' h1 (run_part_cell hu hdd ex w) (run_part_cell hu hdd ey w) he ?_
    refine flatFs_ok h4 hs (fun i u v hu hv => hx (i + 1) u v (by simpa using hu) (by rw [← hv]; congr 1; omega)) (fun i u v hu hv => hy (i + 1) u v (by simpa using hu) (by rw [← hv]; congr 1; omega)) ?_ ?_
    · simp at lx; omega
    · simp at ly; omega

theorem flatB_ok {t : TypeId} {z : List AV} (h : flatB P t z = true) : FlatOk P t z := by
  simp only [flatB, Bool.and_eq_true, Bool.not_eq_true'] at h
  obtain ⟨⟨h1, h2⟩, h3⟩ := h
  split at h3
  · rename_i fs hu
    intro w0 B0 ρ as0 bs xs ys q w x y ha hb hq
    have hf : P.fieldsOf t = fs := by simp [Program.fieldsOf, hu]
    have he : (Op.equal t (.agg xs) (.agg ys)).run P w = .ok q w := by
      unfold Op.equal
      show (Op.equalIn (9999 + 1) t (.agg xs) (.agg ys)).run P w = _
      rw [run_equalIn_struct (P := P) (w := w) 9999 t xs ys (by rw [hf]; exact hu) h1, hf]
      exact flatFs_ok (d := 9998) (w0 := w0) (B0 := B0) (ρ := ρ) (k := 0) h3 hq (fun i u v hu hv => ha.2 i u v hu (by simpa using hv)) (fun i u v hu hv => hb.2 i u v hu (by simpa using hv))
        (by have := ha.1; simp at this; omega) (by have := hb.1; simp at this; omega)
    constructor
    · simp [eqGuard, h2, binOp, he]
    · simp [eqGuard, h2, binOp, he]
  · cases h3

def tiB (P : Program) (t : TypeId) (i : TI) : Bool :=
  (match P.info? t with
    | none => false
    | some ti => ti.size == i.size && ti.bytes == i.bytes && match ti.zero with | none => false | some z => zeroB i.zero z.cells.toList && match z with | .agg _ => i.sh.isAgg | .tuple _ => false | _ => !i.sh.isAgg) &&
  shB P t i.sh && i.zero.length == i.size && (!i.flat || flatB P t i.zero)
theorem tiB_ok {t : TypeId} {i : TI} (h : tiB P t i = true) : TiOk P t i := by
  simp only [tiB, Bool.and_eq_true, beq_iff_eq, Bool.or_eq_true, Bool.not_eq_true'] at h
  obtain ⟨⟨⟨h1, h2⟩, h3⟩, h4⟩ := h
  split at h1
  · cases h1
  · rename_i ti hti
    simp only [Bool.and_eq_true, beq_iff_eq] at h1
    obtain ⟨⟨h5, h6⟩, h7⟩ := h1
    split at h7
    · cases h7
    · rename_i z hz
      simp only [Bool.and_eq_true] at h7
      obtain ⟨h7, h8⟩ := h7
      refine ⟨?_, shB_ok h2, h3, fun ti' z' hti' hz' => ?_, fun hf => flatB_ok (by rcases h4 with h | h; (rw [hf] at h; cases h); exact h)⟩
      rotate_left
      · rw [hti] at hti'
        cases hti'
        rw [hz] at hz'
        cases hz'
        split at h8
        · exact ⟨fun _ => ⟨_, rfl⟩, fun hf => by rw [hf] at h8; cases h8⟩
        · cases h8
        · rename_i n1 n2
          refine ⟨fun hf => (by rw [hf] at h8; cases h8), fun _ => ?_⟩
          cases z with
          | agg arr => exact absurd rfl (n1 arr)
          | tuple arr => exact absurd rfl (n2 arr)
          | _ => rfl
      exact ⟨ti, z, hti, h5, h6, hz, by simpa using zeroB_len h7, fun k u v hu hv => zeroB_get h7 k u v hu (by simpa using hv)⟩
end

/-- Every row of the tree. -/
def treeB (P : Program) : Tr TI → Nat → Nat → Bool
  | .leaf, _, _ => true
  | .node v l r, s, k => (match v with | some i => tiB P k i | none => true) && treeB P l (2 * s) (k + s) && treeB P r (2 * s) (k + 2 * s)
theorem treeB_ok {P : Program} : ∀ {tr : Tr TI} {s k j : Nat} {i : TI}, treeB P tr s k = true → tr.get j = some i → TiOk P (k + s * j) i
  | .leaf, _, _, _, _, _, h => by simp [Tr.get_leaf] at h
  | .node v l r, s, k, j, i, h, hg => by
    simp only [treeB, Bool.and_eq_true] at h
    obtain ⟨⟨h1, h2⟩, h3⟩ := h
    rw [Tr.get_node] at hg
    cases hj : Nat.beq j 0 with
    | true =>
      have : j = 0 := Nat.eq_of_beq_eq_true hj
      subst this
      simp only [hj, cond_true] at hg
      subst hg
      simpa using tiB_ok h1
    | false =>
      have hj0 : j ≠ 0 := fun e => by subst e; cases hj
      simp only [hj, cond_false] at hg
      cases hm : Nat.beq (j % 2) 1 with
      | true =>
        have hm' : j % 2 = 1 := Nat.eq_of_beq_eq_true hm
        simp only [hm, cond_true] at hg
        have := treeB_ok h2 hg
        have e : k + s + 2 * s * (j / 2) = k + s * j := by
          have : j = 2 * (j / 2) + 1 := by omega
          conv => rhs; rw [this]
          rw [Nat.mul_add, ← Nat.mul_assoc, Nat.mul_comm s 2]; omega
        rwa [e] at this
      | false =>
        have hm' : j % 2 = 0 := by
          have : j % 2 ≠ 1 := fun e => by rw [e] at hm; cases hm
          omega
        simp only [hm, cond_false] at hg
        have := treeB_ok h3 hg
        have e : k + 2 * s + 2 * s * (j / 2 - 1) = k + s * j := by
          have : j = 2 * (j / 2 - 1) + 2 := by omega
          conv => rhs; rw [this]
          rw [Nat.mul_add, ← Nat.mul_assoc, Nat.mul_comm s 2]; omega
        rwa [e] at this
theorem tab_ok {P : Program} {tr : Tr TI} (h : treeB P tr 1 0 = true) : TabOk P tr.get := fun t i hi => by simpa using treeB_ok h hi

def ngB (P : Program) : Bool := P.funcs.toList.all fun fn => !(fn.name == "runtime.NumGoroutine")
theorem ng_ok {P : Program} (h : ngB P = true) : NoNG P := by
  intro f fn hf
  simp only [ngB, List.all_eq_true] at h
  have := h fn (by rw [List.mem_iff_getElem?]; exact ⟨f, by simpa using hf⟩)
  simpa using this
end Go.Ab
/- A closed run of the abstract machine is a run of the model: for functions without parameters. -/
namespace Go.Ab
open Go.RowKit
def yes (r : Option (AV × St)) : Bool := match r with
  | some (.bool b, _) => b
  | _ => false
theorem closed_run {P : Program} {T : Tab} (hm : P.follows .mixedOrders = true) (hT : TabOk P T) (hng : NoNG P) {n : Nat} {f : FuncId} (h : yes (evCall P T n f [] ⟨0, .leaf, []⟩) = true) (w : World) :
    Calls P f #[] w fun e w' => e = .returned (.bool true) ∧ Below w.heap.size w w' := by
  cases hr : evCall P T n f [] ⟨0, .leaf, []⟩ with
  | none => simp [hr, yes] at h
  | some r =>
    obtain ⟨v, s'⟩ := r
    cases v with
    | bool b =>
      simp only [hr, yes] at h
      subst h
      have hs : Sim w w.heap.size (fun _ _ => none) ⟨0, .leaf, []⟩ w :=
        { low := Below.refl _ _, big := Nat.le_refl _,
          ver := by intros; simp_all, al := by intros; simp_all, sep := by intros; simp_all, ctr := by intros; simp_all }
      refine ((call_sound (w0 := w) (B0 := w.heap.size) hm hT hng n f [] _ _ _ hr).2 _ w #[] hs CR.nil).mono fun e w' ⟨v', ρ', he, _, h2, h3⟩ => ?_
      cases h3
      exact ⟨he, h2.low⟩
    | _ => simp [hr, yes] at h
end Go.Ab
/- Calls of closed functions that are known: told by a table, and not entered. -/
namespace Go.Ab
open Go.RowKit
noncomputable section
/-- A function's body, with what answers its calls. -/
def evBody (P : Program) (T : Tab) (call : FuncId → List AV → St → Option (AV × St)) (n : Nat) (f : FuncId) (args : List AV) (s : St) : Option (AV × St) := match P.funcs[f]? with
    | none => none
    | some fn => match fn.body with
      | none => none
      | some c =>
        match evCode T call n c (TL.start args fn.ntmps) s with
        | some (.normal, t, s') | some (.ret, t, s') => match resA T t s' fn.results.toList with
          | some [v] => some (v, s')
          | some vs => some (.tup vs, s')
          | none => none
        | _ => none
/-- The evaluator, with a table of closed functions and what they return. -/
def evCallK (P : Program) (T : Tab) (K : FuncId → Option Bool) : Nat → FuncId → List AV → St → Option (AV × St)
  | 0, _, _, _ => none
  | n + 1, f, args, s => match K f, args with
    | some b, [] => some (.bool b, s)
    | _, _ => evBody P T (evCallK P T K n) n f args s
end
/-- The table is right. -/
def KOk (P : Program) (K : FuncId → Option Bool) : Prop := ∀ f b, K f = some b → Callable P f ∧ ∀ w, Calls P f #[] w fun e w' => e = .returned (.bool b) ∧ Below w.heap.size w w'
section
variable {P : Program} {T : Tab} {w0 : World} {B0 : Nat} {K : FuncId → Option Bool} {call : FuncId → List AV → St → Option (AV × St)}
theorem Sim.later {ρ : Loc} {s : St} {w w' : World} (h : Sim w0 B0 ρ s w) (k : Below w.heap.size w w') : Sim w0 B0 ρ s w' where
  low := h.low.trans (k.mono h.big)
  big := Nat.le_trans h.big k.size
  ver := fun g j b st n hρ => by
    obtain ⟨h1, G, V, h2, h3, h4⟩ := h.ver g j b st n hρ
    exact ⟨h1, G, V, h2, h3, h4.mono (Loc.le_refl _) (k.block b (h.blk_lt hρ))⟩
  al := h.al
  sep := h.sep
  ctr := h.ctr
theorem Ext.body (hc : CallExt call) {n : Nat} {f : FuncId} {args : List AV} {s : St} {v : AV} {s' : St} (h : evBody P T call n f args s = some (v, s')) : Ext s s' := by
  simp only [evBody] at h
  repeat' split at h
  all_goals first
    | (cases h; done)
    | (simp only [Option.some.injEq, Prod.mk.injEq] at h; obtain ⟨_, rfl⟩ := h; exact (Ext.code hc n).1 _ (by assumption))
theorem Ext.callsK : ∀ (n : Nat), CallExt (evCallK P T K n)
  | 0, f, args, s, v, s', h => by simp [evCallK] at h
  | n + 1, f, args, s, v, s', h => by
    simp only [evCallK] at h
    split at h
    · simp only [Option.some.injEq, Prod.mk.injEq] at h
      obtain ⟨_, rfl⟩ := h
      exact Ext.refl _
    · exact Ext.body (Ext.callsK n) h
theorem body_sound (hm : P.follows .mixedOrders = true) (hT : TabOk P T) (hng : NoNG P) (ih : CallOk P w0 B0 call) (hce : CallExt call) (n : Nat) (f : FuncId) (args : List AV) (s : St) (v : AV) (s' : St) (h : evBody P T call n f args s = some (v, s')) :
    Callable P f ∧ ∀ (ρ : Loc) (w : World) (args' : Array Value), Sim w0 B0 ρ s w → CR w0 B0 ρ args args'.toList →
    Calls P f args' w fun e w' => ∃ v' ρ', e = .returned v' ∧ ρ.lex s.ctr ρ' ∧ Sim w0 B0 ρ' s' w' ∧ VR w0 B0 ρ' v v' := by
    simp only [evBody] at h
    split at h
    · cases h
    · rename_i fn hfn
      split at h
      · cases h
      · rename_i c hc
        refine ⟨⟨fn, hfn, by simp [hc], hng f fn hfn⟩, fun ρ w args' hs hargs => ?_⟩
        have hl : args.length = args'.size := by have := hargs.1; rwa [Array.length_toList] at this
        have htr : TR w0 B0 ρ (TL.start args fn.ntmps) (args' ++ Array.replicate (fn.ntmps - args'.size) Go.undef) := by
          have hsz : (args' ++ Array.replicate (fn.ntmps - args'.size) Go.undef).size = args'.size + (fn.ntmps - args'.size) := by simp
          refine ⟨by rw [TL.n_start, hsz, hl], fun i v hv => ?_, fun i hi => ?_⟩
          · rw [TL.get_start]
            rw [Array.getElem?_append] at hv
            split at hv
            · rename_i hlt
              have hlt' : i < args.length := by omega
              exact hargs.2 i _ v (by simp [List.getD, hlt']) (by simpa using hv)
            · rename_i hlt
              rw [Array.getElem?_replicate] at hv
              split at hv
              · cases hv
                rw [List.getD_eq_getElem?_getD, List.getElem?_eq_none (by omega)]
                exact .undef
              · cases hv
          · rw [TL.get_start, List.getD_eq_getElem?_getD, List.getElem?_eq_none (by omega)]
            rfl
        cases hev : evCode T (call) n c (TL.start args fn.ntmps) s with
        | none => simp [hev] at h
        | some r =>
          obtain ⟨x, t1, s1⟩ := r
          have hcode : c.wp P (After w0 B0 ρ s.ctr x t1 s1 []) { tmps := args' ++ Array.replicate (fn.ntmps - args'.size) Go.undef, defers := [] } w := (code_sound hT ih hce (draw_sound hm hT ih hce) n).1 c (show TR w0 B0 ρ _ (Act.mk (args' ++ Array.replicate (fn.ntmps - args'.size) Go.undef) []).tmps from htr) hs hev
          -- the end, by either way out
          have fin : (match resA T t1 s1 fn.results.toList with
              | some [v] => some (v, s1)
              | some vs => some (.tup vs, s1)
              | none => none) = some (v, s') → (x = .normal ∨ x = .ret) → Calls P f args' w fun e w' => ∃ v' ρ', e = .returned v' ∧ ρ.lex s.ctr ρ' ∧ Sim w0 B0 ρ' s' w' ∧ VR w0 B0 ρ' v v' := by
            intro hres hx
            refine calls_of_wp hfn hc (wp_mono hcode (fun e a' w' ⟨k1, k2, ρ', k3, k4, k5⟩ => ?_))
            have hb : bodyPost P fn (fun e w' => ∃ v' ρ', e = .returned v' ∧ ρ.lex s.ctr ρ' ∧ Sim w0 B0 ρ' s' w' ∧ VR w0 B0 ρ' v v') .ret a' w' := by
              refine ⟨k2, ?_⟩
              cases hr : resA T t1 s1 fn.results.toList with
              | none => simp [hr] at hres
              | some us =>
                obtain ⟨vs, m1, m2⟩ := run_resM (P := P) hT k5 k4 hr
                have hrun : (results fn a'.tmps).run P w' = .ok (if h : vs.toArray.size = 1 then vs.toArray[0] else .tuple vs.toArray) w' := by
                  rw [results_eq, Array.mapM_eq_mapM_toList]
                  simp only [Sem.run_bind, Sem.run_map, m1, Result.andThen_ok, Sem.run_pure]
                refine ⟨_, hrun, ?_⟩
                rw [hr] at hres
                split at hres
                · rename_i u hu
                  simp only [Option.some.injEq] at hu
                  subst hu
                  simp only [Option.some.injEq, Prod.mk.injEq] at hres
                  obtain ⟨rfl, rfl⟩ := hres
                  obtain ⟨v', rfl, hv'⟩ := m2.one
                  exact ⟨v', ρ', by simp, k3, k4, hv'⟩
                · rename_i us' hne hu
                  simp only [Option.some.injEq] at hu
                  subst hu
                  simp only [Option.some.injEq, Prod.mk.injEq] at hres
                  obtain ⟨rfl, rfl⟩ := hres
                  have hne1 : ¬ vs.toArray.size = 1 := by
                    intro h1
                    have : us.length = 1 := by rw [m2.1]; simpa using h1
                    match us, this with
                    | [u], _ => exact hne u rfl
                  exact ⟨.tuple vs.toArray, ρ', by rw [dif_neg hne1], k3, k4, .tup us _ (by simpa using m2.1) (fun i u v hu hv => m2.2 i u v hu (by simpa using hv))⟩
                · cases hres
            cases e with
            | normal => exact hb
            | ret => exact hb
            | _ => rcases hx with rfl | rfl <;> exact k1.elim
          rw [hev] at h
          cases x with
          | normal => exact fin h (.inl rfl)
          | ret => exact fin h (.inr rfl)
          | exit id => simp at h
          | goto l => simp at h
theorem call_soundK (hm : P.follows .mixedOrders = true) (hT : TabOk P T) (hng : NoNG P) (hK : KOk P K) : ∀ n, CallOk P w0 B0 (evCallK P T K n)
  | 0 => fun f args s v s' h => by simp [evCallK] at h
  | n + 1 => fun f args s v s' h => by
    simp only [evCallK] at h
    split at h
    · rename_i b hb
      simp only [Option.some.injEq, Prod.mk.injEq] at h
      obtain ⟨rfl, rfl⟩ := h
      refine ⟨(hK f b hb).1, fun ρ w args' hs hargs => ?_⟩
      have : args' = #[] := by
        have := hargs.1
        rw [Array.length_toList] at this
        exact Array.eq_empty_of_size_eq_zero this.symm
      subst this
      exact ((hK f b hb).2 w).mono fun e w' ⟨he, hb'⟩ => ⟨_, ρ, he, Loc.lex_refl s.ctr ρ, hs.later hb', .bool b⟩
    · exact body_sound hm hT hng (call_soundK hm hT hng hK n) (Ext.callsK n) n f _ s v s' h
end
end Go.Ab
/- A logic for the abstract machine: symbolic temporaries, steps, regions, code, calls. -/
namespace Go.Ab
/-- What is known of the temporaries; the latest ahead. -/
abbrev Sy := List (Nat × AV)
def Sy.at : Sy → Nat → Option AV
  | [], _ => none
  | (j, v) :: r, i => bif Nat.beq i j then some v else Sy.at r i
structure Has (t : TL) (nt : Nat) (m : Sy) : Prop where
  n : t.n = nt
  at_ : ∀ i v, m.at i = some v → t.get i = v
theorem Has.set {t : TL} {nt : Nat} {m : Sy} (h : Has t nt m) {d : Nat} (v : AV) (hd : d < nt) : Has (t.set d v) nt ((d, v) :: m) := by
  refine ⟨by rw [TL.n_set, h.n], fun i x hx => ?_⟩
  rw [TL.get_set]
  unfold Sy.at at hx
  by_cases hi : i = d
  · subst hi
    rw [nb_t rfl, cond_true] at hx
    rw [if_pos ⟨rfl, by rw [h.n]; exact hd⟩]
    exact Option.some.inj hx
  · rw [nb_f hi, cond_false] at hx
    rw [if_neg (fun e => hi e.1)]
    exact h.at_ i x hx
/-- What is known here is known there. -/
def Sub (m' m : Sy) : Prop := ∀ i v, m'.at i = some v → m.at i = some v
theorem Sub.nil (m : Sy) : Sub [] m := fun _ _ h => by cases h
theorem Sub.cons {i : Nat} {v : AV} {r m : Sy} (h : m.at i = some v) (hr : Sub r m) : Sub ((i, v) :: r) m := by
  intro j x hx
  unfold Sy.at at hx
  by_cases hi : j = i
  · subst hi
    rw [nb_t rfl, cond_true] at hx
    rw [h]; exact hx
  · rw [nb_f hi, cond_false] at hx
    exact hr j x hx
theorem Sub.refl (m : Sy) : Sub m m := fun _ _ h => h
theorem Has.sub {t : TL} {nt : Nat} {m m' : Sy} (h : Has t nt m) (s : Sub m' m) : Has t nt m' := ⟨h.n, fun i v e => h.at_ i v (s i v e)⟩
def syOf : Nat → List AV → Sy
  | _, [] => []
  | k, a :: r => (k, a) :: syOf (k + 1) r
theorem syOf_at : ∀ (l : List AV) (k i : Nat) (v : AV), (syOf k l).at i = some v → k ≤ i ∧ l[i - k]? = some v
  | [], _, _, _, h => by cases h
  | a :: r, k, i, v, h => by
    unfold syOf Sy.at at h
    by_cases hi : i = k
    · subst hi
      rw [nb_t rfl, cond_true] at h
      exact ⟨Nat.le_refl _, by simpa using h⟩
    · rw [nb_f hi, cond_false] at h
      obtain ⟨h1, h2⟩ := syOf_at r (k + 1) i v h
      refine ⟨by omega, ?_⟩
      rw [show i - k = (i - (k + 1)) + 1 by omega]
      simpa using h2
theorem Has.start (args : List AV) (n : Nat) : Has (TL.start args n) (args.length + (n - args.length)) (syOf 0 args) := by
  refine ⟨TL.n_start _ _, fun i v h => ?_⟩
  obtain ⟨-, h2⟩ := syOf_at args 0 i v h
  rw [TL.get_start, List.getD_eq_getElem?_getD, show args[i]? = some v by simpa using h2]
  rfl

def evY (m : Sy) : Operand → Option AV
  | .tmp i => m.at i
  | .const v => ofVal v
  | .global _ => none
  | .func f => some (.fn f [])
theorem evY_ok {t : TL} {nt : Nat} {m : Sy} (h : Has t nt m) {x : Operand} {v : AV} (e : evY m x = some v) : ev t x = some v := by
  cases x with
  | tmp i => exact congrArg some (h.at_ i v e)
  | _ => exact e
def evsY (m : Sy) : List Operand → Option (List AV)
  | [] => some []
  | x :: r => match evY m x with
    | none => none
    | some v => match evsY m r with
      | none => none
      | some vs => some (v :: vs)
theorem evsY_ok {t : TL} {nt : Nat} {m : Sy} (h : Has t nt m) : ∀ {l : List Operand} {vs : List AV}, evsY m l = some vs → evs t l = some vs
  | [], _, e => e
  | x :: r, vs, e => by
    unfold evsY at e
    unfold evs
    cases hx : evY m x with
    | none => rw [hx] at e; cases e
    | some v =>
      rw [hx] at e
      cases hr : evsY m r with
      | none => rw [hr] at e; cases e
      | some ws =>
        rw [hr] at e
        rw [evY_ok h hx, evsY_ok h hr]
        exact e
def evPartsY (m : Sy) : List (Nat × Operand) → Option (List (Nat × AV))
  | [] => some []
  | p :: r => match evY m p.2 with
    | none => none
    | some v => match evPartsY m r with
      | none => none
      | some vs => some ((p.1, v) :: vs)
theorem evPartsY_ok {t : TL} {nt : Nat} {m : Sy} (h : Has t nt m) : ∀ {l : List (Nat × Operand)} {vs : List (Nat × AV)}, evPartsY m l = some vs → evParts t l = some vs
  | [], _, e => e
  | (i, x) :: r, vs, e => by
    unfold evPartsY at e
    unfold evParts
    cases hx : evY m x with
    | none => simp only [hx] at e; cases e
    | some v =>
      simp only [hx] at e
      cases hr : evPartsY m r with
      | none => rw [hr] at e; cases e
      | some ws =>
        rw [hr] at e
        rw [evY_ok h hx, evPartsY_ok h hr]
        exact e
def guardY (ops : Array Oper) (m : Sy) : Option (Nat × Bool) → Option Bool
  | none => some true
  | some (j, want) => match (ops[j]?).bind (·.dst) with
    | none => some false
    | some d => match m.at d with
      | some (.bool b) => some (b == want)
      | some .undef => some false
      | _ => none
theorem guardY_ok {ops : Array Oper} {t : TL} {nt : Nat} {m : Sy} (h : Has t nt m) {g : Option (Nat × Bool)} {b : Bool} (e : guardY ops m g = some b) : guardA ops t g = some b := by
  cases g with
  | none => exact e
  | some q =>
    obtain ⟨j, want⟩ := q
    unfold guardY at e
    unfold guardA
    simp only at e ⊢
    cases hd : (ops[j]?).bind (·.dst) with
    | none => rw [hd] at e; exact e
    | some d =>
      rw [hd] at e
      simp only at e ⊢
      cases hm : m.at d with
      | none => rw [hm] at e; cases e
      | some v =>
        rw [hm] at e
        rw [h.at_ _ _ hm]
        cases v <;> first | exact e | cases e
def putY (m : Sy) : Option Nat → AV → Sy
  | none, _ => m
  | some d, v => (d, v) :: m
def dstOk (nt : Nat) : Option Nat → Bool
  | none => true
  | some d => Nat.ble (d + 1) nt
theorem Has.put {t : TL} {nt : Nat} {m : Sy} (h : Has t nt m) {d : Option Nat} (v : AV) (hd : dstOk nt d = true) : Has (putA t d v) nt (putY m d v) := by
  cases d with
  | none => exact h
  | some d => exact h.set v (Nat.le_of_ble_eq_true hd)

section
variable {P : Program} {T : Tab} {K : FuncId → Option Bool}
/-- A call answers, and what. -/
def CallS (P : Program) (T : Tab) (K : FuncId → Option Bool) (f : FuncId) (args : List AV) (s : St) (Q : AV → St → Prop) : Prop :=
  ∃ N v s', Q v s' ∧ ∀ n, N ≤ n → evCallK P T K n f args s = some (v, s')
/-- Some operations in the text's order; nt: how many temporaries. -/
def W (P : Program) (T : Tab) (K : FuncId → Option Bool) (nt : Nat) (ops : Array Oper) (l : List Oper) (m : Sy) (s : St) (Q : Sy → St → Prop) : Prop :=
  ∃ N m' s', Q m' s' ∧ ∀ n, N ≤ n → ∀ t, Has t nt m → ∃ t', evOps T (evCallK P T K n) ops l t s = some (t', s') ∧ Has t' nt m'
/-- One operation. -/
def W1 (P : Program) (T : Tab) (K : FuncId → Option Bool) (nt : Nat) (ops : Array Oper) (o : Oper) (m : Sy) (s : St) (Q : Sy → St → Prop) : Prop :=
  ∃ N m' s', Q m' s' ∧ ∀ n, N ≤ n → ∀ t, Has t nt m → ∃ t', evStep T (evCallK P T K n) ops o t s = some (t', s') ∧ Has t' nt m'
/-- Operations that leave all as it was, in a drawn region. -/
def WD (P : Program) (T : Tab) (K : FuncId → Option Bool) (nt : Nat) (ops : Array Oper) (l : List Oper) (m : Sy) (s : St) (D : Nat → Prop) (Q : Sy → St → Prop) : Prop :=
  ∃ N m' s', Q m' s' ∧ ∀ n, N ≤ n → ∀ t, Has t nt m → ∃ t' es, evLog T (evCallK P T K n) ops l (l.map fun _ => none) t s = some (t', s', es) ∧ Has t' nt m' ∧
    ∀ e ∈ es, e.al = none ∧ (∀ g, e.rd = some g → D g) ∧ ∀ g ∈ e.wr, ¬ D g
/-- Code. -/
def WC (P : Program) (T : Tab) (K : FuncId → Option Bool) (nt : Nat) (c : Code) (m : Sy) (s : St) (Q : Ex → Sy → St → Prop) : Prop :=
  ∃ N e m' s', Q e m' s' ∧ ∀ n k, N ≤ n → N ≤ k → ∀ t, Has t nt m → ∃ t', evCode T (evCallK P T K n) k c t s = some (e, t', s') ∧ Has t' nt m'

variable {nt : Nat} {ops : Array Oper} {o : Oper} {rest : List Oper} {m : Sy} {s : St} {Q : Sy → St → Prop}
theorem w_nil (h : Q m s) : W P T K nt ops [] m s Q := ⟨0, m, s, h, fun _ _ t ht => ⟨t, rfl, ht⟩⟩
theorem w_cons (h : W1 P T K nt ops o m s fun m1 s1 => W P T K nt ops rest m1 s1 Q) : W P T K nt ops (o :: rest) m s Q := by
  obtain ⟨N, m1, s1, ⟨N', m', s', hq, h'⟩, hn⟩ := h
  refine ⟨max N N', m', s', hq, fun n hn' t ht => ?_⟩
  obtain ⟨t1, e1, ht1⟩ := hn n (by omega) t ht
  obtain ⟨t2, e2, ht2⟩ := h' n (by omega) t1 ht1
  exact ⟨t2, by rw [evOps, e1]; exact e2, ht2⟩
theorem w1_val {v : AV} {s' : St} (hg : guardY ops m o.guard = some true) (hd : dstOk nt o.dst = true) (h : ∀ t, Has t nt m → evOp T o.op t s = some (.val v, s')) (k : Q (putY m o.dst v) s') : W1 P T K nt ops o m s Q :=
  ⟨0, _, _, k, fun _ _ t ht => ⟨_, by rw [evStep, guardY_ok ht hg, h t ht], ht.put v hd⟩⟩
theorem w1_skip {s' : St} (hg : guardY ops m o.guard = some true) (hd : dstOk nt o.dst = true) (h : ∀ t, Has t nt m → evOp T o.op t s = some (.skip, s')) (k : Q (putY m o.dst .undef) s') : W1 P T K nt ops o m s Q :=
  ⟨0, _, _, k, fun _ _ t ht => ⟨_, by rw [evStep, guardY_ok ht hg, h t ht], ht.put .undef hd⟩⟩
theorem w1_off (hg : guardY ops m o.guard = some false) (hd : dstOk nt o.dst = true) (k : Q (putY m o.dst .undef) s) : W1 P T K nt ops o m s Q :=
  ⟨0, _, _, k, fun _ _ t ht => ⟨_, by rw [evStep, guardY_ok ht hg], ht.put .undef hd⟩⟩
theorem w1_call {f : FuncId} {args : List AV} {R : AV → St → Prop} (hg : guardY ops m o.guard = some true) (hd : dstOk nt o.dst = true) (h : ∀ t, Has t nt m → evOp T o.op t s = some (.call f args, s)) (hc : CallS P T K f args s R)
    (k : ∀ v s', R v s' → Q (putY m o.dst v) s') : W1 P T K nt ops o m s Q := by
  obtain ⟨N, v, s', hr, hn⟩ := hc
  exact ⟨N, _, _, k v s' hr, fun n hn' t ht => ⟨_, by rw [evStep, guardY_ok ht hg, h t ht]; simp only [hn n hn'], ht.put v hd⟩⟩

/-- The state as a drawn region's operation meets it. -/
def St.bare (s : St) : St := { s with wr := [] }
variable {D : Nat → Prop}
theorem wd_nil (h : Q m s) : WD P T K nt ops [] m s D Q := ⟨0, m, s, h, fun _ _ t ht => ⟨t, [], rfl, ht, fun _ h => by cases h⟩⟩
theorem wd_cons (hr : ∀ t, Has t nt m → ∀ g, readsA t o.op = some g → D g)
    (h : W1 P T K nt ops o m s.bare fun m1 s1 => (∀ g ∈ s1.wr, ¬ D g) ∧ WD P T K nt ops rest m1 { s1 with wr := s1.wr ++ s.wr } D Q) : WD P T K nt ops (o :: rest) m s D Q := by
  obtain ⟨N, m1, s1, ⟨hw, N', m', s', hq, h'⟩, hn⟩ := h
  refine ⟨max N N', m', s', hq, fun n hn' t ht => ?_⟩
  obtain ⟨t1, e1, ht1⟩ := hn n (by omega) t ht
  obtain ⟨t2, es, e2, ht2, he⟩ := h' n (by omega) t1 ht1
  refine ⟨t2, _ :: es, by rw [List.map_cons, evLog]; rw [show ({ s with wr := [] } : St) = s.bare from rfl, e1]; simp only; rw [e2], ht2, ?_⟩
  intro e hm
  rcases List.mem_cons.1 hm with rfl | hm
  · refine ⟨rfl, fun g hg => ?_, hw⟩
    simp only at hg
    split at hg
    · exact hr t ht g hg
    · cases hg
  · exact he e hm

variable {c a b : Code} {R : Ex → Sy → St → Prop}
theorem wc_region {id : Nat} (h : W P T K nt ops ops.toList m s (R .normal)) : WC P T K nt (.region id ops false) m s R := by
  obtain ⟨N, m', s', hq, hn⟩ := h
  refine ⟨N + 1, .normal, m', s', hq, fun n k hn1 hk t ht => ?_⟩
  obtain ⟨t', e1, ht'⟩ := hn n (by omega) t ht
  obtain ⟨k, rfl⟩ : ∃ j, k = j + 1 := ⟨k - 1, by omega⟩
  exact ⟨t', by simp only [evCode, e1], ht'⟩
def noEarly (l : List Oper) : Bool := l.all fun o => !Oper.early false o
theorem hoist_none : ∀ (l : List Oper) (gs : List (List AV)) (s : St), noEarly l = true → hoist false T l gs s = some (s, l.map fun _ => none)
  | [], _, _, _ => rfl
  | o :: l, gs, s, h => by
    simp only [noEarly, List.all_cons, Bool.and_eq_true, Bool.not_eq_true'] at h
    rw [hoist]
    simp only [h.1, Bool.false_eq_true, if_false]
    rw [hoist_none l gs.tail s (by simpa [noEarly] using h.2)]
    rfl
theorem logOk_apart {B : Array Nat} {l : List Entry} (h : ∀ e ∈ l, e.al = none ∧ (∀ g, e.rd = some g → D g) ∧ ∀ g ∈ e.wr, ¬ D g) : logOk B l = true := by
  unfold logOk
  rw [List.all_eq_true]
  intro i _
  cases hi : l[i]? with
  | none => rfl
  | some x =>
    obtain ⟨h1, h2, h3⟩ := h x (List.mem_of_getElem? hi)
    simp only [h1, Bool.and_true]
    cases hrd : x.rd with
    | none => rfl
    | some g =>
      simp only
      rw [List.all_eq_true]
      intro e _
      cases he : l[e]? with
      | none => simp
      | some y =>
        obtain ⟨-, -, k3⟩ := h y (List.mem_of_getElem? he)
        have : y.wr.contains g = false := by
          cases hc : y.wr.contains g with
          | false => rfl
          | true => exact absurd (h2 g hrd) (k3 g (by simpa using hc))
        simp only [this, Bool.not_false, Bool.or_true]
theorem wc_draw {id : Nat} (D : Nat → Prop) (hd : drawOk false ops = true) (hl : noEarly ops.toList = true) (h : WD P T K nt ops ops.toList m s D (R .normal)) : WC P T K nt (.region id ops true) m s R := by
  obtain ⟨N, m', s', hq, hn⟩ := h
  refine ⟨N + 1, .normal, m', s', hq, fun n k hn1 hk t ht => ?_⟩
  obtain ⟨t', es, e1, ht', he⟩ := hn n (by omega) t ht
  obtain ⟨k, rfl⟩ : ∃ j, k = j + 1 := ⟨k - 1, by omega⟩
  refine ⟨t', ?_, ht'⟩
  have : evDraw T (evCallK P T K n) false [] ops t s = some (t', s') := by
    unfold evDraw
    rw [hoist_none ops.toList [] s hl]
    simp only [e1, logOk_apart he, if_true]
  simp only [evCode, hd, if_true, this]
theorem wc_skip (h : R .normal m s) : WC P T K nt .skip m s R := ⟨1, .normal, m, s, h, fun n k _ hk t ht => by
  obtain ⟨k, rfl⟩ : ∃ j, k = j + 1 := ⟨k - 1, by omega⟩
  exact ⟨t, by simp only [evCode], ht⟩⟩
theorem wc_label {l : Nat} (h : R .normal m s) : WC P T K nt (.label l) m s R := ⟨1, .normal, m, s, h, fun n k _ hk t ht => by
  obtain ⟨k, rfl⟩ : ∃ j, k = j + 1 := ⟨k - 1, by omega⟩
  exact ⟨t, by simp only [evCode], ht⟩⟩
theorem wc_exit {id : Nat} (h : R (.exit id) m s) : WC P T K nt (.exit id) m s R := ⟨1, .exit id, m, s, h, fun n k _ hk t ht => by
  obtain ⟨k, rfl⟩ : ∃ j, k = j + 1 := ⟨k - 1, by omega⟩
  exact ⟨t, by simp only [evCode], ht⟩⟩
theorem wc_ret (h : R .ret m s) : WC P T K nt .ret m s R := ⟨1, .ret, m, s, h, fun n k _ hk t ht => by
  obtain ⟨k, rfl⟩ : ∃ j, k = j + 1 := ⟨k - 1, by omega⟩
  exact ⟨t, by simp only [evCode], ht⟩⟩
theorem wc_mono {R' : Ex → Sy → St → Prop} (h : WC P T K nt c m s R') (k : ∀ e m' s', R' e m' s' → R e m' s') : WC P T K nt c m s R := by
  obtain ⟨N, e, m', s', hq, hn⟩ := h
  exact ⟨N, e, m', s', k _ _ _ hq, hn⟩
/-- What stands behind: the second part where the first one ends by itself. -/
def Then (P : Program) (T : Tab) (K : FuncId → Option Bool) (nt : Nat) (b : Code) (R : Ex → Sy → St → Prop) : Ex → Sy → St → Prop
  | .normal, m, s => WC P T K nt b m s R
  | e, m, s => R e m s
theorem wc_seq (h : WC P T K nt a m s (Then P T K nt b R)) : WC P T K nt (.seq a b) m s R := by
  obtain ⟨N, e, m1, s1, hq, hn⟩ := h
  by_cases he : e = .normal
  · subst he
    obtain ⟨N', e', m', s', hq', hn'⟩ := hq
    refine ⟨max N N' + 1, e', m', s', hq', fun n k hn1 hk t ht => ?_⟩
    obtain ⟨k, rfl⟩ : ∃ j, k = j + 1 := ⟨k - 1, by omega⟩
    obtain ⟨t1, e1, ht1⟩ := hn n k (by omega) (by omega) t ht
    obtain ⟨t2, e2, ht2⟩ := hn' n k (by omega) (by omega) t1 ht1
    exact ⟨t2, by simp only [evCode, e1, e2], ht2⟩
  · refine ⟨N + 1, e, m1, s1, ?_, fun n k hn1 hk t ht => ?_⟩
    · cases e <;> first | exact absurd rfl he | exact hq
    · obtain ⟨k, rfl⟩ : ∃ j, k = j + 1 := ⟨k - 1, by omega⟩
      obtain ⟨t1, e1, ht1⟩ := hn n k (by omega) (by omega) t ht
      exact ⟨t1, by cases e <;> first | exact absurd rfl he | simp only [evCode, e1], ht1⟩
theorem wc_cond {q : Operand} {x : Bool} (hq : evY m q = some (.bool x)) (ha : x = true → WC P T K nt a m s R) (hb : x = false → WC P T K nt b m s R) : WC P T K nt (.cond q a b) m s R := by
  have h : WC P T K nt (if x then a else b) m s R := by
    cases x with
    | true => exact ha rfl
    | false => exact hb rfl
  obtain ⟨N, e, m', s', hr, hn⟩ := h
  refine ⟨N + 1, e, m', s', hr, fun n k hn1 hk t ht => ?_⟩
  obtain ⟨k, rfl⟩ : ∃ j, k = j + 1 := ⟨k - 1, by omega⟩
  obtain ⟨t1, e1, ht1⟩ := hn n k (by omega) (by omega) t ht
  exact ⟨t1, by simp only [evCode, evY_ok ht hq, e1], ht1⟩
/-- What a block answers. -/
def Out (id : Nat) (R : Ex → Sy → St → Prop) : Ex → Sy → St → Prop
  | .exit id', m, s => (id' = id → R .normal m s) ∧ (id' ≠ id → R (.exit id') m s)
  | e, m, s => R e m s
theorem wc_block {id : Nat} (h : WC P T K nt b m s (Out id R)) : WC P T K nt (.block id b) m s R := by
  obtain ⟨N, e, m', s', hq, hn⟩ := h
  cases e with
  | exit id' =>
    by_cases hi : id' = id
    · refine ⟨N + 1, .normal, m', s', hq.1 hi, fun n k hn1 hk t ht => ?_⟩
      obtain ⟨k, rfl⟩ : ∃ j, k = j + 1 := ⟨k - 1, by omega⟩
      obtain ⟨t1, e1, ht1⟩ := hn n k (by omega) (by omega) t ht
      exact ⟨t1, by simp only [evCode, e1, hi, if_true], ht1⟩
    · refine ⟨N + 1, .exit id', m', s', hq.2 hi, fun n k hn1 hk t ht => ?_⟩
      obtain ⟨k, rfl⟩ : ∃ j, k = j + 1 := ⟨k - 1, by omega⟩
      obtain ⟨t1, e1, ht1⟩ := hn n k (by omega) (by omega) t ht
      exact ⟨t1, by simp only [evCode, e1, hi, if_false], ht1⟩
  | _ =>
    refine ⟨N + 1, _, m', s', hq, fun n k hn1 hk t ht => ?_⟩
    obtain ⟨k, rfl⟩ : ∃ j, k = j + 1 := ⟨k - 1, by omega⟩
    obtain ⟨t1, e1, ht1⟩ := hn n k (by omega) (by omega) t ht
    exact ⟨t1, by simp only [evCode, e1], ht1⟩
/-- What a round answers: a smaller one stands ahead, or the loop is left. -/
def Round (I : Nat → Sy → St → Prop) (j : Nat) (R : Ex → Sy → St → Prop) : Ex → Sy → St → Prop
  | .normal, m, s => ∃ i m', i < j ∧ Sub m' m ∧ I i m' s
  | e, m, s => R e m s
theorem wc_sub {m' : Sy} (hs : Sub m' m) (h : WC P T K nt c m' s R) : WC P T K nt c m s R := by
  obtain ⟨N, e, m1, s', hq, hn⟩ := h
  exact ⟨N, e, m1, s', hq, fun n k h1 h2 t ht => hn n k h1 h2 t (ht.sub hs)⟩
theorem wc_loop (I : Nat → Sy → St → Prop) (hI : ∀ j m s, I j m s → WC P T K nt b m s (Round I j R)) : ∀ (j : Nat) (m : Sy) (s : St), I j m s → WC P T K nt (.loop b) m s R := by
  intro j
  induction j using Nat.strongRecOn with
  | _ j ih =>
    intro m s hi
    obtain ⟨N, e, m1, s1, hq, hn⟩ := hI j m s hi
    by_cases he : e = .normal
    · subst he
      obtain ⟨i, m2, hlt, hsub, hi'⟩ := hq
      obtain ⟨N', e', m', s', hq', hn'⟩ := wc_sub hsub (ih i hlt m2 s1 hi')
      refine ⟨max N N' + 1, e', m', s', hq', fun n k hn1 hk t ht => ?_⟩
      obtain ⟨k, rfl⟩ : ∃ j, k = j + 1 := ⟨k - 1, by omega⟩
      obtain ⟨t1, e1, ht1⟩ := hn n k (by omega) (by omega) t ht
      obtain ⟨t2, e2, ht2⟩ := hn' n k (by omega) (by omega) t1 ht1
      exact ⟨t2, by simp only [evCode, e1, e2], ht2⟩
    · refine ⟨N + 1, e, m1, s1, ?_, fun n k hn1 hk t ht => ?_⟩
      · cases e <;> first | exact absurd rfl he | exact hq
      · obtain ⟨k, rfl⟩ : ∃ j, k = j + 1 := ⟨k - 1, by omega⟩
        obtain ⟨t1, e1, ht1⟩ := hn n k (by omega) (by omega) t ht
        exact ⟨t1, by cases e <;> first | exact absurd rfl he | simp only [evCode, e1], ht1⟩
/-- The results. -/
noncomputable def resY (T : Tab) (m : Sy) (s : St) : List ResultVar → Option (List AV)
  | [] => some []
  | .tmp i :: r => match m.at i with
    | none => none
    | some v => match resY T m s r with
      | none => none
      | some vs => some (v :: vs)
  | .cell a tt :: r => match T tt, m.at a with
    | some i, some (.ptr g j off) => match s.read g j off i.cnt with
      | none => none
      | some cs => match ofCells i.sh.isAgg cs with
        | none => none
        | some v => match resY T m s r with
          | none => none
          | some vs => some (v :: vs)
    | _, _ => none
theorem resY_ok {t : TL} (h : Has t nt m) : ∀ {l : List ResultVar} {vs : List AV}, resY T m s l = some vs → resA T t s l = some vs
  | [], _, e => e
  | .tmp i :: r, vs, e => by
    unfold resY at e
    unfold resA
    cases hx : m.at i with
    | none => rw [hx] at e; cases e
    | some v =>
      rw [hx] at e
      cases hr : resY T m s r with
      | none => rw [hr] at e; cases e
      | some ws =>
        rw [hr] at e
        rw [resY_ok h hr, h.at_ _ _ hx]
        exact e
  | .cell a tt :: r, vs, e => by
    unfold resY at e
    unfold resA
    split at e
    · rename_i i g j off hT hx
      simp only [hT, h.at_ _ _ hx]
      cases h1 : s.read g j off i.cnt with
      | none => rw [h1] at e; cases e
      | some cs =>
        rw [h1] at e
        cases h2 : ofCells i.sh.isAgg cs with
        | none => simp only [h2] at e; cases e
        | some v =>
          simp only [h2] at e
          cases h3 : resY T m s r with
          | none => rw [h3] at e; cases e
          | some ws =>
            rw [h3] at e
            simp only [h2, resY_ok h h3]
            exact e
    · cases e
def packA : List AV → AV
  | [v] => v
  | vs => .tup vs
/-- What a function's end must show. -/
def Ends (T : Tab) (fn : Func) (Q : AV → St → Prop) : Ex → Sy → St → Prop
  | .normal, m, s => ∃ vs, resY T m s fn.results.toList = some vs ∧ Q (packA vs) s
  | .ret, m, s => ∃ vs, resY T m s fn.results.toList = some vs ∧ Q (packA vs) s
  | _, _, _ => False
theorem call_known {f : FuncId} {b : Bool} {Q : AV → St → Prop} (hK : K f = some b) (h : Q (.bool b) s) : CallS P T K f [] s Q :=
  ⟨1, .bool b, s, h, fun n hn => by
    obtain ⟨n, rfl⟩ : ∃ j, n = j + 1 := ⟨n - 1, by omega⟩
    simp only [evCallK, hK]⟩
theorem call_of {f : FuncId} {args : List AV} {fn : Func} {Q : AV → St → Prop} (hf : P.funcs[f]? = some fn) (hb : fn.body = some c) (hn : args.length + (fn.ntmps - args.length) = nt) (hk : K f = none)
    (h : WC P T K nt c (syOf 0 args) s (Ends T fn Q)) : CallS P T K f args s Q := by
  obtain ⟨N, e, m', s', hq, hn'⟩ := h
  have key : ∃ vs, resY T m' s' fn.results.toList = some vs ∧ Q (packA vs) s' := by
    cases e with
    | normal => exact hq
    | ret => exact hq
    | _ => exact hq.elim
  obtain ⟨vs, hv, hQ⟩ := key
  refine ⟨N + 1, packA vs, s', hQ, fun n hn1 => ?_⟩
  obtain ⟨n, rfl⟩ : ∃ j, n = j + 1 := ⟨n - 1, by omega⟩
  obtain ⟨t', e1, ht'⟩ := hn' n n (by omega) (by omega) (TL.start args fn.ntmps) (hn ▸ Has.start args fn.ntmps)
  simp only [evCallK, hk, evBody, hf, hb, e1]
  cases e with
  | normal =>
    simp only [resY_ok ht' hv]
    cases vs with
    | nil => rfl
    | cons v r => cases r <;> rfl
  | ret =>
    simp only [resY_ok ht' hv]
    cases vs with
    | nil => rfl
    | cons v r => cases r <;> rfl
  | _ => exact hq.elim
end
section
variable {P : Program} {T : Tab} {K : FuncId → Option Bool} {nt : Nat} {ops : Array Oper} {rest : List Oper} {m : Sy} {s s' : St} {Q : Sy → St → Prop} {op : Op} {d ty : Nat} {pos : String} {af : Array Edge} {g : Option (Nat × Bool)} {v : AV}
theorem w_val (hg : guardY ops m g = some true) (hd : Nat.ble (d + 1) nt = true) (h : ∀ t, Has t nt m → evOp T op t s = some (.val v, s')) (k : W P T K nt ops rest ((d, v) :: m) s' Q) :
    W P T K nt ops (⟨some d, op, ty, pos, af, g⟩ :: rest) m s Q := w_cons (w1_val hg hd h k)
theorem w_eff (hg : guardY ops m g = some true) (h : ∀ t, Has t nt m → evOp T op t s = some (.skip, s')) (k : W P T K nt ops rest m s' Q) :
    W P T K nt ops (⟨none, op, ty, pos, af, g⟩ :: rest) m s Q := w_cons (w1_skip hg rfl h k)
theorem w_off (hg : guardY ops m g = some false) (hd : Nat.ble (d + 1) nt = true) (k : W P T K nt ops rest ((d, .undef) :: m) s Q) :
    W P T K nt ops (⟨some d, op, ty, pos, af, g⟩ :: rest) m s Q := w_cons (w1_off hg hd k)
theorem op_call {c : Callee} {x : Operand} {as0 : Array Operand} {tys : Array TypeId} {f : FuncId} {caps args args' : List AV} (hc : c = .value x) (hx : evY m x = some (.fn f caps)) (ha : evsY m as0.toList = some args) (he : args ++ caps = args') :
    ∀ t, Has t nt m → evOp T (.call ⟨c, as0, tys⟩) t s = some (.call f args' , s) := by
  intro t ht
  subst hc he
  simp only [evOp, evY_ok ht hx, evsY_ok ht ha]
theorem w_call {f : FuncId} {args : List AV} {R : AV → St → Prop} (hg : guardY ops m g = some true) (hd : Nat.ble (d + 1) nt = true) (h : ∀ t, Has t nt m → evOp T op t s = some (.call f args, s)) (hc : CallS P T K f args s R)
    (k : ∀ v s', R v s' → W P T K nt ops rest ((d, v) :: m) s' Q) : W P T K nt ops (⟨some d, op, ty, pos, af, g⟩ :: rest) m s Q := w_cons (w1_call hg hd h hc k)
variable {D : Nat → Prop}
theorem wd_val (hD : ∀ g, D g) (hg : guardY ops m g = some true) (hd : Nat.ble (d + 1) nt = true) (h : ∀ t, Has t nt m → evOp T op t s.bare = some (.val v, s.bare)) (k : WD P T K nt ops rest ((d, v) :: m) s D Q) :
    WD P T K nt ops (⟨some d, op, ty, pos, af, g⟩ :: rest) m s D Q := wd_cons (fun _ _ g _ => hD g) (w1_val hg hd h ⟨fun _ h => (by cases h), k⟩)
theorem wd_call {f : FuncId} {args : List AV} {R : AV → Prop} (hD : ∀ g, D g) (hg : guardY ops m g = some true) (hd : Nat.ble (d + 1) nt = true) (h : ∀ t, Has t nt m → evOp T op t s.bare = some (.call f args, s.bare))
    (hc : CallS P T K f args s.bare fun v s' => s' = s.bare ∧ R v) (k : ∀ v, R v → WD P T K nt ops rest ((d, v) :: m) s D Q) : WD P T K nt ops (⟨some d, op, ty, pos, af, g⟩ :: rest) m s D Q :=
  wd_cons (fun _ _ g _ => hD g) (w1_call hg hd h hc fun v s' hr => by
    obtain ⟨rfl, hr⟩ := hr
    exact ⟨fun _ h => (List.not_mem_nil h).elim, k v hr⟩)
variable {a b c : Code} {R : Ex → Sy → St → Prop} {id : Nat} {I : Nat → Sy → St → Prop} {j : Nat}
theorem then_n (h : WC P T K nt b m s R) : Then P T K nt b R .normal m s := h
theorem then_r (h : R .ret m s) : Then P T K nt b R .ret m s := h
theorem then_x (h : R (.exit id) m s) : Then P T K nt b R (.exit id) m s := h
theorem out_n (h : R .normal m s) : Out id R .normal m s := h
theorem out_r (h : R .ret m s) : Out id R .ret m s := h
theorem out_x (h : R .normal m s) : Out id R (.exit id) m s := ⟨fun _ => h, fun k => (k rfl).elim⟩
theorem round_r (h : R .ret m s) : Round I j R .ret m s := h
theorem round_x (h : R (.exit id) m s) : Round I j R (.exit id) m s := h
theorem round_n (i : Nat) (m' : Sy) (hi : i < j) (hs : Sub m' m) (h : I i m' s) : Round I j R .normal m s := ⟨i, m', hi, hs, h⟩
theorem wc_loop_at (I : Nat → Sy → St → Prop) (j : Nat) (m' : Sy) (hs : Sub m' m) (h0 : I j m' s) (hI : ∀ j m s, I j m s → WC P T K nt b m s (Round I j R)) : WC P T K nt (.loop b) m s R :=
  wc_sub hs (wc_loop I hI j m' s h0)
theorem w_split {i : Nat} {x : Bool} {l : List Oper} (h : m.at i = some (.bool x)) (ht : x = true → W P T K nt ops l ((i, .bool true) :: m) s Q) (hf : x = false → W P T K nt ops l ((i, .bool false) :: m) s Q) : W P T K nt ops l m s Q := by
  have key : ∀ m', Sub m' m → W P T K nt ops l m' s Q → W P T K nt ops l m s Q := by
    intro m' hs ⟨N, m1, s1, hq, hn⟩
    exact ⟨N, m1, s1, hq, fun n hn' t htt => hn n hn' t (htt.sub hs)⟩
  cases x with
  | true => exact key _ (Sub.cons h (Sub.refl m)) (ht rfl)
  | false => exact key _ (Sub.cons h (Sub.refl m)) (hf rfl)
theorem wc_cond_t {q : Operand} (hq : evY m q = some (.bool true)) (h : WC P T K nt a m s R) : WC P T K nt (.cond q a b) m s R := wc_cond hq (fun _ => h) (fun k => by cases k)
theorem wc_cond_f {q : Operand} (hq : evY m q = some (.bool false)) (h : WC P T K nt b m s R) : WC P T K nt (.cond q a b) m s R := wc_cond hq (fun k => by cases k) (fun _ => h)
/-- A claim between two parts. -/
def Cut (J : Sy → St → Prop) (R : Ex → Sy → St → Prop) : Ex → Sy → St → Prop
  | .normal, m, s => J m s
  | e, m, s => R e m s
theorem wc_cut (J : Sy → St → Prop) (h : WC P T K nt a m s (Cut J R)) (k : ∀ m s, J m s → R .normal m s) : WC P T K nt a m s R :=
  wc_mono h fun e m' s' hq => by
    cases e with
    | normal => exact k _ _ hq
    | _ => exact hq
theorem cut_n {J : Sy → St → Prop} (h : J m s) : Cut J R .normal m s := h
theorem cut_r {J : Sy → St → Prop} (h : R .ret m s) : Cut J R .ret m s := h
theorem out_x' {id' : Nat} (hne : id' ≠ id) (h : R (.exit id') m s) : Out id R (.exit id') m s := ⟨fun k => (hne k).elim, fun _ => h⟩
theorem wc_condT {i : Nat} {x : Bool} (hq : m.at i = some (.bool x)) (ha : x = true → WC P T K nt a ((i, .bool true) :: m) s R) (hb : x = false → WC P T K nt b ((i, .bool false) :: m) s R) : WC P T K nt (.cond (.tmp i) a b) m s R := by
  cases x with
  | true => exact wc_cond (x := true) hq (fun _ => wc_sub (m' := m) (Sub.refl m) (by
      obtain ⟨N, e, m1, s', hr, hn⟩ := ha rfl
      exact ⟨N, e, m1, s', hr, fun n k h1 h2 t ht => hn n k h1 h2 t (ht.sub (Sub.cons hq (Sub.refl m)))⟩)) (fun h => by cases h)
  | false => exact wc_cond (x := false) hq (fun h => by cases h) (fun _ => by
      obtain ⟨N, e, m1, s', hr, hn⟩ := hb rfl
      exact ⟨N, e, m1, s', hr, fun n k h1 h2 t ht => hn n k h1 h2 t (ht.sub (Sub.cons hq (Sub.refl m)))⟩)
end
end Go.Ab
/- Rows and variables in the abstract machine's memory, and what reading, writing and appending do to them. -/
namespace Go.Ab
/-- Cells read of a heap. -/
noncomputable def rdH (h : Tr Grp) (g j off n : Nat) : Option (List AV) :=
  match Tr.get h g with
  | none => none
  | some G => G.read j off n
theorem read_rd (s : St) (g j off n : Nat) : s.read g j off n = rdH s.h g j off n := rfl
theorem Grp.read_eq {G : Grp} {j off n : Nat} {cs : List AV} (h : G.read j off n = some cs) : ∃ V, G.vers[j]? = some V ∧ V.mp = none ∧ off + n ≤ V.cells.length ∧ (V.cells.drop off).take n = cs := by
  unfold Grp.read at h
  cases hj : G.vers[j]? with
  | none => rw [hj] at h; cases h
  | some V =>
    rw [hj] at h
    simp only at h
    split at h
    · rename_i hc
      exact ⟨V, rfl, Option.isNone_iff_eq_none.1 hc.1, hc.2, Option.some.inj h⟩
    · cases h
theorem Grp.read_mk {G : Grp} {j off n : Nat} {V : Ver} (h : G.vers[j]? = some V) (hm : V.mp = none) (hl : off + n ≤ V.cells.length) : G.read j off n = some ((V.cells.drop off).take n) := by
  unfold Grp.read
  rw [h]
  simp only [hm, Option.isNone_none, true_and, hl, if_true]
theorem rdH_len {h : Tr Grp} {g j off n : Nat} {cs : List AV} (k : rdH h g j off n = some cs) : cs.length = n := by
  unfold rdH at k
  split at k
  · cases k
  · obtain ⟨V, -, -, hl, rfl⟩ := Grp.read_eq k
    simp; omega
theorem rdH_has {h : Tr Grp} {g j off n : Nat} {cs : List AV} (k : rdH h g j off n = some cs) : ∃ G, Tr.get h g = some G := by
  unfold rdH at k
  split at k
  · cases k
  · exact ⟨_, ‹_›⟩
/-- A part of what is read. -/
theorem rdH_part {h : Tr Grp} {g j off n : Nat} {cs : List AV} (k : rdH h g j off n = some cs) (o l : Nat) (hl : o + l ≤ n) : rdH h g j (off + o) l = some ((cs.drop o).take l) := by
  unfold rdH at k ⊢
  split at k
  · cases k
  · rename_i G hG
    obtain ⟨V, h1, h2, h3, rfl⟩ := Grp.read_eq k
    rw [Grp.read_mk h1 h2 (by omega)]
    congr 1
    rw [List.drop_take, List.drop_drop, List.take_take, Nat.min_eq_left (by omega)]
def St.Ok (s : St) : Prop := ∀ g, s.ctr ≤ g → Tr.get s.h g = none
/-- All but the groups of X is as it was. -/
structure Keep (X : List Nat) (s s' : St) : Prop where
  ok0 : s.Ok
  ok : s'.Ok
  ctr : s.ctr ≤ s'.ctr
  keep : ∀ g, g ∉ X → ∀ G, Tr.get s.h g = some G → Tr.get s'.h g = some G
  wr : ∀ g ∈ s'.wr, g ∈ s.wr ∨ g ∈ X ∨ s.ctr ≤ g
theorem Keep.refl {s : St} (h : s.Ok) : Keep [] s s := ⟨h, h, Nat.le_refl _, fun _ _ _ h => h, fun _ h => .inl h⟩
theorem Keep.trans {X Y : List Nat} {s s' s'' : St} (h : Keep X s s') (k : Keep Y s' s'') (hY : ∀ g ∈ Y, g ∈ X ∨ s.ctr ≤ g) : Keep X s s'' where
  ok0 := h.ok0
  ok := k.ok
  ctr := Nat.le_trans h.ctr k.ctr
  keep := fun g hg G hG => k.keep g (fun hy => (hY g hy).elim hg (fun e => by rw [h.ok0 g e] at hG; cases hG)) G (h.keep g hg G hG)
  wr := fun g hg => by
    have := h.ctr
    rcases k.wr g hg with h1 | h1 | h1
    · exact h.wr g h1
    · exact .inr (hY g h1)
    · exact .inr (.inr (by omega))
theorem Keep.more {X Y : List Nat} {s s' : St} (h : Keep X s s') (hs : ∀ g ∈ X, g ∈ Y) : Keep Y s s' := ⟨h.ok0, h.ok, h.ctr, fun g hg => h.keep g (fun e => hg (hs g e)), fun g hg => (h.wr g hg).imp id (Or.imp (hs g) id)⟩
theorem rdH_keep {X : List Nat} {s s' : St} (h : Keep X s s') {g j off n : Nat} {cs : List AV} (hg : g ∉ X) (k : rdH s.h g j off n = some cs) : rdH s'.h g j off n = some cs := by
  unfold rdH at k ⊢
  split at k
  · cases k
  · rename_i G hG
    rw [h.keep g hg G hG]
    exact k

/-- The groups of a value. -/
def AV.gs : AV → List Nat
  | .ptr g _ _ => [g]
  | .slc g _ _ _ _ _ _ => [g]
  | .mp g => [g]
  | _ => []
/-- A row: its elements' cells. -/
def Row (h : Tr Grp) (sz : Nat) : AV → List (List AV) → Prop
  | .nils, cs => cs = []
  | .ro _ xs, cs => xs.map AV.cells = cs ∧ ∀ c ∈ cs, c.length = sz ∧ c.all AV.leaf = true
  | .slc g j off sz' len lo _, cs => sz' = sz ∧ sz ≠ 0 ∧ len = cs.length ∧ len ≤ lo ∧ (∀ c ∈ cs, c.length = sz ∧ c.all AV.leaf = true) ∧ ∃ rest, rdH h g j off (lo * sz) = some (cs.flatten ++ rest)
  | _, _ => False
theorem Row.cells {h : Tr Grp} {sz : Nat} {v : AV} {cs : List (List AV)} (k : Row h sz v cs) : ∀ c ∈ cs, c.length = sz ∧ c.all AV.leaf = true := by
  cases v with
  | nils => cases k; intro c hc; cases hc
  | ro nl xs => exact k.2
  | slc g j off sz' len lo ex => exact k.2.2.2.2.1
  | _ => exact k.elim
theorem Row.slen {h : Tr Grp} {sz : Nat} {v : AV} {cs : List (List AV)} (k : Row h sz v cs) : v.slen = some cs.length := by
  cases v with
  | nils => cases k; rfl
  | ro nl xs => rw [← k.1]; simp [AV.slen]
  | slc g j off sz' len lo ex => exact congrArg some k.2.2.1
  | _ => exact k.elim
theorem flat_len {cs : List (List AV)} {sz : Nat} (h : ∀ c ∈ cs, c.length = sz) : cs.flatten.length = cs.length * sz := by
  induction cs with
  | nil => simp
  | cons c cs ih =>
    rw [List.flatten_cons, List.length_append, ih (fun x hx => h x (List.mem_cons_of_mem _ hx)), h c (List.mem_cons_self ..), List.length_cons, Nat.succ_mul, Nat.add_comm]
theorem Row.rd {h : Tr Grp} {sz : Nat} {cs : List (List AV)} {g j off sz' len lo : Nat} {ex : Bool} (k : Row h sz (.slc g j off sz' len lo ex) cs) : rdH h g j off (len * sz) = some cs.flatten := by
  obtain ⟨rfl, h2, rfl, h4, h5, rest, h6⟩ := k
  have hfl : cs.flatten.length = cs.length * sz' := flat_len fun c hc => (h5 c hc).1
  have := rdH_part h6 0 (cs.length * sz') (by have := Nat.mul_le_mul_right sz' h4; omega)
  rw [Nat.add_zero, List.drop_zero, List.take_append_of_le_length (by omega), List.take_of_length_le (by omega)] at this
  exact this
theorem flat_part {cs : List (List AV)} {sz : Nat} (h : ∀ c ∈ cs, c.length = sz) {i : Nat} {c : List AV} (hc : cs[i]? = some c) : (cs.flatten.drop (i * sz)).take sz = c := by
  induction cs generalizing i with
  | nil => simp at hc
  | cons x cs ih =>
    have hx := h x (List.mem_cons_self ..)
    cases i with
    | zero =>
      simp only [List.getElem?_cons_zero, Option.some.injEq] at hc
      subst hc
      simp [List.flatten_cons, ← hx]
    | succ i =>
      rw [List.flatten_cons, Nat.succ_mul, Nat.add_comm, ← List.drop_drop, ← hx, List.drop_left, hx]
      exact ih (fun y hy => h y (List.mem_cons_of_mem _ hy)) (by simpa using hc)
theorem flat_set {cs : List (List AV)} {sz : Nat} (h : ∀ c ∈ cs, c.length = sz) {i : Nat} {c : List AV} (hi : i < cs.length) (hc : c.length = sz) : over cs.flatten (i * sz) c = (cs.set i c).flatten := by
  induction cs generalizing i with
  | nil => simp at hi
  | cons x cs ih =>
    have hx := h x (List.mem_cons_self ..)
    cases i with
    | zero =>
      unfold over
      simp [List.flatten_cons, hc, ← hx]
    | succ i =>
      have := ih (i := i) (fun y hy => h y (List.mem_cons_of_mem _ hy)) (by simpa using hi)
      unfold over at this ⊢
      rw [List.set_cons_succ, List.flatten_cons, List.flatten_cons, ← this, Nat.succ_mul, Nat.add_comm (i * sz) sz, ← hx]
      rw [List.take_length_add_append, Nat.add_assoc, List.drop_length_add_append]
      simp [List.append_assoc]
theorem flat_app (cs ns : List (List AV)) : (cs ++ ns).flatten = cs.flatten ++ ns.flatten := List.flatten_append
theorem Row.elems {s : St} {sz : Nat} {v : AV} {cs : List (List AV)} (k : Row s.h sz v cs) : s.elems sz v = some cs.flatten := by
  cases v with
  | nils => cases k; rfl
  | ro nl xs =>
    obtain ⟨rfl, h⟩ := k
    have : (xs.all fun x => decide (x.cells.length = sz) && x.cells.all AV.leaf) = true := by
      rw [List.all_eq_true]
      intro x hx
      have := h x.cells (List.mem_map_of_mem hx)
      simp only [this.1, this.2, decide_true, Bool.and_self]
    simp only [St.elems, this, if_true, List.flatMap_def]
  | slc g j off sz' len lo ex =>
    have h := k.rd
    obtain ⟨rfl, -⟩ := k
    simp only [St.elems, if_true]
    exact h
  | _ => exact k.elim
theorem Row.keep {X : List Nat} {s s' : St} {sz : Nat} {v : AV} {cs : List (List AV)} (k : Row s.h sz v cs) (h : Keep X s s') (hg : ∀ g ∈ v.gs, g ∉ X) : Row s'.h sz v cs := by
  cases v with
  | nils => exact k
  | ro nl xs => exact k
  | slc g j off sz' len lo ex =>
    obtain ⟨h1, h2, h3, h4, h5, rest, h6⟩ := k
    exact ⟨h1, h2, h3, h4, h5, rest, rdH_keep h (hg g (List.mem_cons_self ..)) h6⟩
  | _ => exact k.elim
theorem Row.has {h : Tr Grp} {sz : Nat} {v : AV} {cs : List (List AV)} (k : Row h sz v cs) : ∀ g ∈ v.gs, ∃ G, Tr.get h g = some G := by
  cases v with
  | slc g j off sz' len lo ex =>
    intro x hx
    rw [List.mem_singleton.1 hx]
    exact rdH_has k.rd
  | nils => intro x hx; cases hx
  | ro nl xs => intro x hx; cases hx
  | _ => exact k.elim

/-- The address of an element. -/
def elemA (v : AV) (i : Nat) : AV := match v with
  | .slc g j off sz _ _ _ => .ptr g j (off + i * sz)
  | .ro _ xs => match xs[i]? with
    | some x => .rop x.cells
    | none => .undef
  | _ => .undef
/-- A field's address. -/
def fldA (p : AV) (o : Nat) : AV := match p with
  | .ptr g j off => .ptr g j (off + o)
  | .rop cs => .rop (cs.drop o)
  | _ => .undef
/-- What lies at an address. -/
def Pt (h : Tr Grp) : AV → List AV → Prop
  | .ptr g j off, cs => rdH h g j off cs.length = some cs
  | .rop xs, cs => xs.take cs.length = cs ∧ xs.all AV.leaf = true
  | _, _ => False
theorem Pt.fld {h : Tr Grp} {p : AV} {cs : List AV} (k : Pt h p cs) (o : Nat) (ho : o ≤ cs.length) : Pt h (fldA p o) (cs.drop o) := by
  cases p with
  | ptr g j off =>
    have := rdH_part k o (cs.length - o) (by omega)
    simp only [fldA, Pt, List.length_drop]
    rw [this, List.take_of_length_le (by simp)]
  | rop xs =>
    obtain ⟨h1, h2⟩ := k
    refine ⟨?_, ?_⟩
    · rw [List.length_drop, ← List.drop_take, h1]
    · rw [List.all_eq_true] at h2 ⊢
      exact fun x hx => h2 x (List.mem_of_mem_drop hx)
  | _ => exact k.elim
theorem Pt.keep {X : List Nat} {s s' : St} {p : AV} {cs : List AV} (k : Pt s.h p cs) (h : Keep X s s') (hg : ∀ g ∈ p.gs, g ∉ X) : Pt s'.h p cs := by
  cases p with
  | ptr g j off => exact rdH_keep h (hg g (List.mem_cons_self ..)) k
  | rop xs => exact k
  | _ => exact k.elim
theorem Row.pt {h : Tr Grp} {sz : Nat} {v : AV} {cs : List (List AV)} (k : Row h sz v cs) {i : Nat} {c : List AV} (hc : cs[i]? = some c) : Pt h (elemA v i) c := by
  have hi : i < cs.length := (List.getElem?_eq_some_iff.1 hc).1
  have hcc := k.cells c (List.mem_of_getElem? hc)
  cases v with
  | nils => cases k; simp at hc
  | ro nl xs =>
    obtain ⟨rfl, h2⟩ := k
    rw [List.getElem?_map] at hc
    cases hx : xs[i]? with
    | none => rw [hx] at hc; cases hc
    | some x =>
      rw [hx] at hc
      cases hc
      simp only [elemA, hx, Pt]
      exact ⟨by simp, hcc.2⟩
  | slc g j off sz' len lo ex =>
    have h6 := k.rd
    obtain ⟨rfl, h2, rfl, h4, h5, -⟩ := k
    simp only [elemA, Pt]
    have : i * sz' + sz' ≤ cs.length * sz' := by rw [← Nat.succ_mul]; exact Nat.mul_le_mul_right _ hi
    rw [hcc.1, rdH_part h6 (i * sz') sz' this, flat_part (fun c hc => (h5 c hc).1) hc]
  | _ => exact k.elim
theorem Row.mk_pt {h : Tr Grp} {sz : Nat} {v : AV} {α : Type} {f : α → List AV} {xs : List α} (k : Row h sz v (xs.map f)) {i : Nat} {x : α} (hc : xs[i]? = some x) : Pt h (elemA v i) (f x) :=
  k.pt (by rw [List.getElem?_map, hc]; rfl)

section
variable {T : Tab} {nt : Nat} {m : Sy} {s : St}
/-- Operations that need no memory. -/
def pureY (T : Tab) (m : Sy) : Op → Option AV
  | .move x | .assign x => evY m x
  | .pick c a b => match evY m c with
    | some (.bool true) => match evY m b with
      | some _ => evY m a
      | none => none
    | some (.bool false) => match evY m a with
      | some _ => evY m b
      | none => none
    | _ => none
  | .nilCheck x => match evY m x with
    | some (.ptr g j off) => some (.ptr g j off)
    | some (.rop cs) => some (.rop cs)
    | _ => none
  | .binOp op xt x y _ => match evY m x, evY m y with
    | some vx, some vy => binA T op xt vx vy
    | _, _ => none
  | .unOp op _ x => match evY m x with
    | none => none
    | some vx => unA op vx
  | .makeFunc (.func f) first caps => if first.size ≠ 0 then none else
    match evsY m caps.toList with
    | none => none
    | some vs => some (.fn f vs)
  | .field st x f => match T st with
    | some { sh := .struct fs, .. } => match fs[f]?, evY m x with
      | some (off, sz, ag), some (.agg cs) =>
        if off + sz ≤ cs.length ∧ (ag = false → sz = 1) then ofCells ag ((cs.drop off).take sz) else none
      | _, _ => none
    | _ => none
  | .build tt parts => match T tt with
    | none => none
    | some i => match evPartsY m parts.toList with
      | none => none
      | some ps =>
        match (match i.sh with
          | .struct fs => fillA (fun n => (fs[n]?).map fun f => (f.1, f.2.1)) i.zero ps
          | .array _ e => match T e with
            | none => none
            | some ie => fillA (fun n => some (n * ie.size, ie.size)) i.zero ps
          | _ => none) with
        | none => none
        | some cs => some (.agg cs)
  | .extract x i => match evY m x with
    | some (.tup vs) => vs[i]?
    | _ => none
  | _ => none
theorem op_pure {o : Op} {v : AV} (h : pureY T m o = some v) : ∀ t, Has t nt m → evOp T o t s = some (.val v, s) := by
  intro t ht
  unfold pureY at h
  split at h
  · simp only [evOp, evY_ok ht h]
  · simp only [evOp, evY_ok ht h]
  · split at h
    · rename_i hq
      split at h
      · rename_i hb
        simp only [evOp, evY_ok ht hq, evY_ok ht h, evY_ok ht hb, if_true]
      · cases h
    · rename_i hq
      split at h
      · rename_i ha
        simp only [evOp, evY_ok ht hq, evY_ok ht h, evY_ok ht ha, Bool.false_eq_true, if_false]
      · cases h
    · cases h
  · split at h
    · rename_i hq
      cases h
      simp only [evOp, evY_ok ht hq]
    · rename_i hq
      cases h
      simp only [evOp, evY_ok ht hq]
    · cases h
  · split at h
    · rename_i ha hb
      simp only [evOp, evY_ok ht ha, evY_ok ht hb, h]
    · cases h
  · split at h
    · cases h
    · rename_i ha
      simp only [evOp, evY_ok ht ha, h]
  · split at h
    · cases h
    · rename_i hf
      split at h
      · cases h
      · rename_i hv
        cases h
        simp only [evOp, hf, if_false, evsY_ok ht hv]
  · split at h
    · rename_i hT
      split at h
      · rename_i hf hx
        split at h
        · rename_i hc
          obtain ⟨c1, c2⟩ := hc
          simp only [evOp, hT, hf, evY_ok ht hx]
          rw [if_pos ⟨c1, c2⟩, h]
        · cases h
      · cases h
    · cases h
  · split at h
    · cases h
    · rename_i hT
      split at h
      · cases h
      · rename_i hp
        split at h
        · cases h
        · rename_i hc
          cases h
          simp only [evOp, hT, evPartsY_ok ht hp]
          rename_i i _ _ _ _
          cases hsh : i.sh with
          | array n e =>
            rw [hsh] at hc
            cases hTe : T e with
            | none => simp only [hTe] at hc; cases hc
            | some ie => simp only [hTe] at hc ⊢; rw [hc]
          | _ => rw [hsh] at hc <;> simp_all
  · split at h
    · rename_i hx
      simp only [evOp, evY_ok ht hx, h]
    · cases h
  · cases h
theorem op_int {op : BinOp} {xt yt : TypeId} {x y : Operand} {k : IntKind} {a b : Int} {v : AV} (hx : evY m x = some (.int k a)) (hy : evY m y = some (.int k b)) (hn : op ≠ .shl ∧ op ≠ .shr) (h : intA op k a b = some v) :
    ∀ t, Has t nt m → evOp T (.binOp op xt x y yt) t s = some (.val v, s) := by
  intro t ht
  have : binA T op xt (.int k a) (.int k b) = some v := by
    unfold binA
    cases op <;> simp_all
  simp only [evOp, evY_ok ht hx, evY_ok ht hy, this]
def In64 (a : Int) : Prop := -9223372036854775808 ≤ a ∧ a < 9223372036854775808
theorem wrap64 {a : Int} (h : In64 a) : IntKind.i64.wrap a = a := by
  obtain ⟨h1, h2⟩ := h
  simp only [IntKind.wrap, IntKind.signed, IntKind.bits, Bool.true_and, decide_eq_true_eq, ge_iff_le, show (2 : Int) ^ 64 = 18446744073709551616 from rfl, show (2 : Int) ^ (64 - 1) = 9223372036854775808 from rfl]
  by_cases hc : (9223372036854775808 : Int) ≤ a % 18446744073709551616
  · rw [if_pos hc]; omega
  · rw [if_neg hc]; omega
theorem op_add {xt yt : TypeId} {x y : Operand} {a b : Int} (hx : evY m x = some (.int .i64 a)) (hy : evY m y = some (.int .i64 b)) (h : In64 (a + b)) :
    ∀ t, Has t nt m → evOp T (.binOp .add xt x y yt) t s = some (.val (.int .i64 (a + b)), s) :=
  op_int hx hy (by decide) (by unfold intA; rw [wrap64 h])
theorem op_sub {xt yt : TypeId} {x y : Operand} {a b : Int} (hx : evY m x = some (.int .i64 a)) (hy : evY m y = some (.int .i64 b)) (h : In64 (a - b)) :
    ∀ t, Has t nt m → evOp T (.binOp .sub xt x y yt) t s = some (.val (.int .i64 (a - b)), s) :=
  op_int hx hy (by decide) (by unfold intA; rw [wrap64 h])
theorem op_len {tt : TypeId} {x : Operand} {v : AV} {i : TI} {e : TypeId} {n : Nat} {args : Array Operand} {tys : Array TypeId} (ha : args.toList = [x]) (hb : tys.toList = [tt]) (hx : evY m x = some v) (hT : T tt = some i) (hs : i.sh = .slice e) (hn : v.slen = some n) :
    ∀ t, Has t nt m → evOp T (.call ⟨.builtin .len, args, tys⟩) t s = some (.val (.int .i64 n), s) := by
  intro t ht
  have h1 : evsY m [x] = some [v] := by simp only [evsY, hx]
  simp only [evOp, ha, hb, evsY_ok ht h1, callA, lenA, hT, hs, hn]
theorem op_fld {st : TypeId} {x : Operand} {f : Nat} {i : TI} {fs : List (Nat × Nat × Bool)} {off sz : Nat} {ag : Bool} {p : AV} {cs : List AV} (hx : evY m x = some p) (hT : T st = some i) (hs : i.sh = .struct fs) (hf : fs[f]? = some (off, sz, ag)) (hz : sz ≠ 0) (hp : Pt s.h p cs) (ho : off ≤ cs.length) :
    ∀ t, Has t nt m → evOp T (.fieldAddr st x f) t s = some (.val (fldA p off), s) := by
  intro t ht
  obtain ⟨sh, size, bytes, zero, flat⟩ := i
  cases hs
  cases p with
  | ptr g j o => simp only [evOp, hT, hf, evY_ok ht hx, hz, if_false, fldA]
  | rop xs =>
    have : off ≤ xs.length := by
      have := congrArg List.length hp.1
      rw [List.length_take] at this
      omega
    simp only [evOp, hT, hf, evY_ok ht hx, hz, if_false, fldA, this, if_true]
  | _ => exact hp.elim
def loadC (i : TI) (cs : List AV) : Option AV := if i.cnt ≤ cs.length then ofCells i.sh.isAgg (cs.take i.cnt) else none
theorem op_load {tt : TypeId} {a : Operand} {i : TI} {p v : AV} {cs : List AV} (hx : evY m a = some p) (hT : T tt = some i) (hp : Pt s.h p cs) (hc : loadC i cs = some v) :
    ∀ t, Has t nt m → evOp T (.load tt a) t s = some (.val v, s) := by
  intro t ht
  unfold loadC at hc
  split at hc
  · rename_i hl
    cases p with
    | ptr g j o =>
      have := rdH_part hp 0 i.cnt (by omega)
      rw [Nat.add_zero, List.drop_zero] at this
      simp only [evOp, hT, evY_ok ht hx, read_rd, this, hc]
    | rop xs =>
      obtain ⟨h1, h2⟩ := hp
      have h3 := congrArg List.length h1
      rw [List.length_take] at h3
      have h4 : xs.take i.cnt = cs.take i.cnt := by rw [← h1, List.take_take, Nat.min_eq_left hl]
      have h5 : i.cnt ≤ xs.length := by omega
      simp only [evOp, hT, evY_ok ht hx, h2, h4, h5, and_self, if_true, hc]
    | _ => exact hp.elim
  · cases hc
theorem op_idx {tt : TypeId} {x ix : Operand} {i ie : TI} {e : TypeId} {v vi : AV} {n : Nat} {cs : List (List AV)} (hx : evY m x = some v) (hi : evY m ix = some vi) (hn : natA vi = some n) (hT : T tt = some i) (hs : i.sh = .slice e) (he : T e = some ie) {sz : Nat} (hz : ie.size = sz) (hr : Row s.h sz v cs) (hl : n < cs.length) :
    ∀ t, Has t nt m → evOp T (.indexAddr tt x ix) t s = some (.val (elemA v n), s) := by
  intro t ht
  obtain ⟨sh, size, bytes, zero, flat⟩ := i
  cases hs
  have : idxA T tt v n = some (elemA v n) := by
    cases v with
    | nils => cases hr; simp at hl
    | ro nl xs =>
      obtain ⟨rfl, h2⟩ := hr
      rw [List.length_map] at hl
      have hx : xs[n]? = some xs[n] := List.getElem?_eq_getElem hl
      have h3 := (h2 xs[n].cells (List.mem_map_of_mem (List.getElem_mem hl))).1
      unfold idxA elemA
      simp only [hT, he, hx, h3, hz, if_true]
    | slc g j off sz' len lo ex =>
      obtain ⟨rfl, h2, rfl, h4, h5, h6⟩ := hr
      unfold idxA elemA
      simp only [hT, he, hz, hl, and_self, if_true]
    | _ => exact hr.elim
  simp only [evOp, evY_ok ht hx, evY_ok ht hi, hn, this]
theorem Row.slenF {h : Tr Grp} {sz : Nat} {v : AV} {α : Type} {f : α → List AV} {xs : List α} (k : Row h sz v (xs.map f)) : v.slen = some xs.length := by rw [k.slen, List.length_map]
theorem natA_cast (k : IntKind) (n : Nat) : natA (.int k (n : Int)) = some n := by simp [natA]
theorem op_idxF {tt : TypeId} {x ix : Operand} {i ie : TI} {e : TypeId} {v vi : AV} {n : Nat} {α : Type} {f : α → List AV} {xs : List α} (hx : evY m x = some v) (hi : evY m ix = some vi) (hn : natA vi = some n) (hT : T tt = some i) (hs : i.sh = .slice e) (he : T e = some ie) {sz : Nat} (hz : ie.size = sz) (hr : Row s.h sz v (xs.map f)) (hl : n < xs.length) :
    ∀ t, Has t nt m → evOp T (.indexAddr tt x ix) t s = some (.val (elemA v n), s) :=
  op_idx hx hi hn hT hs he hz hr (by rwa [List.length_map])
end
end Go.Ab
/- What operations that turn the abstract machine's memory do to rows and variables. -/
namespace Go.Ab
theorem over_len {l : List AV} {k : Nat} {c : List AV} (h : k + c.length ≤ l.length) : (over l k c).length = l.length := by
  unfold over; simp; omega
theorem over_part (A B C : List AV) (k : Nat) (c : List AV) (h : k + c.length ≤ B.length) : over (A ++ B ++ C) (A.length + k) c = A ++ over B k c ++ C := by
  unfold over
  have h1 : (A ++ B ++ C).take (A.length + k) = A ++ B.take k := by
    rw [List.append_assoc, List.take_length_add_append, List.take_append_of_le_length (by omega)]
  have h2 : (A ++ B ++ C).drop (A.length + k + c.length) = B.drop (k + c.length) ++ C := by
    rw [List.append_assoc, Nat.add_assoc, List.drop_length_add_append, List.drop_append_of_le_length (by omega)]
  rw [h1, h2]
  simp [List.append_assoc]
theorem over_read {l : List AV} {off n k : Nat} {c : List AV} (h : off + n ≤ l.length) (hk : k + c.length ≤ n) : ((over l (off + k) c).drop off).take n = over ((l.drop off).take n) k c := by
  have e : l = l.take off ++ (l.drop off).take n ++ (l.drop off).drop n := by
    rw [List.append_assoc, List.take_append_drop, List.take_append_drop]
  have hA : (l.take off).length = off := by rw [List.length_take]; omega
  have hB : ((l.drop off).take n).length = n := by rw [List.length_take, List.length_drop]; omega
  generalize hAe : l.take off = A at *
  generalize hBe : (l.drop off).take n = B at *
  generalize hCe : (l.drop off).drop n = C at *
  have h3 : over l (off + k) c = A ++ over B k c ++ C := by
    conv => lhs; rw [e, ← hA]
    exact over_part A B C k c (by omega)
  rw [h3, ← hA, List.append_assoc, List.drop_left]
  have hov : (over B k c).length = n := by rw [over_len (by omega), hB]
  rw [List.take_append_of_le_length (by omega)]
  exact List.take_of_length_le (by omega)
theorem write_over {s : St} {g j off n k : Nat} {old c : List AV} (hok : s.Ok) (h : rdH s.h g j off n = some old) (hk : k + c.length ≤ n) (hl : c.all AV.leaf = true) :
    ∃ s', s.write g j (off + k) c = some s' ∧ rdH s'.h g j off n = some (over old k c) ∧ Keep [g] s s' ∧ s'.ctr = s.ctr := by
  obtain ⟨G, hG⟩ := rdH_has h
  have h' : G.read j off n = some old := by unfold rdH at h; rw [hG] at h; exact h
  obtain ⟨V, h1, h2, h3, h4⟩ := Grp.read_eq h'
  have hw : G.write j (off + k) c = some ⟨G.vers.mapIdx fun i U => if i = j then { V with cells := over V.cells (off + k) c } else U.poke (V.delta + (off + k)) c.length⟩ := by
    unfold Grp.write
    rw [h1]
    have : V.mp.isNone = true ∧ off + k + c.length ≤ V.cells.length := ⟨by rw [h2]; rfl, by omega⟩
    simp only [this, and_self, if_true]
  have hws : s.write g j (off + k) c = some (s.setG g ⟨G.vers.mapIdx fun i U => if i = j then { V with cells := over V.cells (off + k) c } else U.poke (V.delta + (off + k)) c.length⟩) := by
    unfold St.write; simp only [hl, if_true, St.get, hG, hw]
  refine ⟨_, hws, ?_, ⟨hok, ?_, Nat.le_refl _, ?_, ?_⟩, rfl⟩
  · unfold rdH
    simp only [St.setG, Tr.get_set, if_true]
    rw [Grp.read_mk (V := { V with cells := over V.cells (off + k) c }) (by simp [h1]) h2 (by simp only; rw [over_len (by omega)]; exact h3)]
    simp only
    rw [over_read h3 hk, h4]
  · intro g' hg'
    simp only [St.setG, Tr.get_set] at hg' ⊢
    split
    · rename_i e; subst e; rw [hok _ hg'] at hG; cases hG
    · exact hok g' hg'
  · intro g' hg' G' hG'
    simp only [St.setG, Tr.get_set]
    rw [if_neg (fun e => hg' (by rw [e]; exact List.mem_cons_self ..)), hG']
  · intro g' hg'
    rcases List.mem_cons.1 hg' with rfl | hg'
    · exact .inr (.inl (List.mem_cons_self ..))
    · exact .inl hg'
/-- A new group. -/
theorem newG_keep {s : St} (hok : s.Ok) (G : Grp) : Keep [] s (s.newG G) ∧ Tr.get (s.newG G).h s.ctr = some G ∧ (s.newG G).ctr = s.ctr + 1 := by
  refine ⟨⟨hok, fun g hg => ?_, Nat.le_succ _, fun g _ G' hG' => ?_, fun g hg => ?_⟩, ?_, rfl⟩
  · simp only [St.newG, Tr.get_set] at hg ⊢
    rw [if_neg (by omega)]
    exact hok g (by omega)
  · simp only [St.newG, Tr.get_set]
    split
    · rename_i e; subst e; rw [hok _ (Nat.le_refl _)] at hG'; cases hG'
    · exact hG'
  · rcases List.mem_cons.1 hg with rfl | hg
    · exact .inr (.inr (Nat.le_refl _))
    · exact .inl hg
  · simp only [St.newG, Tr.get_set, if_true]
theorem rd_new {s : St} {cs : List AV} (hok : s.Ok) : rdH (s.newG ⟨[⟨cs, 0, none⟩]⟩).h s.ctr 0 0 cs.length = some cs := by
  unfold rdH
  rw [(newG_keep hok _).2.1]
  exact (Grp.read_mk (V := ⟨cs, 0, none⟩) rfl rfl (by simp)).trans (by simp)

/-- Appending. -/
theorem app_row {s : St} {sz bytes : Nat} {a : AV} {cs ns : List (List AV)} (hok : s.Ok) (hsz : sz ≠ 0) (hr : Row s.h sz a cs) (hro : a.gs = [] → a = .nils) (hn : ∀ c ∈ ns, c.length = sz ∧ c.all AV.leaf = true)
    (hb : (cs.length + ns.length) * bytes ≤ maxBytes) (hb' : cs.length + ns.length ≤ maxBytes) :
    ∃ v s', s.app sz bytes a ns.length ns.flatten = some (v, s') ∧ Row s'.h sz v (cs ++ ns) ∧ Keep a.gs s s' ∧ s'.ctr ≤ s.ctr + 1 ∧ (v.gs = a.gs ∨ v.gs = [s.ctr]) ∧ (v.gs = [] → v = .nils) ∧ (ns ≠ [] → v.gs ≠ []) := by
  have hnl : ns.flatten.length = ns.length * sz := flat_len fun c hc => (hn c hc).1
  have hleaf : ns.flatten.all AV.leaf = true := by
    rw [List.all_eq_true]
    intro x hx
    obtain ⟨c, hc, hxc⟩ := List.mem_flatten.1 hx
    exact List.all_eq_true.1 (hn c hc).2 x hxc
  have hcells : ∀ c ∈ cs ++ ns, c.length = sz ∧ c.all AV.leaf = true := fun c hc => (List.mem_append.1 hc).elim (hr.cells c) (hn c)
  have hguard : ¬ (¬ ns.flatten.all AV.leaf = true ∨ sz = 0 ∨ ns.flatten.length ≠ ns.length * sz) := by
    rintro (h | h | h)
    · exact h hleaf
    · exact hsz h
    · exact h hnl
  have hnn : ns.length = 0 → ns = [] := fun h => List.eq_nil_of_length_eq_zero h
  unfold St.app
  rw [if_neg hguard]
  cases a with
  | nils =>
    cases hr
    simp only
    by_cases h0 : ns.length = 0
    · rw [if_pos h0]
      rw [hnn h0]
      exact ⟨_, _, rfl, rfl, Keep.refl hok, Nat.le_succ _, .inl rfl, fun _ => rfl, fun h => (h rfl).elim⟩
    · rw [if_neg h0, if_pos (by simp only [List.length_nil, Nat.zero_add] at hb hb'; exact ⟨hb, hb'⟩)]
      refine ⟨_, _, rfl, ⟨rfl, hsz, by simp, Nat.le_refl _, by simpa using hn, [], ?_⟩, (newG_keep hok _).1, Nat.le_refl _, .inr rfl, (fun h => by cases h), fun _ h => by cases h⟩
      rw [List.append_nil, List.nil_append, ← hnl]
      exact rd_new hok
  | ro nl xs => exact absurd (hro rfl) (by simp)
  | slc g j off sz' len lo ex =>
    have h6 := hr.rd
    obtain ⟨rfl, -, rfl, h4, h5, rest, h7⟩ := hr
    obtain ⟨G, hG⟩ := rdH_has h6
    have h' : G.read j off (cs.length * sz') = some cs.flatten := by unfold rdH at h6; rw [hG] at h6; exact h6
    obtain ⟨V, k1, k2, k3, k4⟩ := Grp.read_eq h'
    have hfl : cs.flatten.length = cs.length * sz' := flat_len fun c hc => (h5 c hc).1
    simp only [ne_eq, not_true_eq_false, if_false]
    by_cases hroom : cs.length + ns.length ≤ lo
    · rw [if_pos hroom]
      by_cases h0 : ns.length = 0
      · rw [if_pos h0]
        rw [hnn h0, List.append_nil]
        exact ⟨_, _, rfl, ⟨rfl, hsz, rfl, h4, h5, rest, h7⟩, (Keep.refl hok).more (fun g hg => by cases hg), Nat.le_succ _, .inl rfl, (fun h => by cases h), fun h => (h rfl).elim⟩
      · rw [if_neg h0]
        have hm : cs.length * sz' + ns.length * sz' ≤ lo * sz' := by rw [← Nat.add_mul]; exact Nat.mul_le_mul_right _ hroom
        obtain ⟨s', e1, e2, e3, e4⟩ := write_over hok h7 (k := cs.length * sz') (c := ns.flatten) (by omega) hleaf
        rw [e1]
        refine ⟨_, _, rfl, ⟨rfl, hsz, by simp, hroom, hcells, rest.drop (ns.length * sz'), ?_⟩, e3, by omega, .inl rfl, (fun h => by cases h), fun _ h => by cases h⟩
        rw [e2, flat_app]
        unfold over
        rw [List.take_append_of_le_length (by omega), List.take_of_length_le (by omega), ← hfl, hnl, List.drop_length_add_append]
    · rw [if_neg hroom, if_pos ⟨hb, hb'⟩]
      simp only [St.get, hG, h']
      cases ex with
      | true =>
        simp only [if_true]
        refine ⟨_, _, rfl, ⟨rfl, hsz, by simp, Nat.le_refl _, hcells, [], ?_⟩, (newG_keep hok _).1.more (fun g hg => by cases hg), Nat.le_refl _, .inr rfl, (fun h => by cases h), fun _ h => by cases h⟩
        rw [List.append_nil, flat_app]
        have : (cs.flatten ++ ns.flatten).length = (cs.length + ns.length) * sz' := by rw [List.length_append, hfl, hnl, Nat.add_mul]
        rw [← this]
        exact rd_new hok
      | false =>
        simp only [k1, Bool.false_eq_true, if_false]
        refine ⟨_, _, rfl, ⟨rfl, hsz, by simp, Nat.le_refl _, hcells, [], ?_⟩, ⟨hok, ?_, Nat.le_refl _, ?_, ?_⟩, Nat.le_succ _, .inl rfl, (fun h => by cases h), fun _ h => by cases h⟩
        · rw [List.append_nil, flat_app]
          have hlen : (cs.flatten ++ ns.flatten).length = (cs.length + ns.length) * sz' := by rw [List.length_append, hfl, hnl, Nat.add_mul]
          unfold rdH
          simp only [St.setG, Tr.get_set, if_true]
          rw [Grp.read_mk (V := ⟨cs.flatten ++ ns.flatten, V.delta + off, none⟩) (by simp) rfl (by simp only; omega)]
          simp only [List.drop_zero]
          rw [List.take_of_length_le (by omega)]
        · intro g' hg'
          simp only [St.setG, Tr.get_set] at hg' ⊢
          split
          · rename_i e; subst e; rw [hok _ hg'] at hG; cases hG
          · exact hok g' hg'
        · intro g' hg' G' hG'
          simp only [St.setG, Tr.get_set]
          rw [if_neg (fun e => hg' (by rw [e]; exact List.mem_cons_self ..)), hG']
        · intro g' hg'
          rcases List.mem_cons.1 hg' with rfl | hg'
          · exact .inr (.inl (List.mem_cons_self ..))
          · exact .inl hg'
  | _ => exact hr.elim
end Go.Ab
/- Steps of operations that turn memory: variables, stores, made slices, append, cuts, copy. -/
namespace Go.Ab
/-- A part of a row. -/
def cutA (v : AV) (l h : Nat) : AV := match v with
  | .slc g j off sz _ lo ex => .slc g j (off + l * sz) sz (h - l) (lo - l) ex
  | .ro nl xs => .ro nl ((xs.drop l).take (h - l))
  | v => v
theorem cutA_gs (v : AV) (l h : Nat) : (cutA v l h).gs = v.gs := by cases v <;> rfl
theorem Row.cut {H : Tr Grp} {sz : Nat} {v : AV} {cs : List (List AV)} (k : Row H sz v cs) {l h : Nat} (hl : l ≤ h) (hh : h ≤ cs.length) : Row H sz (cutA v l h) ((cs.drop l).take (h - l)) := by
  have hcells : ∀ c ∈ (cs.drop l).take (h - l), c.length = sz ∧ c.all AV.leaf = true := fun c hc => k.cells c (List.mem_of_mem_drop (List.mem_of_mem_take hc))
  cases v with
  | nils => cases k; simp [cutA, Row]
  | ro nl xs =>
    obtain ⟨rfl, -⟩ := k
    refine ⟨?_, hcells⟩
    rw [List.map_take, List.map_drop]
  | slc g j off sz' len lo ex =>
    obtain ⟨rfl, h2, rfl, h4, h5, rest, h6⟩ := k
    refine ⟨rfl, h2, by simp; omega, by omega, hcells, ((cs.drop l).drop (h - l)).flatten ++ rest, ?_⟩
    have e : cs = cs.take l ++ ((cs.drop l).take (h - l) ++ (cs.drop l).drop (h - l)) := by rw [List.take_append_drop, List.take_append_drop]
    have hA : (cs.take l).flatten.length = l * sz' := by
      rw [flat_len (sz := sz') fun c hc => (h5 c (List.mem_of_mem_take hc)).1, List.length_take, Nat.min_eq_left (by omega)]
    have hm : l * sz' + (lo - l) * sz' = lo * sz' := by rw [← Nat.add_mul]; congr 1; omega
    have := rdH_part h6 (l * sz') ((lo - l) * sz') (by omega)
    rw [this]
    congr 1
    have hlen := rdH_len h6
    have e2 : cs.flatten ++ rest = (cs.take l).flatten ++ (((cs.drop l).take (h - l)).flatten ++ (((cs.drop l).drop (h - l)).flatten ++ rest)) := by
      conv => lhs; rw [e, List.flatten_append, List.flatten_append]
      simp [List.append_assoc]
    rw [e2, ← hA, List.drop_left]
    apply List.take_of_length_le
    rw [e2, List.length_append, hA] at hlen
    omega
  | _ => exact k.elim
section
variable {P : Program} {T : Tab} {K : FuncId → Option Bool} {nt : Nat} {ops : Array Oper} {rest : List Oper} {m : Sy} {s : St} {Q : Sy → St → Prop} {d ty : Nat} {pos : String} {af : Array Edge} {g : Option (Nat × Bool)}
theorem w_alloc {e : TypeId} {i : TI} (hg : guardY ops m g = some true) (hd : Nat.ble (d + 1) nt = true) (hT : T e = some i) (hz : i.zero.all AV.leaf = true) (hok : s.Ok)
    (k : ∀ s', Pt s'.h (.ptr s.ctr 0 0) i.zero → Keep [] s s' → s'.ctr = s.ctr + 1 → W P T K nt ops rest ((d, .ptr s.ctr 0 0) :: m) s' Q) : W P T K nt ops (⟨some d, .alloc e, ty, pos, af, g⟩ :: rest) m s Q :=
  w_val hg hd (s' := s.newG ⟨[⟨i.zero, 0, none⟩]⟩) (fun t _ => by simp only [evOp, hT, hz, if_true]) (k _ (rd_new hok) (newG_keep hok _).1 rfl)
theorem w_box {e : TypeId} {x : Operand} {v : AV} (hg : guardY ops m g = some true) (hd : Nat.ble (d + 1) nt = true) (hx : evY m x = some v) (hz : v.cells.all AV.leaf = true) (hok : s.Ok)
    (k : ∀ s', Pt s'.h (.ptr s.ctr 0 0) v.cells → Keep [] s s' → s'.ctr = s.ctr + 1 → W P T K nt ops rest ((d, .ptr s.ctr 0 0) :: m) s' Q) : W P T K nt ops (⟨some d, .box e x, ty, pos, af, g⟩ :: rest) m s Q :=
  w_val hg hd (s' := s.newG ⟨[⟨v.cells, 0, none⟩]⟩) (fun t ht => by simp only [evOp, evY_ok ht hx, hz, if_true]) (k _ (rd_new hok) (newG_keep hok _).1 rfl)
/-- A variable written anew. -/
theorem w_store_all {tt : TypeId} {a x : Operand} {i : TI} {p u : AV} {old : List AV} (hg : guardY ops m g = some true) (ha : evY m a = some p) (hx : evY m x = some u) (hT : T tt = some i) (hl : u.cells.length = i.size) (hlo : u.cells.length = old.length)
    (hz : u.cells.all AV.leaf = true) (hok : s.Ok) (hp : Pt s.h p old) (hpg : p.gs ≠ [])
    (k : ∀ s', Pt s'.h p u.cells → Keep p.gs s s' → s'.ctr = s.ctr → W P T K nt ops rest m s' Q) : W P T K nt ops (⟨none, .store tt a x, ty, pos, af, g⟩ :: rest) m s Q := by
  cases p with
  | ptr g' j off =>
    obtain ⟨s', e1, e2, e3, e4⟩ := write_over hok hp (k := 0) (c := u.cells) (by omega) hz
    rw [Nat.add_zero] at e1
    refine w_eff hg (s' := s') (fun t ht => ?_) (k s' ?_ e3 e4)
    · have hnl : ¬ (u.cells.length ≠ i.size) := fun h => h hl
      simp only [evOp, hT, evY_ok ht ha, evY_ok ht hx, if_neg hnl, e1]
    · show rdH s'.h g' j off u.cells.length = some u.cells
      rw [hlo, e2]
      unfold over
      simp [hlo]
  | rop xs => exact (hpg rfl).elim
  | _ => exact hp.elim
/-- A part of a variable written. -/
theorem w_store_fld {tt : TypeId} {a x : Operand} {i : TI} {p u : AV} {o : Nat} {old : List AV} (hg : guardY ops m g = some true) (ha : evY m a = some (fldA p o)) (hx : evY m x = some u) (hT : T tt = some i) (hl : u.cells.length = i.size)
    (hz : u.cells.all AV.leaf = true) (hok : s.Ok) (hp : Pt s.h p old) (hpg : p.gs ≠ []) (hlo : o + u.cells.length ≤ old.length)
    (k : ∀ s', Pt s'.h p (over old o u.cells) → Keep p.gs s s' → s'.ctr = s.ctr → W P T K nt ops rest m s' Q) : W P T K nt ops (⟨none, .store tt a x, ty, pos, af, g⟩ :: rest) m s Q := by
  cases p with
  | ptr g' j off =>
    obtain ⟨s', e1, e2, e3, e4⟩ := write_over hok hp (k := o) (c := u.cells) hlo hz
    refine w_eff hg (s' := s') (fun t ht => ?_) (k s' ?_ e3 e4)
    · have hnl : ¬ (u.cells.length ≠ i.size) := fun h => h hl
      have ha' := evY_ok ht ha
      simp only [fldA] at ha'
      simp only [evOp, hT, ha', evY_ok ht hx, if_neg hnl, e1]
    · show rdH s'.h g' j off (over old o u.cells).length = some _
      rw [over_len hlo]
      exact e2
  | rop xs => exact (hpg rfl).elim
  | _ => exact hp.elim
/-- An element written. -/
theorem w_store_row {tt : TypeId} {a x : Operand} {i : TI} {r u : AV} {n sz : Nat} {cs : List (List AV)} (hg : guardY ops m g = some true) (ha : evY m a = some (elemA r n)) (hx : evY m x = some u) (hT : T tt = some i) (hl : u.cells.length = i.size) (hsz : i.size = sz)
    (hz : u.cells.all AV.leaf = true) (hok : s.Ok) (hr : Row s.h sz r cs) (hrg : r.gs ≠ []) (hn : n < cs.length)
    (k : ∀ s', Row s'.h sz r (cs.set n u.cells) → Keep r.gs s s' → s'.ctr = s.ctr → W P T K nt ops rest m s' Q) : W P T K nt ops (⟨none, .store tt a x, ty, pos, af, g⟩ :: rest) m s Q := by
  cases r with
  | slc g' j off sz' len lo ex =>
    obtain ⟨rfl, h2, rfl, h4, h5, rest', h6⟩ := hr
    have hul : u.cells.length = sz' := by rw [hl, hsz]
    have hb : n * sz' + u.cells.length ≤ cs.length * sz' := by rw [hul, ← Nat.succ_mul]; exact Nat.mul_le_mul_right _ hn
    have hb2 := Nat.mul_le_mul_right sz' h4
    obtain ⟨s', e1, e2, e3, e4⟩ := write_over hok h6 (k := n * sz') (c := u.cells) (by omega) hz
    refine w_eff hg (s' := s') (fun t ht => ?_) (k s' ?_ e3 e4)
    · have hnl : ¬ (u.cells.length ≠ i.size) := fun h => h hl
      have ha' := evY_ok ht ha
      simp only [elemA] at ha'
      simp only [evOp, hT, ha', evY_ok ht hx, if_neg hnl, e1]
    · refine ⟨rfl, h2, by simp, h4, ?_, rest', ?_⟩
      · intro c hc
        rcases List.mem_or_eq_of_mem_set hc with hc | rfl
        · exact h5 c hc
        · exact ⟨hul, hz⟩
      · rw [e2]
        have hfl : cs.flatten.length = cs.length * sz' := flat_len fun c hc => (h5 c hc).1
        rw [← flat_set (fun c hc => (h5 c hc).1) hn hul]
        unfold over
        rw [List.take_append_of_le_length (by omega), List.drop_append_of_le_length (by omega)]
        simp [List.append_assoc]
  | nils => exact (hrg rfl).elim
  | ro nl xs => exact (hrg rfl).elim
  | _ => exact hr.elim
/-- A slice of one element. -/
theorem w_lit1 {tt e : TypeId} {parts : Array (Nat × Operand)} {i ie : TI} {ps : List (Nat × AV)} {c : List AV} (hg : guardY ops m g = some true) (hd : Nat.ble (d + 1) nt = true) (hT : T tt = some i) (hs : i.sh = .slice e) (he : T e = some ie) (hp : evPartsY m parts.toList = some ps)
    (hz : ie.zero.length = ie.size) (h0 : ie.size ≠ 0) (h24 : ie.size ≤ 2 ^ 24) (hf : fillA (fun n => some (n * ie.size, ie.size)) ie.zero ps = some c) (hl : c.all AV.leaf = true) (hcl : c.length = ie.size) (hok : s.Ok)
    (k : ∀ v s', Row s'.h ie.size v [c] → Keep [] s s' → s'.ctr = s.ctr + 1 → v.gs = [s.ctr] → W P T K nt ops rest ((d, v) :: m) s' Q) : W P T K nt ops (⟨some d, .buildSlice tt 1 parts, ty, pos, af, g⟩ :: rest) m s Q := by
  obtain ⟨sh, size, bytes, zero, flat⟩ := i
  cases hs
  refine w_val hg hd (v := .slc s.ctr 0 0 ie.size 1 1 true) (s' := s.newG ⟨[⟨c, 0, none⟩]⟩) (fun t ht => ?_) (k _ _ ⟨rfl, h0, rfl, Nat.le_refl _, ?_, [], ?_⟩ (newG_keep hok _).1 rfl rfl)
  · have hcond : ¬ (1 * ie.size > 2 ^ 24 ∨ ie.zero.length ≠ ie.size ∨ ie.size = 0) := by
      rintro (h | h | h)
      · omega
      · exact h hz
      · exact h0 h
    have hfl : (List.replicate 1 ie.zero).flatten = ie.zero := by simp [List.replicate]
    simp only [evOp, hT, he, evPartsY_ok ht hp, if_neg hcond, hfl, hf, hl, if_true]
  · intro c' hc'
    rw [List.mem_singleton.1 hc']
    exact ⟨hcl, hl⟩
  · rw [Nat.one_mul, ← hcl]
    simpa using rd_new (s := s) (cs := c) hok
/-- make. -/
theorem w_make {tt e : TypeId} {x y : Operand} {i ie : TI} {n : Nat} (hg : guardY ops m g = some true) (hd : Nat.ble (d + 1) nt = true) (hT : T tt = some i) (hs : i.sh = .slice e) (he : T e = some ie) (hx : evY m x = some (.int .i64 n)) (hy : evY m y = some (.int .i64 n))
    (hz : ie.zero.length = ie.size) (h0 : ie.size ≠ 0) (hl : ie.zero.all AV.leaf = true) (hb : n * ie.bytes ≤ maxBytes) (hb' : n ≤ 140737488355328) (hok : s.Ok)
    (k : ∀ v s', Row s'.h ie.size v (List.replicate n ie.zero) → Keep [] s s' → s'.ctr = s.ctr + 1 → v.gs = [s.ctr] → W P T K nt ops rest ((d, v) :: m) s' Q) : W P T K nt ops (⟨some d, .makeSlice tt x y, ty, pos, af, g⟩ :: rest) m s Q := by
  obtain ⟨sh, size, bytes, zero, flat⟩ := i
  cases hs
  refine w_val hg hd (v := .slc s.ctr 0 0 ie.size n n true) (s' := s.newG ⟨[⟨(List.replicate n ie.zero).flatten, 0, none⟩]⟩) (fun t ht => ?_) (k _ _ ⟨rfl, h0, by simp, Nat.le_refl _, ?_, [], ?_⟩ (newG_keep hok _).1 rfl rfl)
  · have hcond : 0 ≤ (n : Int) ∧ True ∧ (n : Int).toNat * ie.bytes ≤ maxBytes ∧ (n : Int) ≤ 140737488355328 ∧ ie.zero.length = ie.size ∧ ie.size ≠ 0 ∧ ie.zero.all AV.leaf = true :=
      ⟨by omega, trivial, by simpa using hb, by omega, hz, h0, hl⟩
    simp only [evOp, hT, he, evY_ok ht hx, evY_ok ht hy]
    rw [if_pos hcond]
    rfl
  · intro c hc
    rw [List.eq_of_mem_replicate hc]
    exact ⟨hz, hl⟩
  · have : (List.replicate n ie.zero).flatten.length = n * ie.size := by
      rw [flat_len (sz := ie.size) fun c hc => by rw [List.eq_of_mem_replicate hc]; exact hz]
      simp
    rw [List.append_nil, ← this]
    exact rd_new hok
/-- append. -/
theorem w_append {tt e : TypeId} {x y : Operand} {args : Array Operand} {tys : Array TypeId} {i ie : TI} {a b : AV} {cs ns : List (List AV)} (hg : guardY ops m g = some true) (hd : Nat.ble (d + 1) nt = true) (h1 : args.toList = [x, y]) (h2 : tys.toList = [tt, tt])
    (hx : evY m x = some a) (hy : evY m y = some b) (hT : T tt = some i) (hs : i.sh = .slice e) (he : T e = some ie) (h0 : ie.size ≠ 0) (hok : s.Ok) (ha : Row s.h ie.size a cs) (hro : a.gs = [] → a = .nils) (hb : Row s.h ie.size b ns)
    (hb1 : (cs.length + ns.length) * ie.bytes ≤ maxBytes) (hb2 : cs.length + ns.length ≤ maxBytes)
    (k : ∀ v s', Row s'.h ie.size v (cs ++ ns) → Keep a.gs s s' → s'.ctr ≤ s.ctr + 1 → (v.gs = a.gs ∨ v.gs = [s.ctr]) → (v.gs = [] → v = .nils) → (ns ≠ [] → v.gs ≠ []) → W P T K nt ops rest ((d, v) :: m) s' Q) :
    W P T K nt ops (⟨some d, .call ⟨.builtin .append, args, tys⟩, ty, pos, af, g⟩ :: rest) m s Q := by
  obtain ⟨sh, size, bytes, zero, flat⟩ := i
  cases hs
  obtain ⟨v, s', e1, e2, e3, e4, e5, e6, e7⟩ := app_row hok h0 ha hro hb.cells hb1 hb2
  refine w_val hg hd (v := v) (s' := s') (fun t ht => ?_) (k v s' e2 e3 e4 e5 e6 e7)
  have hev : evsY m [x, y] = some [a, b] := by simp only [evsY, hx, hy]
  simp only [evOp, h1, h2, evsY_ok ht hev, callA, ne_eq, not_true_eq_false, if_false, hT, he, hb.slen, hb.elems, e1]
def optY (m : Sy) : Option Operand → Option (Option Nat)
  | none => some none
  | some x => match evY m x with
    | none => none
    | some v => match natA v with
      | none => none
      | some n => some (some n)
theorem optY_ok {t : TL} (h : Has t nt m) {x : Option Operand} {r : Option Nat} (e : optY m x = some r) : optNat t x = some r := by
  cases x with
  | none => exact e
  | some x =>
    simp only [optY] at e
    simp only [optNat]
    cases hx : evY m x with
    | none => rw [hx] at e; cases e
    | some v => rw [hx] at e; rw [evY_ok h hx]; exact e
theorem optY_some {x : Operand} {v : AV} {n : Nat} (hx : evY m x = some v) (hn : natA v = some n) : optY m (some x) = some (some n) := by
  unfold optY; simp only [hx, hn]
/-- A cut of a row. -/
theorem op_cut {tt e : TypeId} {x : Operand} {lo hi : Option Operand} {i ie : TI} {v : AV} {cs : List (List AV)} {l h : Option Nat} {sz l' h' : Nat} (hx : evY m x = some v) (hlo : optY m lo = some l) (hhi : optY m hi = some h) (hT : T tt = some i) (hs : i.sh = .slice e) (he : T e = some ie) (hz : ie.size = sz)
    (hr : Row s.h sz v cs) (el : l.getD 0 = l') (eh : h.getD cs.length = h') (h1 : l' ≤ h') (h2 : h' ≤ cs.length) : ∀ t, Has t nt m → evOp T (.slice tt x lo hi none) t s = some (.val (cutA v l' h'), s) := by
  intro t ht
  subst el eh
  obtain ⟨sh, size, bytes, zero, flat⟩ := i
  cases hs
  have ho : optNat t none = some none := rfl
  have hao : arrOk T tt v s = true := by unfold arrOk; simp only [hT]
  have : sliceA T tt v l h none = some (cutA v (l.getD 0) (h.getD cs.length)) := by
    cases v with
    | nils =>
      cases hr
      have e1 : l.getD 0 = 0 := by simp at h1 h2; omega
      have e2 : h.getD 0 = 0 := by simpa using h2
      have hcond : l.getD 0 = 0 ∧ h.getD 0 = 0 ∧ (none : Option Nat).getD 0 = 0 ∧ ((none : Option Nat).isSome = true → h.isSome = true) := ⟨e1, e2, rfl, fun h => by cases h⟩
      unfold sliceA
      simp only [hT, he, if_pos hcond, cutA]
    | ro nl xs =>
      obtain ⟨rfl, hc⟩ := hr
      rw [List.length_map] at h1 h2 ⊢
      have hall : (xs.all fun x => x.cells.length == ie.size) = true := by
        rw [List.all_eq_true]
        intro y hy
        rw [(hc y.cells (List.mem_map_of_mem hy)).1, hz]
        exact beq_self_eq_true _
      have hcond : l.getD 0 ≤ h.getD xs.length ∧ h.getD xs.length ≤ xs.length ∧ (xs.all fun x => x.cells.length == ie.size) = true := ⟨h1, h2, hall⟩
      unfold sliceA
      simp only [hT, he, if_pos hcond, cutA]
    | slc g j off sz' len lo' ex =>
      obtain ⟨rfl, k2, rfl, k4, -⟩ := hr
      have hn : ¬ (ie.size ≠ sz') := fun h => h hz
      have hcond : l.getD 0 ≤ h.getD cs.length ∧ h.getD cs.length ≤ lo' := ⟨h1, by omega⟩
      unfold sliceA
      simp only [hT, he, if_neg hn, if_pos hcond, cutA]
    | _ => exact hr.elim
  simp only [evOp, evY_ok ht hx, optY_ok ht hlo, optY_ok ht hhi, ho, hao, if_true, this]
/-- A cut row cut anew, with what stands behind it. -/
theorem op_recut {tt e : TypeId} {x hi : Operand} {i ie : TI} {v vh : AV} {cs : List (List AV)} {sz n h' : Nat} (hx : evY m x = some (cutA v 0 n)) (hvh : evY m hi = some vh) (hhi : natA vh = some h') (hT : T tt = some i) (hs : i.sh = .slice e) (he : T e = some ie) (hz : ie.size = sz)
    (hr : Row s.h sz v cs) (hv : v.gs ≠ []) (h2 : h' ≤ cs.length) : ∀ t, Has t nt m → evOp T (.slice tt x none (some hi) none) t s = some (.val (cutA v 0 h'), s) := by
  intro t ht
  obtain ⟨sh, size, bytes, zero, flat⟩ := i
  cases hs
  have ho : optNat t none = some none := rfl
  cases v with
  | slc g j off sz' len lo' ex =>
    obtain ⟨rfl, k2, rfl, k4, -⟩ := hr
    have hao : arrOk T tt (cutA (.slc g j off sz' cs.length lo' ex) 0 n) s = true := by unfold arrOk; simp only [hT, cutA]
    have hn : ¬ (ie.size ≠ sz') := fun h => h hz
    have hcond : 0 ≤ h' ∧ h' ≤ lo' := ⟨by omega, by omega⟩
    have : sliceA T tt (cutA (.slc g j off sz' cs.length lo' ex) 0 n) none (some h') none = some (cutA (.slc g j off sz' cs.length lo' ex) 0 h') := by
      unfold sliceA cutA
      simp only [hT, he, if_neg hn, Option.getD_none, Option.getD_some, Nat.sub_zero, Nat.zero_mul, Nat.add_zero, hcond, and_self, if_true]
    simp only [evOp, evY_ok ht hx, optY_ok ht (optY_some hvh hhi), ho, hao, if_true, this]
  | nils => exact (hv rfl).elim
  | ro nl xs => exact (hv rfl).elim
  | _ => exact hr.elim
theorem op_convert {a b : TypeId} {x : Operand} {i i' : TI} {k k' k'' : IntKind} {n : Int} (hx : evY m x = some (.int k n)) (ha : T a = some i) (hb : T b = some i') (h1 : i.sh = .num k'') (h2 : i'.sh = .num k') :
    ∀ t, Has t nt m → evOp T (.convert a b x) t s = some (.val (.int k' (k'.wrap n)), s) := by
  intro t ht
  obtain ⟨sh, size, bytes, zero, flat⟩ := i
  obtain ⟨sh', size', bytes', zero', flat'⟩ := i'
  cases h1
  cases h2
  simp only [evOp, ha, hb, evY_ok ht hx]
end
end Go.Ab
/- Rows that were lent: with a mark behind them. -/
namespace Go.Ab
def Lent {α : Type} (h : Tr Grp) (sz : Nat) (f : α → List AV) (mk : List AV) (v : AV) (xs : List α) : Prop :=
  ∃ u, v = cutA u 0 xs.length ∧ u.gs ≠ [] ∧ Row h sz u (xs.map f ++ [mk])
theorem Lent.row {α : Type} {h : Tr Grp} {sz : Nat} {f : α → List AV} {mk : List AV} {v : AV} {xs : List α} (k : Lent h sz f mk v xs) : Row h sz v (xs.map f) := by
  obtain ⟨u, rfl, -, hr⟩ := k
  have := hr.cut (Nat.zero_le xs.length) (by simp)
  rw [List.drop_zero, Nat.sub_zero, List.take_append_of_le_length (by simp), List.take_of_length_le (by simp)] at this
  exact this
theorem Lent.keep {α : Type} {X : List Nat} {s s' : St} {sz : Nat} {f : α → List AV} {mk : List AV} {v : AV} {xs : List α} (k : Lent s.h sz f mk v xs) (h : Keep X s s') (hg : ∀ g ∈ v.gs, g ∉ X) : Lent s'.h sz f mk v xs := by
  obtain ⟨u, rfl, hu, hr⟩ := k
  exact ⟨u, rfl, hu, hr.keep h (by rw [cutA_gs] at hg; exact hg)⟩
theorem row_nils (h : Tr Grp) (sz : Nat) : Row h sz .nils [] := rfl
theorem Keep.two {s s' s'' : St} (h : Keep [] s s') (k : Keep [] s' s'') : Keep [] s s'' := h.trans k fun g hg => by cases hg
/-- Groups that were not there. -/
theorem Keep.fresh {X : List Nat} {s s' s'' : St} (h : Keep [] s s') (k : Keep X s' s'') (hX : ∀ g ∈ X, s.ctr ≤ g) : Keep [] s s'' := h.trans k fun g hg => .inr (hX g hg)
theorem Row.mk_pt' {h : Tr Grp} {sz : Nat} {v : AV} {α : Type} {f : α → List AV} {xs : List α} {mk : List AV} (k : Row h sz v (xs.map f ++ [mk])) : Pt h (elemA v xs.length) mk :=
  k.pt (by rw [List.getElem?_append_right (by simp)]; simp)
theorem natA_succ (k : IntKind) (n : Nat) : natA (.int k ((n : Int) + 1)) = some (n + 1) := by
  have : ((n : Int) + 1) = ((n + 1 : Nat) : Int) := by omega
  rw [this]; exact natA_cast _ _
theorem Lent.more {α : Type} {h : Tr Grp} {sz : Nat} {f : α → List AV} {mk : List AV} {u : AV} {xs : List α} (hr : Row h sz u (xs.map f ++ [mk])) : Row h sz (cutA u 0 (xs.length + 1)) (xs.map f ++ [mk]) := by
  have := hr.cut (Nat.zero_le (xs.length + 1)) (by simp)
  rw [List.drop_zero, Nat.sub_zero, List.take_of_length_le (by simp)] at this
  exact this
theorem Row.more {h : Tr Grp} {sz : Nat} {mk : List AV} {u : AV} {cs : List (List AV)} {n : Nat} (hn : cs.length = n) (hr : Row h sz u (cs ++ [mk])) : Row h sz (cutA u 0 (n + 1)) (cs ++ [mk]) := by
  subst hn
  have := hr.cut (Nat.zero_le (cs.length + 1)) (by simp)
  rw [List.drop_zero, Nat.sub_zero, List.take_of_length_le (by simp)] at this
  exact this
theorem Row.less {h : Tr Grp} {sz : Nat} {mk : List AV} {u : AV} {cs : List (List AV)} {n : Nat} (hn : cs.length = n) (hr : Row h sz u (cs ++ [mk])) : Row h sz (cutA u 0 n) cs := by
  subst hn
  have := hr.cut (Nat.zero_le cs.length) (by simp)
  rw [List.drop_zero, Nat.sub_zero, List.take_append_of_le_length (by simp), List.take_of_length_le (by simp)] at this
  exact this
theorem Row.mark {h : Tr Grp} {sz : Nat} {mk : List AV} {u : AV} {cs : List (List AV)} {n : Nat} (hn : cs.length = n) (hr : Row h sz u (cs ++ [mk])) : Pt h (elemA u n) mk :=
  hr.pt (by rw [List.getElem?_append_right (by omega)]; simp [hn])
/-- A row of rows. -/
def RowR {α : Type} (h : Tr Grp) (sz : Nat) (R : Tr Grp → α → List AV → Prop) (v : AV) (xs : List α) : Prop :=
  ∃ css, Row h sz v css ∧ css.length = xs.length ∧ ∀ (i : Nat) (x : α) (c : List AV), xs[i]? = some x → css[i]? = some c → R h x c
/-- A row of rows, lent: a mark behind it. -/
def LentR {α : Type} (h : Tr Grp) (sz : Nat) (R : Tr Grp → α → List AV → Prop) (mk : List AV) (v : AV) (xs : List α) : Prop :=
  ∃ u css, v = cutA u 0 xs.length ∧ u.gs ≠ [] ∧ Row h sz u (css ++ [mk]) ∧ css.length = xs.length ∧ ∀ (i : Nat) (x : α) (c : List AV), xs[i]? = some x → css[i]? = some c → R h x c
theorem LentR.row {α : Type} {h : Tr Grp} {sz : Nat} {R R' : Tr Grp → α → List AV → Prop} {mk : List AV} {v : AV} {xs : List α} (k : LentR h sz R mk v xs) (hR : ∀ x c, R h x c → R' h x c) : RowR h sz R' v xs := by
  obtain ⟨u, css, rfl, hu, hr, hl, hx⟩ := k
  exact ⟨css, hr.less hl, hl, fun i x c h1 h2 => hR _ _ (hx i x c h1 h2)⟩
theorem mem_none (s : St) : ∀ g ∈ [s.ctr], s.ctr ≤ g := fun g hg => by rw [List.mem_singleton.1 hg]; exact Nat.le_refl _
end Go.Ab
/- Rows of rows that are built by appending: what they hold stays as it was. -/
namespace Go.Ab
/-- A place for groups: from a on, below b, none of X. -/
def Fr (a b : Nat) (X : List Nat) (g : Nat) : Prop := a ≤ g ∧ g < b ∧ g ∉ X
theorem Row.lt {s : St} {sz : Nat} {v : AV} {cs : List (List AV)} (k : Row s.h sz v cs) (hok : s.Ok) : ∀ g ∈ v.gs, g < s.ctr := by
  intro g hg
  obtain ⟨G, hG⟩ := k.has g hg
  rcases Nat.lt_or_ge g s.ctr with h | h
  · exact h
  · rw [hok g h] at hG; cases hG
theorem Row.leaf {h : Tr Grp} {sz : Nat} {v : AV} {cs : List (List AV)} (k : Row h sz v cs) : v.leaf = true := by
  cases v <;> first | rfl | exact k.elim
theorem Lent.leaf {α : Type} {h : Tr Grp} {sz : Nat} {f : α → List AV} {mk : List AV} {v : AV} {xs : List α} (k : Lent h sz f mk v xs) : v.leaf = true := k.row.leaf
theorem take_snoc {α : Type} {xs : List α} {i : Nat} {x : α} (h : xs[i]? = some x) : xs.take i ++ [x] = xs.take (i + 1) := by
  rw [List.take_add_one, h]; rfl
theorem RowR.keep0 {α : Type} {R : Tr Grp → α → List AV → Prop} (hR : ∀ {s s' : St} {x : α} {c : List AV}, R s.h x c → Keep [] s s' → R s'.h x c) {s s' : St} {sz : Nat} {v : AV} {xs : List α} (k : RowR s.h sz R v xs) (h : Keep [] s s') : RowR s'.h sz R v xs := by
  obtain ⟨css, hr, hl, hx⟩ := k
  exact ⟨css, hr.keep h fun g _ hg => (by cases hg), hl, fun i x c h1 h2 => hR (hx i x c h1 h2) h⟩
theorem Row.keep0 {s s' : St} {sz : Nat} {v : AV} {cs : List (List AV)} (k : Row s.h sz v cs) (h : Keep [] s s') : Row s'.h sz v cs := k.keep h fun g _ hg => (by cases hg)
abbrev RP (α : Type) := Tr Grp → (Nat → Prop) → α → List AV → Prop
structure Good {α : Type} (R : RP α) : Prop where
  keep : ∀ {Y : List Nat} {s s' : St} {F : Nat → Prop} {x : α} {c : List AV}, R s.h F x c → Keep Y s s' → (∀ g ∈ Y, ¬ F g) → R s'.h F x c
  mono : ∀ {h : Tr Grp} {F F' : Nat → Prop} {x : α} {c : List AV}, R h F x c → (∀ g, F g → F' g) → R h F' x c
def LentF {α : Type} (h : Tr Grp) (F : Nat → Prop) (sz : Nat) (f : α → List AV) (mk : List AV) (v : AV) (xs : List α) : Prop := Lent h sz f mk v xs ∧ ∀ g ∈ v.gs, F g
def LentRF {α : Type} (h : Tr Grp) (F : Nat → Prop) (sz : Nat) (R : RP α) (mk : List AV) (v : AV) (xs : List α) : Prop :=
  ∃ u css, v = cutA u 0 xs.length ∧ u.gs ≠ [] ∧ (∀ g ∈ u.gs, F g) ∧ Row h sz u (css ++ [mk]) ∧ css.length = xs.length ∧ ∀ (i : Nat) (x : α) (c : List AV), xs[i]? = some x → css[i]? = some c → R h F x c
section
variable {α : Type} {R : RP α} {c0 hi : Nat} {s s' : St} {sz : Nat} {f : AV} {xs : List α}
theorem LentF.keep {Y : List Nat} {F : Nat → Prop} {f : α → List AV} {mk : List AV} {v : AV} (k : LentF s.h F sz f mk v xs) (h : Keep Y s s') (hY : ∀ g ∈ Y, ¬ F g) : LentF s'.h F sz f mk v xs :=
  ⟨k.1.keep h fun g hg hy => hY g hy (k.2 g hg), k.2⟩
theorem LentF.mono {h : Tr Grp} {F F' : Nat → Prop} {f : α → List AV} {mk : List AV} {v : AV} (k : LentF h F sz f mk v xs) (hF : ∀ g, F g → F' g) : LentF h F' sz f mk v xs := ⟨k.1, fun g hg => hF g (k.2 g hg)⟩
theorem LentRF.keep (hG : Good R) {Y : List Nat} {F : Nat → Prop} {mk : List AV} {v : AV} (k : LentRF s.h F sz R mk v xs) (h : Keep Y s s') (hY : ∀ g ∈ Y, ¬ F g) : LentRF s'.h F sz R mk v xs := by
  obtain ⟨u, css, rfl, hu, hF, hr, hl, hx⟩ := k
  exact ⟨u, css, rfl, hu, hF, hr.keep h fun g hg hy => hY g hy (hF g hg), hl, fun i x c h1 h2 => hG.keep (hx i x c h1 h2) h hY⟩
theorem LentRF.mono (hG : Good R) {h : Tr Grp} {F F' : Nat → Prop} {mk : List AV} {v : AV} (k : LentRF h F sz R mk v xs) (hF : ∀ g, F g → F' g) : LentRF h F' sz R mk v xs := by
  obtain ⟨u, css, rfl, hu, hF1, hr, hl, hx⟩ := k
  exact ⟨u, css, rfl, hu, fun g hg => hF g (hF1 g hg), hr, hl, fun i x c h1 h2 => hG.mono (hx i x c h1 h2) hF⟩
theorem LentRF.to {R' : Tr Grp → α → List AV → Prop} {h : Tr Grp} {F : Nat → Prop} {mk : List AV} {v : AV} (k : LentRF h F sz R mk v xs) (hR : ∀ x c, R h F x c → R' h x c) : LentR h sz R' mk v xs := by
  obtain ⟨u, css, rfl, hu, hF, hr, hl, hx⟩ := k
  exact ⟨u, css, rfl, hu, hr, hl, fun i x c h1 h2 => hR _ _ (hx i x c h1 h2)⟩
/-- A row under construction. -/
def Bld (c0 hi : Nat) (s : St) (sz : Nat) (R : RP α) (f : AV) (xs : List α) : Prop :=
  ∃ css, Row s.h sz f css ∧ (f.gs = [] → f = .nils) ∧ (∀ g ∈ f.gs, c0 ≤ g ∧ g < hi) ∧ css.length = xs.length ∧ ∀ (i : Nat) (x : α) (c : List AV), xs[i]? = some x → css[i]? = some c → R s.h (Fr c0 hi f.gs) x c
theorem Bld.nil : Bld c0 hi s sz R .nils [] := ⟨[], rfl, fun _ => rfl, (fun g hg => by cases hg), rfl, (fun i x c h => by simp at h)⟩
theorem Bld.keep (hG : Good R) (k : Bld c0 hi s sz R f xs) {Y : List Nat} (h : Keep Y s s') (hY : ∀ g ∈ Y, hi ≤ g) : Bld c0 hi s' sz R f xs := by
  obtain ⟨css, hr, hn, hf, hl, hx⟩ := k
  exact ⟨css, hr.keep h fun g hg hy => by have := hY g hy; have := (hf g hg).2; omega, hn, hf, hl, fun i x c h1 h2 => hG.keep (hx i x c h1 h2) h fun g hg hF => by have := hY g hg; have := hF.2.1; omega⟩
section
variable {P : Program} {T : Tab} {K : FuncId → Option Bool} {nt : Nat} {ops : Array Oper} {rest : List Oper} {m : Sy} {Q : Sy → St → Prop} {d ty : Nat} {pos : String} {af : Array Edge} {g : Option (Nat × Bool)}
/-- One more element. -/
theorem w_app_bld (hG : Good R) {tt e : TypeId} {x y : Operand} {args : Array Operand} {tys : Array TypeId} {i ie : TI} {b : AV} {c : List AV} {z : α} (hg : guardY ops m g = some true) (hd : Nat.ble (d + 1) nt = true) (h1 : args.toList = [x, y]) (h2 : tys.toList = [tt, tt])
    (hx : evY m x = some f) (hy : evY m y = some b) (hT : T tt = some i) (hs : i.sh = .slice e) (he : T e = some ie) (h0 : ie.size ≠ 0) (hz : ie.size = sz) (hok : s.Ok) (hB : Bld c0 hi s sz R f xs) (hhi : hi ≤ s.ctr) (hc0 : c0 ≤ s.ctr) (hb : Row s.h sz b [c]) (hc : R s.h (Fr c0 s.ctr f.gs) z c)
    (hb1 : (xs.length + 1) * ie.bytes ≤ maxBytes) (hb2 : xs.length + 1 ≤ maxBytes)
    (k : ∀ v s', Bld c0 s'.ctr s' sz R v (xs ++ [z]) → Keep f.gs s s' → (v.gs = f.gs ∨ v.gs = [s.ctr]) → W P T K nt ops rest ((d, v) :: m) s' Q) :
    W P T K nt ops (⟨some d, .call ⟨.builtin .append, args, tys⟩, ty, pos, af, g⟩ :: rest) m s Q := by
  subst hz
  obtain ⟨css, hr, hn, hf, hl, hX⟩ := hB
  refine w_append hg hd h1 h2 hx hy hT hs he h0 hok hr hn hb (by rw [hl]; exact hb1) (by rw [hl]; exact hb2) ?_
  intro v s' hv hk hle hvg hvn hne
  have hctr : s.ctr < s'.ctr ∨ v.gs = f.gs := by
    rcases hvg with h | h
    · exact .inr h
    · left
      have := hv.has s.ctr (by rw [h]; exact List.mem_cons_self ..)
      obtain ⟨G, hG'⟩ := this
      rcases Nat.lt_or_ge s.ctr s'.ctr with h' | h'
      · exact h'
      · rw [hk.ok s.ctr h'] at hG'; cases hG'
  refine k v s' ⟨css ++ [c], hv, hvn, ?_, by simp [hl], ?_⟩ hk hvg
  · intro g hg'
    have := hk.ctr
    rcases hvg with h | h
    · rw [h] at hg'; have := hf g hg'; exact ⟨this.1, by omega⟩
    · rw [h] at hg'; rw [List.mem_singleton.1 hg']
      refine ⟨hc0, ?_⟩
      rcases hctr with h' | h'
      · exact h'
      · rw [h'] at h
        have := hf s.ctr (by rw [h]; exact List.mem_cons_self ..)
        omega
  · have hF : ∀ g, Fr c0 s.ctr f.gs g → Fr c0 s'.ctr v.gs g := by
      intro g ⟨k1, k2, k3⟩
      refine ⟨k1, by have := hk.ctr; omega, ?_⟩
      rcases hvg with h | h
      · rw [h]; exact k3
      · rw [h]; intro hm; rw [List.mem_singleton.1 hm] at k2; omega
    intro i x c' h1' h2'
    by_cases hi' : i < xs.length
    · rw [List.getElem?_append_left hi'] at h1'
      rw [List.getElem?_append_left (by omega)] at h2'
      have := hX i x c' h1' h2'
      have := hG.mono this (F' := Fr c0 s.ctr f.gs) fun g ⟨k1, k2, k3⟩ => ⟨k1, by omega, k3⟩
      exact hG.mono (hG.keep this hk fun g hg' hF' => hF'.2.2 hg') hF
    · have hlt := (List.getElem?_eq_some_iff.1 h1').1
      rw [List.length_append, List.length_singleton] at hlt
      have e : i = xs.length := by omega
      subst e
      rw [List.getElem?_append_right (Nat.le_refl _)] at h1'
      rw [List.getElem?_append_right (by omega)] at h2'
      simp at h1'
      rw [hl] at h2'
      simp at h2'
      subst h1' h2'
      exact hG.mono (hG.keep hc hk fun g hg' hF' => hF'.2.2 hg') hF
/-- The mark. -/
theorem w_app_mark (hG : Good R) {tt e : TypeId} {x y : Operand} {args : Array Operand} {tys : Array TypeId} {i ie : TI} {b : AV} {mk : List AV} (hg : guardY ops m g = some true) (hd : Nat.ble (d + 1) nt = true) (h1 : args.toList = [x, y]) (h2 : tys.toList = [tt, tt])
    (hx : evY m x = some f) (hy : evY m y = some b) (hT : T tt = some i) (hs : i.sh = .slice e) (he : T e = some ie) (h0 : ie.size ≠ 0) (hz : ie.size = sz) (hok : s.Ok) (hB : Bld c0 hi s sz R f xs) (hhi : hi ≤ s.ctr) (hc0 : c0 ≤ s.ctr) (hb : Row s.h sz b [mk])
    (hb1 : (xs.length + 1) * ie.bytes ≤ maxBytes) (hb2 : xs.length + 1 ≤ maxBytes)
    (k : ∀ v s' css, Row s'.h sz v (css ++ [mk]) → css.length = xs.length → LentRF s'.h (Fr c0 s'.ctr []) sz R mk (cutA v 0 xs.length) xs → Keep f.gs s s' → W P T K nt ops rest ((d, v) :: m) s' Q) :
    W P T K nt ops (⟨some d, .call ⟨.builtin .append, args, tys⟩, ty, pos, af, g⟩ :: rest) m s Q := by
  subst hz
  obtain ⟨css, hr, hn, hf, hl, hX⟩ := hB
  refine w_append hg hd h1 h2 hx hy hT hs he h0 hok hr hn hb (by rw [hl]; exact hb1) (by rw [hl]; exact hb2) ?_
  intro v s' hv hk hle hvg hvn hne
  refine k v s' css hv hl ⟨v, css, rfl, hne (by simp), ?_, hv, hl, ?_⟩ hk
  · intro g hg'
    obtain ⟨G, hG'⟩ := hv.has g hg'
    have hlt : g < s'.ctr := by
      rcases Nat.lt_or_ge g s'.ctr with h' | h'
      · exact h'
      · rw [hk.ok g h'] at hG'; cases hG'
    refine ⟨?_, hlt, fun h => by cases h⟩
    rcases hvg with h | h
    · rw [h] at hg'; exact (hf g hg').1
    · rw [h] at hg'; rw [List.mem_singleton.1 hg']; exact hc0
  · intro i x c' h1' h2'
    have := hX i x c' h1' h2'
    exact hG.mono (hG.keep this hk fun g hg' hF' => hF'.2.2 hg') fun g ⟨k1, k2, k3⟩ => ⟨k1, by have := hk.ctr; omega, fun h => by cases h⟩
end
end
end Go.Ab
/- Numbers, copy, drawn regions that write without reading. -/
namespace Go.Ab
theorem wrapU64 {a : Int} (h1 : 0 ≤ a) (h2 : a < 18446744073709551616) : IntKind.u64.wrap a = a := by
  simp only [IntKind.wrap, IntKind.signed, IntKind.bits, Bool.false_and, Bool.false_eq_true, if_false, show (2 : Int) ^ 64 = 18446744073709551616 from rfl]
  omega
section
variable {P : Program} {T : Tab} {K : FuncId → Option Bool} {nt : Nat} {ops : Array Oper} {rest : List Oper} {m : Sy} {s : St} {Q : Sy → St → Prop} {d ty : Nat} {pos : String} {af : Array Edge} {g : Option (Nat × Bool)} {op : Op} {v : AV}
theorem op_bin {o : BinOp} {xt yt : TypeId} {x y : Operand} {a b v : AV} (hx : evY m x = some a) (hy : evY m y = some b) (h : binA T o xt a b = some v) : ∀ t, Has t nt m → evOp T (.binOp o xt x y yt) t s = some (.val v, s) := by
  intro t ht
  simp only [evOp, evY_ok ht hx, evY_ok ht hy, h]
theorem op_cv {a b : TypeId} {x : Operand} {i i' : TI} {k k' k'' : IntKind} {n r : Int} (hx : evY m x = some (.int k n)) (ha : T a = some i) (hb : T b = some i') (h1 : i.sh = .num k'') (h2 : i'.sh = .num k') (hr : k'.wrap n = r) :
    ∀ t, Has t nt m → evOp T (.convert a b x) t s = some (.val (.int k' r), s) := hr ▸ op_convert hx ha hb h1 h2
/-- What a drawn region's next operation meets. -/
def St.join (s1 s : St) : St := { s1 with wr := s1.wr ++ s.wr }
theorem Keep.joined {X : List Nat} {s s1 : St} (h : Keep X s.bare s1) : Keep X s (s1.join s) := ⟨h.ok0, h.ok, h.ctr, h.keep, fun g hg => by
  rcases List.mem_append.1 hg with hg | hg
  · rcases h.wr g hg with h1 | h1 | h1
    · cases h1
    · exact .inr (.inl h1)
    · exact .inr (.inr h1)
  · exact .inl hg⟩
theorem rd_slice {tt : TypeId} {x : Operand} {lo hi mx : Option Operand} {v : AV} (hx : evY m x = some v) (hv : ∀ g j o, v ≠ .ptr g j o) : ∀ t, Has t nt m → readsA t (.slice tt x lo hi mx) = none := by
  intro t ht
  simp only [readsA, evY_ok ht hx]
  cases v <;> first | rfl | exact absurd rfl (hv _ _ _)
end
end Go.Ab
/- Drawn regions whose calls lay new memory: what is read is old. -/
namespace Go.Ab
theorem Pt.lt {s : St} {p : AV} {cs : List AV} (h : Pt s.h p cs) (hok : s.Ok) : ∀ g ∈ p.gs, g < s.ctr := by
  intro g hg
  cases p with
  | ptr g' j off =>
    rw [List.mem_singleton.1 hg]
    obtain ⟨G, hG⟩ := rdH_has h
    rcases Nat.lt_or_ge g' s.ctr with k | k
    · exact k
    · rw [hok g' k] at hG; cases hG
  | rop xs => cases hg
  | _ => exact h.elim
theorem Pt.keep0 {s s' : St} {p : AV} {cs : List AV} (k : Pt s.h p cs) (h : Keep [] s s') : Pt s'.h p cs := k.keep h (by intro g _ h; cases h)
theorem Row.bare {s : St} {sz : Nat} {v : AV} {cs : List (List AV)} (k : Row s.h sz v cs) : Row s.bare.h sz v cs := k
theorem Pt.bare {s : St} {p : AV} {cs : List AV} (k : Pt s.h p cs) : Pt s.bare.h p cs := k
theorem rd_load {t : TL} {nt : Nat} {m : Sy} (ht : Has t nt m) {tt : TypeId} {a : Operand} {p : AV} (ha : evY m a = some p) : ∀ g, readsA t (.load tt a) = some g → g ∈ p.gs := by
  intro g hg
  simp only [readsA, evY_ok ht ha] at hg
  cases p <;> first | (cases hg; exact List.mem_cons_self ..) | cases hg
section
variable {P : Program} {T : Tab} {K : FuncId → Option Bool} {nt : Nat} {ops : Array Oper} {rest : List Oper} {m : Sy} {s s0 : St} {Q : Sy → St → Prop} {d ty : Nat} {pos : String} {af : Array Edge} {g : Option (Nat × Bool)} {op : Op} {v : AV} {X : List Nat}
/-- Groups that were there, none of X. -/
def Old (s : St) (X : List Nat) (g : Nat) : Prop := g < s.ctr ∧ g ∉ X
theorem wo_val (hr : ∀ t, readsA t op = none) (hg : guardY ops m g = some true) (hd : Nat.ble (d + 1) nt = true) (h : ∀ t, Has t nt m → evOp T op t s.bare = some (.val v, s.bare)) (k : WD P T K nt ops rest ((d, v) :: m) s (Old s0 X) Q) :
    WD P T K nt ops (⟨some d, op, ty, pos, af, g⟩ :: rest) m s (Old s0 X) Q := wd_cons (fun t _ g hg => by rw [hr t] at hg; cases hg) (w1_val hg hd h ⟨fun _ h => (by cases h), k⟩)
theorem wo_slice {tt : TypeId} {x : Operand} {lo hi mx : Option Operand} {u : AV} (hx : evY m x = some u) (hu : ∀ g j o, u ≠ .ptr g j o) (hg : guardY ops m g = some true) (hd : Nat.ble (d + 1) nt = true) (h : ∀ t, Has t nt m → evOp T (.slice tt x lo hi mx) t s.bare = some (.val v, s.bare))
    (k : WD P T K nt ops rest ((d, v) :: m) s (Old s0 X) Q) : WD P T K nt ops (⟨some d, .slice tt x lo hi mx, ty, pos, af, g⟩ :: rest) m s (Old s0 X) Q :=
  wd_cons (fun t ht g hg => by rw [rd_slice hx hu t ht] at hg; cases hg) (w1_val hg hd h ⟨fun _ h => (by cases h), k⟩)
theorem wo_load {tt : TypeId} {a : Operand} {i : TI} {p : AV} {cs : List AV} (hK : Keep [] s0 s) (hx : evY m a = some p) (hT : T tt = some i) (hp : Pt s0.h p cs) (hc : loadC i cs = some v) (hX : ∀ g ∈ p.gs, g ∉ X) (hg : guardY ops m g = some true) (hd : Nat.ble (d + 1) nt = true)
    (k : WD P T K nt ops rest ((d, v) :: m) s (Old s0 X) Q) : WD P T K nt ops (⟨some d, .load tt a, ty, pos, af, g⟩ :: rest) m s (Old s0 X) Q :=
  have hp' : Pt s.h p cs := hp.keep hK (by intro g _ h; cases h)
  wd_cons (fun t ht g hg => by
    have := rd_load ht hx g hg
    exact ⟨hp.lt hK.ok0 g this, hX g this⟩) (w1_val (s' := s.bare) hg hd (op_load (s := s.bare) hx hT (show Pt s.bare.h p cs from hp') hc) ⟨fun _ h => (by cases h), k⟩)
theorem wo_call {f : FuncId} {args : List AV} {R : AV → St → Prop} (hK : Keep [] s0 s) (hg : guardY ops m g = some true) (hd : Nat.ble (d + 1) nt = true) (hr : ∀ t, readsA t op = none) (h : ∀ t, Has t nt m → evOp T op t s.bare = some (.call f args, s.bare)) (hc : CallS P T K f args s.bare R)
    (hw : ∀ v s', R v s' → Keep [] s.bare s') (k : ∀ v s', R v s' → Keep [] s0 (s'.join s) → WD P T K nt ops rest ((d, v) :: m) (s'.join s) (Old s0 X) Q) : WD P T K nt ops (⟨some d, op, ty, pos, af, g⟩ :: rest) m s (Old s0 X) Q :=
  wd_cons (fun t _ g hg => by rw [hr t] at hg; cases hg) (w1_call hg hd h hc fun v s' hr' => by
    have hk := hw v s' hr'
    refine ⟨fun g hg ho => ?_, k v s' hr' (hK.trans hk.joined (by intro g hg; cases hg))⟩
    rcases hk.wr g hg with h1 | h1 | h1
    · cases h1
    · cases h1
    · have h2 : s.ctr ≤ g := h1
      have := hK.ctr
      have := ho.1
      omega)
theorem wo_store_all {tt : TypeId} {a x : Operand} {i : TI} {p u : AV} {old : List AV} (hK : Keep [] s0 s) (hpX : ∀ g ∈ p.gs, g ∈ X) (hg : guardY ops m g = some true) (ha : evY m a = some p) (hx : evY m x = some u) (hT : T tt = some i) (hl : u.cells.length = i.size) (hlo : u.cells.length = old.length)
    (hz : u.cells.all AV.leaf = true) (hp : Pt s.h p old) (hpg : p.gs ≠ [])
    (k : ∀ s', Pt s'.h p u.cells → Keep p.gs s s' → s'.ctr = s.ctr → WD P T K nt ops rest m s' (Old s0 X) Q) : WD P T K nt ops (⟨none, .store tt a x, ty, pos, af, g⟩ :: rest) m s (Old s0 X) Q := by
  cases p with
  | ptr g' j off =>
    have hokb : s.bare.Ok := hK.ok
    have hpb : rdH s.bare.h g' j off old.length = some old := hp
    obtain ⟨s', e1, e2, e3, e4⟩ := write_over hokb hpb (k := 0) (c := u.cells) (by omega) hz
    rw [Nat.add_zero] at e1
    refine wd_cons (fun t _ g hg => by cases hg) (w1_skip (s' := s') hg rfl (fun t ht => ?_) ⟨fun g hg ho => ?_, k (s'.join s) ?_ e3.joined e4⟩)
    · have hnl : ¬ (u.cells.length ≠ i.size) := fun h => h hl
      simp only [evOp, hT, evY_ok ht ha, evY_ok ht hx, if_neg hnl, e1]
    · rcases e3.wr g hg with h1 | h1 | h1
      · cases h1
      · exact ho.2 (hpX g h1)
      · have h2 : s.ctr ≤ g := h1
        have := hK.ctr
        have := ho.1
        omega
    · show rdH s'.h g' j off u.cells.length = some u.cells
      rw [hlo, e2]
      unfold over
      simp [hlo]
  | rop xs => exact (hpg rfl).elim
  | _ => exact hp.elim
/-- The results of a function whose result is a variable. -/
theorem res_cell {a : Nat} {tt : TypeId} {i : TI} {g' j off : Nat} {cs : List AV} (hm : m.at a = some (.ptr g' j off)) (hT : T tt = some i) (hp : Pt s.h (.ptr g' j off) cs) (hc : loadC i cs = some v) : resY T m s [.cell a tt] = some [v] := by
  unfold loadC at hc
  split at hc
  · rename_i hl
    have := rdH_part hp 0 i.cnt (by omega)
    rw [Nat.add_zero, List.drop_zero] at this
    unfold resY
    simp only [hT, hm, read_rd, this, hc, resY]
  · cases hc
end
end Go.Ab
/- Rows that are lent. -/
namespace Go.Ab
open Go.Proofs
def iC (n : Int) : List AV := [.int .i64 n]
def sC (b : ByteArray) : List AV := [.str b]
structure TermL where
  kind : Int
  value : Int
  name : ByteArray
def tC (t : TermL) : List AV := [.int .i64 t.kind, .int .i64 t.value, .str t.name]
def markB : ByteArray := ⟨#[109, 97, 114, 107]⟩
end Go.Ab
/- Rows that are the same are found the same. -/
namespace Go.Ab
open Go.Proofs
def TermsR (h : Tr Grp) (ts : List TermL) (c : List AV) : Prop := ∃ v, c = [v] ∧ Row h 3 v (ts.map tC)
set_option maxRecDepth 10000 in
theorem ints_same {s : St} {a b : AV} {xs : List Int} (hl : xs.length ≤ 2097152) (ha : Row s.h 1 a (xs.map iC)) (hb : Row s.h 1 b (xs.map iC)) :
    CallS Try.prog Tt Kt 14 [a, b] s (fun v s' => s' = s ∧ v = .bool true) := by
  refine call_of (fn := Try.f14) (nt := 26) Try.func14 rfl rfl rfl ?_
  repeat refine wc_seq ?_
  refine wc_region ?_
  refine w_val rfl rfl (op_pure rfl) ?_
  refine w_nil ?_
  refine then_n ?_
  repeat refine wc_seq ?_
  refine wc_region ?_
  refine w_val rfl rfl (op_pure rfl) ?_
  refine w_val rfl rfl (op_len rfl rfl rfl rfl rfl (Row.slenF (by assumption))) ?_
  refine w_val rfl rfl (op_pure rfl) ?_
  refine w_val rfl rfl (op_len rfl rfl rfl rfl rfl (Row.slenF (by assumption))) ?_
  refine w_val rfl rfl (op_pure rfl) ?_
  refine w_nil ?_
  refine then_n ?_
  repeat refine wc_seq ?_
  refine wc_condT rfl (fun h10 => ?_) (fun h10 => ?_)
  · simp at h10
  skip
  refine wc_skip ?_
  refine then_n ?_
  repeat refine wc_seq ?_
  refine wc_region ?_
  refine w_val rfl rfl (op_pure rfl) ?_
  refine w_nil ?_
  refine then_n ?_
  repeat refine wc_seq ?_
  refine wc_block ?_
  refine wc_loop_at (fun j m s' => ∃ i : Nat, j = xs.length - i ∧ i ≤ xs.length ∧ s' = s ∧ m = [(0, a), (1, b), (5, .int .i64 (i : Nat))]) xs.length
    [(0, a), (1, b), (5, .int .i64 ((0 : Nat) : Int))] (Sub.cons rfl (Sub.cons rfl (Sub.cons rfl (Sub.nil _)))) ⟨0, by simp, by simp, rfl, rfl⟩ ?_
  rintro j m sX ⟨i, rfl, hi, eX, rfl⟩
  obtain rfl := eX.symm
  repeat refine wc_seq ?_
  refine wc_region ?_
  refine w_val rfl rfl (op_pure rfl) ?_
  refine w_val rfl rfl (op_pure rfl) ?_
  refine w_val rfl rfl (op_len rfl rfl rfl rfl rfl (Row.slenF (by assumption))) ?_
  refine w_val rfl rfl (op_pure rfl) ?_
  refine w_nil ?_
  refine then_n ?_
  repeat refine wc_seq ?_
  refine wc_condT rfl (fun h14 => ?_) (fun h14 => ?_)
  · simp at h14
    refine wc_skip ?_
    refine then_n ?_
    repeat refine wc_seq ?_
    refine wc_block ?_
    repeat refine wc_seq ?_
    obtain ⟨x, hx⟩ : ∃ x, xs[i]? = some x := ⟨_, List.getElem?_eq_getElem h14⟩
    refine wc_draw (fun _ => True) (by kernel_rfl) rfl ?_
    refine wd_val (fun _ => trivial) rfl rfl (op_pure rfl) ?_
    refine wd_val (fun _ => trivial) rfl rfl (op_pure rfl) ?_
    refine wd_val (fun _ => trivial) rfl rfl (op_idxF rfl rfl (natA_cast _ _) rfl rfl rfl rfl (by assumption) (by omega)) ?_
    refine wd_val (fun _ => trivial) rfl rfl (op_load rfl rfl (Row.mk_pt (by assumption) (by assumption)) rfl) ?_
    refine wd_val (fun _ => trivial) rfl rfl (op_pure rfl) ?_
    refine wd_val (fun _ => trivial) rfl rfl (op_pure rfl) ?_
    refine wd_val (fun _ => trivial) rfl rfl (op_idxF rfl rfl (natA_cast _ _) rfl rfl rfl rfl (by assumption) (by omega)) ?_
    refine wd_val (fun _ => trivial) rfl rfl (op_load rfl rfl (Row.mk_pt (by assumption) (by assumption)) rfl) ?_
    refine wd_val (fun _ => trivial) rfl rfl (op_pure rfl) ?_
    refine wd_nil ?_
    refine then_n ?_
    refine wc_condT rfl (fun h25 => ?_) (fun h25 => ?_)
    · simp [] at h25
    skip
    refine wc_skip ?_
    refine out_n ?_
    refine then_n ?_
    refine wc_region ?_
    refine w_val rfl rfl (op_pure rfl) ?_
    refine w_val rfl rfl (op_add rfl rfl (by unfold In64; omega)) ?_
    refine w_val rfl rfl (op_pure rfl) ?_
    refine w_nil ?_
    exact round_n _ _ (by omega) (Sub.cons rfl (Sub.cons rfl (Sub.cons rfl (Sub.nil _)))) ⟨i + 1, rfl, by omega, rfl, rfl⟩
  simp at h14
  refine wc_exit ?_
  repeat first | refine then_x ?_ | refine round_x ?_ | refine cut_x ?_ | refine out_x' (by decide) ?_
  refine out_x ?_
  refine then_n ?_
  repeat refine wc_seq ?_
  refine wc_region ?_
  refine w_val rfl rfl (op_pure rfl) ?_
  refine w_nil ?_
  refine then_n ?_
  refine wc_ret ?_
  repeat first | refine then_r ?_ | refine out_r ?_ | refine round_r ?_ | refine cut_r ?_
  exact ⟨_, rfl, rfl, rfl⟩
-- unused hook: ct26.t
-- unused hook: ct26.f
end Go.Ab
/- Statements that are the same, that were kept. -/
namespace Go.Ab
open Go.Proofs
structure StmtL where
  kind : Int
  name : ByteArray
  targets : List ByteArray
  exprs : List (List TermL)
def StmtL.small (x : StmtL) : Prop := x.targets.length ≤ 2097152 ∧ x.exprs.length ≤ 2097152 ∧ ∀ ts ∈ x.exprs, ts.length ≤ 2097152
def StmtR (h : Tr Grp) (x : StmtL) (c : List AV) : Prop := ∃ vt ve, c = [.int .i64 x.kind, .str x.name, vt, ve] ∧ Row h 1 vt (x.targets.map sC) ∧ RowR h 1 TermsR ve x.exprs
def TermsLR (h : Tr Grp) (ts : List TermL) (c : List AV) : Prop := ∃ v, c = [v] ∧ Lent h 3 tC [.int .i64 (-71), .int .i64 0, .str ByteArray.empty] v ts
def StmtLR (h : Tr Grp) (x : StmtL) (c : List AV) : Prop := ∃ vt ve, c = [.int .i64 x.kind, .str x.name, vt, ve] ∧ Lent h 1 sC [.str markB] vt x.targets ∧ LentR h 1 TermsLR [.nils] ve x.exprs
end Go.Ab
/- Labels and code: lent, the same, kept. -/
namespace Go.Ab
open Go.Proofs
def lC (n : Int) : List AV := [.int .u64 n]
structure InstrL where
  op : Int
  a : Int
def inC (i : InstrL) : List AV := [.int .i64 i.op, .int .i64 i.a]
structure ArrL where
  len : Int
  label : Int
def aC (a : ArrL) : List AV := [.int .i64 a.len, .int .u64 a.label]
set_option maxRecDepth 10000 in
theorem lentLabels_ok {s : St} {v : AV} {xs : List Int} (hok : s.Ok) (hl : xs.length ≤ 2097152) (hv : Row s.h 1 v (xs.map lC)) :
    CallS Try.prog Tt Kt 65 [v] s (fun r s' => Keep [] s s' ∧ LentF s'.h (Fr s.ctr s'.ctr []) 1 lC [.int .u64 7171] r xs) := by
  refine call_of (fn := Try.f65) (nt := 14) Try.func65 rfl rfl rfl ?_
  repeat refine wc_seq ?_
  refine wc_region ?_
  refine w_val rfl rfl (op_pure rfl) ?_
  refine w_nil ?_
  refine then_n ?_
  repeat refine wc_seq ?_
  refine wc_region ?_
  refine w_val rfl rfl (op_pure rfl) ?_
  refine w_nil ?_
  refine then_n ?_
  repeat refine wc_seq ?_
  refine wc_region ?_
  refine w_val rfl rfl (op_pure rfl) ?_
  refine w_val rfl rfl (op_pure rfl) ?_
  refine w_append (cs := []) rfl rfl rfl rfl rfl rfl rfl rfl rfl (by decide) hok (row_nils _ _) (fun _ => rfl) hv (by simp only [List.length_map, List.length_nil, maxBytes]; omega) (by simp only [List.length_map, List.length_nil, maxBytes]; omega) ?_
  rintro v1 s1 hv1 hk1 - hg1 hn1 -
  rw [List.nil_append] at hv1
  refine w_val rfl rfl (op_pure rfl) ?_
  refine w_nil ?_
  refine then_n ?_
  repeat refine wc_seq ?_
  refine wc_region ?_
  refine w_val rfl rfl (op_pure rfl) ?_
  refine w_lit1 (c := [.int .u64 7171]) rfl rfl rfl rfl rfl rfl rfl (by decide) (by decide) rfl rfl rfl hk1.ok ?_
  rintro v2 s2 hv2 hk2 - -
  have hv1' := hv1.keep hk2 (fun _ _ h => by cases h)
  refine w_append rfl rfl rfl rfl rfl rfl rfl rfl rfl (by decide) hk2.ok hv1' hn1 hv2 (by simp only [List.length_map, List.length_nil, List.length_cons, maxBytes]; omega) (by simp only [List.length_map, List.length_nil, List.length_cons, maxBytes]; omega) ?_
  rintro v3 s3 hv3 hk3 - hg3 - hne3
  refine w_val rfl rfl (op_pure rfl) ?_
  refine w_nil ?_
  refine then_n ?_
  repeat refine wc_seq ?_
  refine wc_region ?_
  refine w_val rfl rfl (op_pure rfl) ?_
  refine w_val rfl rfl (op_pure rfl) ?_
  refine w_val rfl rfl (op_len rfl rfl rfl rfl rfl (Row.slenF (by assumption))) ?_
  refine w_val rfl rfl (op_cut (l := none) (h := some xs.length) (l' := 0) (h' := xs.length) rfl rfl (optY_some rfl (natA_cast _ _)) rfl rfl rfl rfl hv3 rfl rfl (Nat.zero_le _) (by simp)) ?_
  refine w_val rfl rfl (op_pure rfl) ?_
  refine w_nil ?_
  refine then_n ?_
  refine wc_ret ?_
  repeat first | refine then_r ?_ | refine out_r ?_ | refine round_r ?_ | refine cut_r ?_
  exact ⟨_, rfl, (hk1.two hk2).fresh hk3 (by
      rcases hg1 with e | e
      · rw [e]; exact fun g hg => by cases hg
      · rw [e]; exact mem_none _), ⟨v3, rfl, hne3 (by simp), hv3⟩, by
      show ∀ g ∈ (cutA v3 0 xs.length).gs, _
      rw [cutA_gs]
      intro g hg
      refine ⟨?_, hv3.lt hk3.ok g hg, fun h => by cases h⟩
      have := hk1.ctr
      have := hk2.ctr
      rcases hg3 with e | e
      · rw [e] at hg
        rcases hg1 with e | e
        · rw [e] at hg; cases hg
        · rw [e] at hg; rw [List.mem_singleton.1 hg]; exact Nat.le_refl _
      · rw [e] at hg; rw [List.mem_singleton.1 hg]; omega⟩
set_option maxRecDepth 10000 in
theorem lentCode_ok {s : St} {v : AV} {xs : List InstrL} (hok : s.Ok) (hl : xs.length ≤ 2097152) (hv : Row s.h 2 v (xs.map inC)) :
    CallS Try.prog Tt Kt 17 [v] s (fun r s' => Keep [] s s' ∧ LentF s'.h (Fr s.ctr s'.ctr []) 2 inC [.int .i64 (-71), .int .i64 0] r xs) := by
  refine call_of (fn := Try.f17) (nt := 15) Try.func17 rfl rfl rfl ?_
  repeat refine wc_seq ?_
  refine wc_region ?_
  refine w_val rfl rfl (op_pure rfl) ?_
  refine w_nil ?_
  refine then_n ?_
  repeat refine wc_seq ?_
  refine wc_region ?_
  refine w_val rfl rfl (op_pure rfl) ?_
  refine w_nil ?_
  refine then_n ?_
  repeat refine wc_seq ?_
  refine wc_region ?_
  refine w_val rfl rfl (op_pure rfl) ?_
  refine w_val rfl rfl (op_pure rfl) ?_
  refine w_append (cs := []) rfl rfl rfl rfl rfl rfl rfl rfl rfl (by decide) hok (row_nils _ _) (fun _ => rfl) hv (by simp only [List.length_map, List.length_nil, maxBytes]; omega) (by simp only [List.length_map, List.length_nil, maxBytes]; omega) ?_
  rintro v1 s1 hv1 hk1 - hg1 hn1 -
  rw [List.nil_append] at hv1
  refine w_val rfl rfl (op_pure rfl) ?_
  refine w_nil ?_
  refine then_n ?_
  repeat refine wc_seq ?_
  refine wc_region ?_
  refine w_val rfl rfl (op_pure rfl) ?_
  refine w_val rfl rfl (op_pure rfl) ?_
  refine w_lit1 (c := [.int .i64 (-71), .int .i64 0]) rfl rfl rfl rfl rfl rfl rfl (by decide) (by decide) rfl rfl rfl hk1.ok ?_
  rintro v2 s2 hv2 hk2 - -
  have hv1' := hv1.keep hk2 (fun _ _ h => by cases h)
  refine w_append rfl rfl rfl rfl rfl rfl rfl rfl rfl (by decide) hk2.ok hv1' hn1 hv2 (by simp only [List.length_map, List.length_nil, List.length_cons, maxBytes]; omega) (by simp only [List.length_map, List.length_nil, List.length_cons, maxBytes]; omega) ?_
  rintro v3 s3 hv3 hk3 - hg3 - hne3
  refine w_val rfl rfl (op_pure rfl) ?_
  refine w_nil ?_
  refine then_n ?_
  repeat refine wc_seq ?_
  refine wc_region ?_
  refine w_val rfl rfl (op_pure rfl) ?_
  refine w_val rfl rfl (op_pure rfl) ?_
  refine w_val rfl rfl (op_len rfl rfl rfl rfl rfl (Row.slenF (by assumption))) ?_
  refine w_val rfl rfl (op_cut (l := none) (h := some xs.length) (l' := 0) (h' := xs.length) rfl rfl (optY_some rfl (natA_cast _ _)) rfl rfl rfl rfl hv3 rfl rfl (Nat.zero_le _) (by simp)) ?_
  refine w_val rfl rfl (op_pure rfl) ?_
  refine w_nil ?_
  refine then_n ?_
  refine wc_ret ?_
  repeat first | refine then_r ?_ | refine out_r ?_ | refine round_r ?_ | refine cut_r ?_
  exact ⟨_, rfl, (hk1.two hk2).fresh hk3 (by
      rcases hg1 with e | e
      · rw [e]; exact fun g hg => by cases hg
      · rw [e]; exact mem_none _), ⟨v3, rfl, hne3 (by simp), hv3⟩, by
      show ∀ g ∈ (cutA v3 0 xs.length).gs, _
      rw [cutA_gs]
      intro g hg
      refine ⟨?_, hv3.lt hk3.ok g hg, fun h => by cases h⟩
      have := hk1.ctr
      have := hk2.ctr
      rcases hg3 with e | e
      · rw [e] at hg
        rcases hg1 with e | e
        · rw [e] at hg; cases hg
        · rw [e] at hg; rw [List.mem_singleton.1 hg]; exact Nat.le_refl _
      · rw [e] at hg; rw [List.mem_singleton.1 hg]; omega⟩
set_option maxRecDepth 10000 in
theorem labels_same {s : St} {a b : AV} {xs : List Int} (hl : xs.length ≤ 2097152) (ha : Row s.h 1 a (xs.map lC)) (hb : Row s.h 1 b (xs.map lC)) :
    CallS Try.prog Tt Kt 78 [a, b] s (fun v s' => s' = s ∧ v = .bool true) := by
  refine call_of (fn := Try.f78) (nt := 26) Try.func78 rfl rfl rfl ?_
  repeat refine wc_seq ?_
  refine wc_region ?_
  refine w_val rfl rfl (op_pure rfl) ?_
  refine w_nil ?_
  refine then_n ?_
  repeat refine wc_seq ?_
  refine wc_region ?_
  refine w_val rfl rfl (op_pure rfl) ?_
  refine w_val rfl rfl (op_len rfl rfl rfl rfl rfl (Row.slenF (by assumption))) ?_
  refine w_val rfl rfl (op_pure rfl) ?_
  refine w_val rfl rfl (op_len rfl rfl rfl rfl rfl (Row.slenF (by assumption))) ?_
  refine w_val rfl rfl (op_pure rfl) ?_
  refine w_nil ?_
  refine then_n ?_
  repeat refine wc_seq ?_
  refine wc_condT rfl (fun h10 => ?_) (fun h10 => ?_)
  · simp at h10
  skip
  refine wc_skip ?_
  refine then_n ?_
  repeat refine wc_seq ?_
  refine wc_region ?_
  refine w_val rfl rfl (op_pure rfl) ?_
  refine w_nil ?_
  refine then_n ?_
  repeat refine wc_seq ?_
  refine wc_block ?_
  refine wc_loop_at (fun j m s' => ∃ i : Nat, j = xs.length - i ∧ i ≤ xs.length ∧ s' = s ∧ m = [(0, a), (1, b), (5, .int .i64 (i : Nat))]) xs.length
    [(0, a), (1, b), (5, .int .i64 ((0 : Nat) : Int))] (Sub.cons rfl (Sub.cons rfl (Sub.cons rfl (Sub.nil _)))) ⟨0, by simp, by simp, rfl, rfl⟩ ?_
  rintro j m sX ⟨i, rfl, hi, eX, rfl⟩
  obtain rfl := eX.symm
  repeat refine wc_seq ?_
  refine wc_region ?_
  refine w_val rfl rfl (op_pure rfl) ?_
  refine w_val rfl rfl (op_pure rfl) ?_
  refine w_val rfl rfl (op_len rfl rfl rfl rfl rfl (Row.slenF (by assumption))) ?_
  refine w_val rfl rfl (op_pure rfl) ?_
  refine w_nil ?_
  refine then_n ?_
  repeat refine wc_seq ?_
  refine wc_condT rfl (fun h14 => ?_) (fun h14 => ?_)
  · simp at h14
    refine wc_skip ?_
    refine then_n ?_
    repeat refine wc_seq ?_
    refine wc_block ?_
    repeat refine wc_seq ?_
    obtain ⟨x, hx⟩ : ∃ x, xs[i]? = some x := ⟨_, List.getElem?_eq_getElem h14⟩
    refine wc_draw (fun _ => True) (by kernel_rfl) rfl ?_
    refine wd_val (fun _ => trivial) rfl rfl (op_pure rfl) ?_
    refine wd_val (fun _ => trivial) rfl rfl (op_pure rfl) ?_
    refine wd_val (fun _ => trivial) rfl rfl (op_idxF rfl rfl (natA_cast _ _) rfl rfl rfl rfl (by assumption) (by omega)) ?_
    refine wd_val (fun _ => trivial) rfl rfl (op_load rfl rfl (Row.mk_pt (by assumption) (by assumption)) rfl) ?_
    refine wd_val (fun _ => trivial) rfl rfl (op_pure rfl) ?_
    refine wd_val (fun _ => trivial) rfl rfl (op_pure rfl) ?_
    refine wd_val (fun _ => trivial) rfl rfl (op_idxF rfl rfl (natA_cast _ _) rfl rfl rfl rfl (by assumption) (by omega)) ?_
    refine wd_val (fun _ => trivial) rfl rfl (op_load rfl rfl (Row.mk_pt (by assumption) (by assumption)) rfl) ?_
    refine wd_val (fun _ => trivial) rfl rfl (op_pure rfl) ?_
    refine wd_nil ?_
    refine then_n ?_
    refine wc_condT rfl (fun h25 => ?_) (fun h25 => ?_)
    · simp [] at h25
    skip
    refine wc_skip ?_
    refine out_n ?_
    refine then_n ?_
    refine wc_region ?_
    refine w_val rfl rfl (op_pure rfl) ?_
    refine w_val rfl rfl (op_add rfl rfl (by unfold In64; omega)) ?_
    refine w_val rfl rfl (op_pure rfl) ?_
    refine w_nil ?_
    exact round_n _ _ (by omega) (Sub.cons rfl (Sub.cons rfl (Sub.cons rfl (Sub.nil _)))) ⟨i + 1, rfl, by omega, rfl, rfl⟩
  simp at h14
  refine wc_exit ?_
  repeat first | refine then_x ?_ | refine round_x ?_ | refine cut_x ?_ | refine out_x' (by decide) ?_
  refine out_x ?_
  refine then_n ?_
  repeat refine wc_seq ?_
  refine wc_region ?_
  refine w_val rfl rfl (op_pure rfl) ?_
  refine w_nil ?_
  refine then_n ?_
  refine wc_ret ?_
  repeat first | refine then_r ?_ | refine out_r ?_ | refine round_r ?_ | refine cut_r ?_
  exact ⟨_, rfl, rfl, rfl⟩
set_option maxRecDepth 10000 in
theorem code_same {s : St} {a b : AV} {xs : List InstrL} (hl : xs.length ≤ 2097152) (ha : Row s.h 2 a (xs.map inC)) (hb : Row s.h 2 b (xs.map inC)) :
    CallS Try.prog Tt Kt 20 [a, b] s (fun v s' => s' = s ∧ v = .bool true) := by
  refine call_of (fn := Try.f20) (nt := 26) Try.func20 rfl rfl rfl ?_
  repeat refine wc_seq ?_
  refine wc_region ?_
  refine w_val rfl rfl (op_pure rfl) ?_
  refine w_nil ?_
  refine then_n ?_
  repeat refine wc_seq ?_
  refine wc_region ?_
  refine w_val rfl rfl (op_pure rfl) ?_
  refine w_val rfl rfl (op_len rfl rfl rfl rfl rfl (Row.slenF (by assumption))) ?_
  refine w_val rfl rfl (op_pure rfl) ?_
  refine w_val rfl rfl (op_len rfl rfl rfl rfl rfl (Row.slenF (by assumption))) ?_
  refine w_val rfl rfl (op_pure rfl) ?_
  refine w_nil ?_
  refine then_n ?_
  repeat refine wc_seq ?_
  refine wc_condT rfl (fun h10 => ?_) (fun h10 => ?_)
  · simp at h10
  skip
  refine wc_skip ?_
  refine then_n ?_
  repeat refine wc_seq ?_
  refine wc_region ?_
  refine w_val rfl rfl (op_pure rfl) ?_
  refine w_nil ?_
  refine then_n ?_
  repeat refine wc_seq ?_
  refine wc_block ?_
  refine wc_loop_at (fun j m s' => ∃ i : Nat, j = xs.length - i ∧ i ≤ xs.length ∧ s' = s ∧ m = [(0, a), (1, b), (5, .int .i64 (i : Nat))]) xs.length
    [(0, a), (1, b), (5, .int .i64 ((0 : Nat) : Int))] (Sub.cons rfl (Sub.cons rfl (Sub.cons rfl (Sub.nil _)))) ⟨0, by simp, by simp, rfl, rfl⟩ ?_
  rintro j m sX ⟨i, rfl, hi, eX, rfl⟩
  obtain rfl := eX.symm
  repeat refine wc_seq ?_
  refine wc_region ?_
  refine w_val rfl rfl (op_pure rfl) ?_
  refine w_val rfl rfl (op_pure rfl) ?_
  refine w_val rfl rfl (op_len rfl rfl rfl rfl rfl (Row.slenF (by assumption))) ?_
  refine w_val rfl rfl (op_pure rfl) ?_
  refine w_nil ?_
  refine then_n ?_
  repeat refine wc_seq ?_
  refine wc_condT rfl (fun h14 => ?_) (fun h14 => ?_)
  · simp at h14
    refine wc_skip ?_
    refine then_n ?_
    repeat refine wc_seq ?_
    refine wc_block ?_
    repeat refine wc_seq ?_
    obtain ⟨x, hx⟩ : ∃ x, xs[i]? = some x := ⟨_, List.getElem?_eq_getElem h14⟩
    refine wc_draw (fun _ => True) (by kernel_rfl) rfl ?_
    refine wd_val (fun _ => trivial) rfl rfl (op_pure rfl) ?_
    refine wd_val (fun _ => trivial) rfl rfl (op_pure rfl) ?_
    refine wd_val (fun _ => trivial) rfl rfl (op_idxF rfl rfl (natA_cast _ _) rfl rfl rfl rfl (by assumption) (by omega)) ?_
    refine wd_val (fun _ => trivial) rfl rfl (op_load rfl rfl (Row.mk_pt (by assumption) (by assumption)) rfl) ?_
    refine wd_val (fun _ => trivial) rfl rfl (op_pure rfl) ?_
    refine wd_val (fun _ => trivial) rfl rfl (op_pure rfl) ?_
    refine wd_val (fun _ => trivial) rfl rfl (op_idxF rfl rfl (natA_cast _ _) rfl rfl rfl rfl (by assumption) (by omega)) ?_
    refine wd_val (fun _ => trivial) rfl rfl (op_load rfl rfl (Row.mk_pt (by assumption) (by assumption)) rfl) ?_
    refine wd_val (fun _ => trivial) rfl rfl (op_pure rfl) ?_
    refine wd_nil ?_
    refine then_n ?_
    refine wc_condT rfl (fun h25 => ?_) (fun h25 => ?_)
    · simp [] at h25
    skip
    refine wc_skip ?_
    refine out_n ?_
    refine then_n ?_
    refine wc_region ?_
    refine w_val rfl rfl (op_pure rfl) ?_
    refine w_val rfl rfl (op_add rfl rfl (by unfold In64; omega)) ?_
    refine w_val rfl rfl (op_pure rfl) ?_
    refine w_nil ?_
    exact round_n _ _ (by omega) (Sub.cons rfl (Sub.cons rfl (Sub.cons rfl (Sub.nil _)))) ⟨i + 1, rfl, by omega, rfl, rfl⟩
  simp at h14
  refine wc_exit ?_
  repeat first | refine then_x ?_ | refine round_x ?_ | refine cut_x ?_ | refine out_x' (by decide) ?_
  refine out_x ?_
  refine then_n ?_
  repeat refine wc_seq ?_
  refine wc_region ?_
  refine w_val rfl rfl (op_pure rfl) ?_
  refine w_nil ?_
  refine then_n ?_
  refine wc_ret ?_
  repeat first | refine then_r ?_ | refine out_r ?_ | refine round_r ?_ | refine cut_r ?_
  exact ⟨_, rfl, rfl, rfl⟩
set_option maxRecDepth 10000 in
theorem keptLabels_ok {s : St} {a b : AV} {xs : List Int} (hl : xs.length ≤ 2097152) (ha : Lent s.h 1 lC [.int .u64 7171] a xs) (hb : Row s.h 1 b (xs.map lC)) :
    CallS Try.prog Tt Kt 80 [a, b] s (fun v s' => s' = s ∧ v = .bool true) := by
  have hra := ha.row
  obtain ⟨u, rfl, hu, hr⟩ := ha
  have hw := Lent.more hr
  have hpt := hw.mk_pt'
  refine call_of (fn := Try.f80) (nt := 21) Try.func80 rfl rfl rfl ?_
  repeat refine wc_seq ?_
  refine wc_region ?_
  refine w_val rfl rfl (op_pure rfl) ?_
  refine w_nil ?_
  refine then_n ?_
  repeat refine wc_seq ?_
  refine wc_region ?_
  refine w_val rfl rfl (op_pure rfl) ?_
  refine w_val rfl rfl (op_pure rfl) ?_
  refine w_call rfl rfl (op_call rfl rfl rfl rfl) (labels_same hl hra hb) ?_
  rintro _ sX ⟨eX, rfl⟩
  obtain rfl := eX.symm
  refine w_val rfl rfl (op_pure rfl) ?_
  refine w_nil ?_
  refine then_n ?_
  repeat refine wc_seq ?_
  refine wc_cond_f rfl ?_
  refine wc_skip ?_
  refine then_n ?_
  repeat refine wc_seq ?_
  refine wc_region ?_
  refine w_val rfl rfl (op_pure rfl) ?_
  refine w_val rfl rfl (op_pure rfl) ?_
  refine w_val rfl rfl (op_len rfl rfl rfl rfl rfl (Row.slenF (by assumption))) ?_
  refine w_val rfl rfl (op_add rfl rfl (by unfold In64; omega)) ?_
  refine w_val rfl rfl (op_recut rfl rfl (natA_succ _ _) rfl rfl rfl rfl hr hu (by simp)) ?_
  refine w_val rfl rfl (op_pure rfl) ?_
  refine w_nil ?_
  refine then_n ?_
  repeat refine wc_seq ?_
  refine wc_region ?_
  refine w_val rfl rfl (op_pure rfl) ?_
  refine w_val rfl rfl (op_pure rfl) ?_
  refine w_val rfl rfl (op_len rfl rfl rfl rfl rfl (Row.slenF (by assumption))) ?_
  refine w_val rfl rfl (op_idx rfl rfl (natA_cast _ _) rfl rfl rfl rfl (by assumption) (by (simp; done))) ?_
  refine w_val rfl rfl (op_load rfl rfl (by assumption) rfl) ?_
  refine w_val rfl rfl (op_pure rfl) ?_
  refine w_val rfl rfl (op_pure rfl) ?_
  refine w_nil ?_
  refine then_n ?_
  refine wc_ret ?_
  repeat first | refine then_r ?_ | refine out_r ?_ | refine round_r ?_ | refine cut_r ?_
  exact ⟨_, rfl, rfl, rfl⟩
set_option maxRecDepth 10000 in
theorem keptCode_ok {s : St} {a b : AV} {xs : List InstrL} (hl : xs.length ≤ 2097152) (ha : Lent s.h 2 inC [.int .i64 (-71), .int .i64 0] a xs) (hb : Row s.h 2 b (xs.map inC)) :
    CallS Try.prog Tt Kt 23 [a, b] s (fun v s' => s' = s ∧ v = .bool true) := by
  have hra := ha.row
  obtain ⟨u, rfl, hu, hr⟩ := ha
  have hw := Lent.more hr
  have hpt := hw.mk_pt'
  refine call_of (fn := Try.f23) (nt := 22) Try.func23 rfl rfl rfl ?_
  repeat refine wc_seq ?_
  refine wc_region ?_
  refine w_val rfl rfl (op_pure rfl) ?_
  refine w_nil ?_
  refine then_n ?_
  repeat refine wc_seq ?_
  refine wc_region ?_
  refine w_val rfl rfl (op_pure rfl) ?_
  refine w_val rfl rfl (op_pure rfl) ?_
  refine w_call rfl rfl (op_call rfl rfl rfl rfl) (code_same hl hra hb) ?_
  rintro _ sX ⟨eX, rfl⟩
  obtain rfl := eX.symm
  refine w_val rfl rfl (op_pure rfl) ?_
  refine w_nil ?_
  refine then_n ?_
  repeat refine wc_seq ?_
  refine wc_cond_f rfl ?_
  refine wc_skip ?_
  refine then_n ?_
  repeat refine wc_seq ?_
  refine wc_region ?_
  refine w_val rfl rfl (op_pure rfl) ?_
  refine w_val rfl rfl (op_pure rfl) ?_
  refine w_val rfl rfl (op_len rfl rfl rfl rfl rfl (Row.slenF (by assumption))) ?_
  refine w_val rfl rfl (op_add rfl rfl (by unfold In64; omega)) ?_
  refine w_val rfl rfl (op_recut rfl rfl (natA_succ _ _) rfl rfl rfl rfl hr hu (by simp)) ?_
  refine w_val rfl rfl (op_pure rfl) ?_
  refine w_nil ?_
  refine then_n ?_
  repeat refine wc_seq ?_
  refine wc_region ?_
  refine w_val rfl rfl (op_pure rfl) ?_
  refine w_val rfl rfl (op_pure rfl) ?_
  refine w_val rfl rfl (op_len rfl rfl rfl rfl rfl (Row.slenF (by assumption))) ?_
  refine w_val rfl rfl (op_idx rfl rfl (natA_cast _ _) rfl rfl rfl rfl (by assumption) (by (simp; done))) ?_
  refine w_val rfl rfl (op_load rfl rfl (by assumption) rfl) ?_
  refine w_val rfl rfl (op_pure rfl) ?_
  refine w_val rfl rfl (op_pure rfl) ?_
  refine w_val rfl rfl (op_pure rfl) ?_
  refine w_nil ?_
  refine then_n ?_
  refine wc_ret ?_
  repeat first | refine then_r ?_ | refine out_r ?_ | refine round_r ?_ | refine cut_r ?_
  exact ⟨_, rfl, rfl, rfl⟩
end Go.Ab
/- Statements that are lent. -/
namespace Go.Ab
open Go.Proofs
def TermsLF : RP (List TermL) := fun h F ts c => ∃ v, c = [v] ∧ LentF h F 3 tC [.int .i64 (-71), .int .i64 0, .str ByteArray.empty] v ts
def StmtLF : RP StmtL := fun h F x c => ∃ vt ve, c = [.int .i64 x.kind, .str x.name, vt, ve] ∧ LentF h F 1 sC [.str markB] vt x.targets ∧ LentRF h F 1 TermsLF [.nils] ve x.exprs
theorem Bld.gs {α : Type} {R : RP α} {c0 hi : Nat} {s : St} {sz : Nat} {f : AV} {xs : List α} (k : Bld c0 hi s sz R f xs) : ∀ g ∈ f.gs, c0 ≤ g ∧ g < hi := by
  obtain ⟨css, hr, hn, hf, hl, hx⟩ := k
  exact hf
theorem AV.cells_leaf {v : AV} (h : v.leaf = true) : v.cells = [v] := by cases v <;> first | rfl | cases h
theorem fill1 {w z : AV} (h : w.leaf = true) : fillA (fun n => some (n * 1, 1)) [z] [(0, w)] = some [w] := by
  simp [fillA, AV.cells_leaf h, over]
end Go.Ab
/- Functions: lent, the same, kept. -/
namespace Go.Ab
open Go.Proofs
structure FuncL where
  level : Int
  params : List Int
  results : List Int
  locals : Int
  stack : Int
  code : List InstrL
def FuncL.small (x : FuncL) : Prop := x.params.length ≤ 2097152 ∧ x.results.length ≤ 2097152 ∧ x.code.length ≤ 2097152
def FuncR (h : Tr Grp) (x : FuncL) (c : List AV) : Prop := ∃ vp vr vc, c = [.int .u64 x.level, vp, vr, .int .i64 x.locals, .int .i64 x.stack, vc] ∧ Row h 1 vp (x.params.map lC) ∧ Row h 1 vr (x.results.map lC) ∧ Row h 2 vc (x.code.map inC)
def FuncLF : RP FuncL := fun h F x c => ∃ vp vr vc, c = [.int .u64 x.level, vp, vr, .int .i64 x.locals, .int .i64 x.stack, vc] ∧ LentF h F 1 lC [.int .u64 7171] vp x.params ∧ LentF h F 1 lC [.int .u64 7171] vr x.results ∧ LentF h F 2 inC [.int .i64 (-71), .int .i64 0] vc x.code
def FuncLR (h : Tr Grp) (x : FuncL) (c : List AV) : Prop := ∃ vp vr vc, c = [.int .u64 x.level, vp, vr, .int .i64 x.locals, .int .i64 x.stack, vc] ∧ Lent h 1 lC [.int .u64 7171] vp x.params ∧ Lent h 1 lC [.int .u64 7171] vr x.results ∧ Lent h 2 inC [.int .i64 (-71), .int .i64 0] vc x.code
theorem good_func : Good FuncLF where
  keep := fun ⟨vp, vr, vc, e, h1, h2, h3⟩ h hY => ⟨vp, vr, vc, e, h1.keep h hY, h2.keep h hY, h3.keep h hY⟩
  mono := fun ⟨vp, vr, vc, e, h1, h2, h3⟩ h => ⟨vp, vr, vc, e, h1.mono h, h2.mono h, h3.mono h⟩
theorem FuncLF.to {h : Tr Grp} {F : Nat → Prop} (x : FuncL) (c : List AV) (k : FuncLF h F x c) : FuncLR h x c := by
  obtain ⟨vp, vr, vc, e, h1, h2, h3⟩ := k
  exact ⟨vp, vr, vc, e, h1.1, h2.1, h3.1⟩
theorem FuncLR.to {h : Tr Grp} (x : FuncL) (c : List AV) (k : FuncLR h x c) : FuncR h x c := by
  obtain ⟨vp, vr, vc, e, h1, h2, h3⟩ := k
  exact ⟨vp, vr, vc, e, h1.row, h2.row, h3.row⟩
theorem FuncR.keep0 {s s' : St} {x : FuncL} {c : List AV} (k : FuncR s.h x c) (h : Keep [] s s') : FuncR s'.h x c := by
  obtain ⟨vp, vr, vc, e, h1, h2, h3⟩ := k
  exact ⟨vp, vr, vc, e, h1.keep0 h, h2.keep0 h, h3.keep0 h⟩
theorem FuncLR.keep0 {s s' : St} {x : FuncL} {c : List AV} (k : FuncLR s.h x c) (h : Keep [] s s') : FuncLR s'.h x c := by
  obtain ⟨vp, vr, vc, e, h1, h2, h3⟩ := k
  exact ⟨vp, vr, vc, e, h1.keep h (fun _ _ h => by cases h), h2.keep h (fun _ _ h => by cases h), h3.keep h (fun _ _ h => by cases h)⟩
theorem FuncR.bare {s : St} {x : FuncL} {c : List AV} (k : FuncR s.h x c) : FuncR s.bare.h x c := k
theorem FuncLR.bare {s : St} {x : FuncL} {c : List AV} (k : FuncLR s.h x c) : FuncLR s.bare.h x c := k
theorem FuncR.leaf {h : Tr Grp} {x : FuncL} {c : List AV} (k : FuncR h x c) : c.length = 6 ∧ c.all AV.leaf = true := by
  obtain ⟨vp, vr, vc, rfl, h1, h2, h3⟩ := k
  exact ⟨rfl, by simp only [List.all_cons, List.all_nil, h1.leaf, h2.leaf, h3.leaf]; rfl⟩
set_option maxRecDepth 10000 in
theorem lentFunction_ok {s : St} {c : List AV} {x : FuncL} (hok : s.Ok) (hx : x.small) (hv : FuncR s.h x c) :
    CallS Try.prog Tt Kt 64 [.agg c] s (fun r s' => Keep [] s s' ∧ ∃ c', r = .agg c' ∧ FuncLF s'.h (Fr s.ctr s'.ctr []) x c') := by
  have hz := hv.leaf.2
  obtain ⟨vp, vr, vc, rfl, hvp, hvr, hvc⟩ := hv
  obtain ⟨hx1, hx2, hx3⟩ := hx
  refine call_of (fn := Try.f64) (nt := 16) Try.func64 rfl rfl rfl ?_
  repeat refine wc_seq ?_
  refine wc_region ?_
  refine w_box rfl rfl rfl hz hok ?_
  intro s1 hp1 hk1 hc1
  have hK := (Keep.refl hok).two hk1
  have hp : Pt s1.h (.ptr s.ctr 0 0) [.int .u64 x.level, vp, vr, .int .i64 x.locals, .int .i64 x.stack, vc] := hp1
  refine w_alloc rfl rfl rfl rfl hK.ok ?_
  intro s2 hq hk2 hc2
  have hK := hK.two hk2
  have hp := hp.keep0 hk2
  refine w_nil ?_
  refine then_n ?_
  repeat refine wc_seq ?_
  refine wc_region ?_
  refine w_val rfl rfl (op_fld rfl rfl rfl rfl (by decide) (by assumption) (Nat.le_of_ble_eq_true rfl)) ?_
  refine w_val rfl rfl (op_load rfl rfl (Pt.fld (by assumption) _ (Nat.le_of_ble_eq_true rfl)) rfl) ?_
  refine w_call rfl rfl (op_call rfl rfl rfl rfl) (lentLabels_ok hK.ok hx1 (hvp.keep0 hK)) ?_
  rintro vp' s3 ⟨hk3, hvp'⟩
  have hc3 := hk3.ctr
  have hK := hK.two hk3
  have hp := hp.keep0 hk3
  have hq := hq.keep0 hk3
  refine w_val rfl rfl (op_fld rfl rfl rfl rfl (by decide) (by assumption) (Nat.le_of_ble_eq_true rfl)) ?_
  refine w_store_fld (o := 1) rfl rfl rfl rfl (by rw [AV.cells_leaf hvp'.1.leaf]; rfl) (by simp only [AV.cells_leaf hvp'.1.leaf, List.all_cons, List.all_nil, hvp'.1.leaf]; rfl) hK.ok hp (by simp [AV.gs]) (by rw [AV.cells_leaf hvp'.1.leaf]; exact Nat.le_of_ble_eq_true rfl) ?_
  intro s4 hp' hk4 hc4
  have hp : Pt s4.h (.ptr s.ctr 0 0) [.int .u64 x.level, vp', vr, .int .i64 x.locals, .int .i64 x.stack, vc] := by rw [AV.cells_leaf hvp'.1.leaf] at hp'; exact hp'
  have hK := hK.fresh hk4 (mem_none s)
  have hq := hq.keep hk4 (fun g hg h => by rw [List.mem_singleton.1 hg] at h; have := List.mem_singleton.1 h; omega)
  have hvp' := hvp'.keep hk4 (fun g hg h => by rw [List.mem_singleton.1 hg] at h; have := h.1; omega)
  refine w_nil ?_
  refine then_n ?_
  repeat refine wc_seq ?_
  refine wc_region ?_
  refine w_val rfl rfl (op_fld rfl rfl rfl rfl (by decide) (by assumption) (Nat.le_of_ble_eq_true rfl)) ?_
  refine w_val rfl rfl (op_load rfl rfl (Pt.fld (by assumption) _ (Nat.le_of_ble_eq_true rfl)) rfl) ?_
  refine w_call rfl rfl (op_call rfl rfl rfl rfl) (lentLabels_ok hK.ok hx2 (hvr.keep0 hK)) ?_
  rintro vr' s5 ⟨hk5, hvr'⟩
  have hc5 := hk5.ctr
  have hK := hK.two hk5
  have hp := hp.keep0 hk5
  have hq := hq.keep0 hk5
  have hvp' := hvp'.keep hk5 (fun g hg => by cases hg)
  refine w_val rfl rfl (op_fld rfl rfl rfl rfl (by decide) (by assumption) (Nat.le_of_ble_eq_true rfl)) ?_
  refine w_store_fld (o := 2) rfl rfl rfl rfl (by rw [AV.cells_leaf hvr'.1.leaf]; rfl) (by simp only [AV.cells_leaf hvr'.1.leaf, List.all_cons, List.all_nil, hvr'.1.leaf]; rfl) hK.ok hp (by simp [AV.gs]) (by rw [AV.cells_leaf hvr'.1.leaf]; exact Nat.le_of_ble_eq_true rfl) ?_
  intro s6 hp' hk6 hc6
  have hp : Pt s6.h (.ptr s.ctr 0 0) [.int .u64 x.level, vp', vr', .int .i64 x.locals, .int .i64 x.stack, vc] := by rw [AV.cells_leaf hvr'.1.leaf] at hp'; exact hp'
  have hK := hK.fresh hk6 (mem_none s)
  have hq := hq.keep hk6 (fun g hg h => by rw [List.mem_singleton.1 hg] at h; have := List.mem_singleton.1 h; omega)
  have hvp' := hvp'.keep hk6 (fun g hg h => by rw [List.mem_singleton.1 hg] at h; have := h.1; omega)
  have hvr' := hvr'.keep hk6 (fun g hg h => by rw [List.mem_singleton.1 hg] at h; have := h.1; omega)
  refine w_nil ?_
  refine then_n ?_
  repeat refine wc_seq ?_
  refine wc_region ?_
  refine w_val rfl rfl (op_fld rfl rfl rfl rfl (by decide) (by assumption) (Nat.le_of_ble_eq_true rfl)) ?_
  refine w_val rfl rfl (op_load rfl rfl (Pt.fld (by assumption) _ (Nat.le_of_ble_eq_true rfl)) rfl) ?_
  refine w_call rfl rfl (op_call rfl rfl rfl rfl) (lentCode_ok hK.ok hx3 (hvc.keep0 hK)) ?_
  rintro vc' s7 ⟨hk7, hvc'⟩
  have hc7 := hk7.ctr
  have hK := hK.two hk7
  have hp := hp.keep0 hk7
  have hq := hq.keep0 hk7
  have hvp' := hvp'.keep hk7 (fun g hg => by cases hg)
  have hvr' := hvr'.keep hk7 (fun g hg => by cases hg)
  refine w_val rfl rfl (op_fld rfl rfl rfl rfl (by decide) (by assumption) (Nat.le_of_ble_eq_true rfl)) ?_
  refine w_store_fld (o := 5) rfl rfl rfl rfl (by rw [AV.cells_leaf hvc'.1.leaf]; rfl) (by simp only [AV.cells_leaf hvc'.1.leaf, List.all_cons, List.all_nil, hvc'.1.leaf]; rfl) hK.ok hp (by simp [AV.gs]) (by rw [AV.cells_leaf hvc'.1.leaf]; exact Nat.le_of_ble_eq_true rfl) ?_
  intro s8 hp' hk8 hc8
  have hp : Pt s8.h (.ptr s.ctr 0 0) [.int .u64 x.level, vp', vr', .int .i64 x.locals, .int .i64 x.stack, vc'] := by rw [AV.cells_leaf hvc'.1.leaf] at hp'; exact hp'
  have hK := hK.fresh hk8 (mem_none s)
  have hq := hq.keep hk8 (fun g hg h => by rw [List.mem_singleton.1 hg] at h; have := List.mem_singleton.1 h; omega)
  have hvp' := hvp'.keep hk8 (fun g hg h => by rw [List.mem_singleton.1 hg] at h; have := h.1; omega)
  have hvr' := hvr'.keep hk8 (fun g hg h => by rw [List.mem_singleton.1 hg] at h; have := h.1; omega)
  have hvc' := hvc'.keep hk8 (fun g hg h => by rw [List.mem_singleton.1 hg] at h; have := h.1; omega)
  refine w_nil ?_
  refine then_n ?_
  repeat refine wc_seq ?_
  refine wc_region ?_
  refine w_val rfl rfl (op_load rfl rfl (by assumption) rfl) ?_
  have hz' : ([.int .u64 x.level, vp', vr', .int .i64 x.locals, .int .i64 x.stack, vc'] : List AV).all AV.leaf = true := by
    simp only [List.all_cons, List.all_nil, hvp'.1.leaf, hvr'.1.leaf, hvc'.1.leaf]; rfl
  refine w_store_all rfl rfl rfl rfl rfl (by rfl) hz' hK.ok hq (by simp [AV.gs]) ?_
  intro s9 hq' hk9 hc9
  have hq : Pt s9.h (.ptr s1.ctr 0 0) [.int .u64 x.level, vp', vr', .int .i64 x.locals, .int .i64 x.stack, vc'] := hq'
  have hK := hK.fresh hk9 (fun g hg => by rw [List.mem_singleton.1 hg]; omega)
  have hm : ∀ {a b : Nat}, s2.ctr ≤ a → b ≤ s9.ctr → ∀ g, Fr a b [] g → Fr s.ctr s9.ctr [] g := fun h1 h2 g ⟨q1, q2, _⟩ => ⟨by omega, by omega, fun h => by cases h⟩
  have hvp' := (hvp'.keep hk9 (fun g hg h => by rw [List.mem_singleton.1 hg] at h; have := h.1; omega)).mono (hm (by omega) (by omega))
  have hvr' := (hvr'.keep hk9 (fun g hg h => by rw [List.mem_singleton.1 hg] at h; have := h.1; omega)).mono (hm (by omega) (by omega))
  have hvc' := (hvc'.keep hk9 (fun g hg h => by rw [List.mem_singleton.1 hg] at h; have := h.1; omega)).mono (hm (by omega) (by omega))
  refine w_nil ?_
  refine then_n ?_
  refine wc_ret ?_
  repeat first | refine then_r ?_ | refine out_r ?_ | refine round_r ?_ | refine cut_r ?_
  exact ⟨_, res_cell rfl rfl hq rfl, hK, _, rfl, vp', vr', vc', rfl, hvp', hvr', hvc'⟩
set_option maxRecDepth 10000 in
theorem function_same {s : St} {ca cb : List AV} {x : FuncL} (hok : s.Ok) (hx : x.small) (hva : FuncR s.h x ca) (hvb : FuncR s.h x cb) :
    CallS Try.prog Tt Kt 79 [.agg ca, .agg cb] s (fun v s' => Keep [] s s' ∧ v = .bool true) := by
  have hza := hva.leaf.2
  have hzb := hvb.leaf.2
  obtain ⟨vpa, vra, vca, rfl, hpra, hrra, hcra⟩ := hva
  obtain ⟨vpb, vrb, vcb, rfl, hprb, hrrb, hcrb⟩ := hvb
  obtain ⟨hx1, hx2, hx3⟩ := hx
  refine call_of (fn := Try.f79) (nt := 45) Try.func79 rfl rfl rfl ?_
  repeat refine wc_seq ?_
  refine wc_region ?_
  refine w_box rfl rfl rfl hza hok ?_
  intro s1 hp1 hk1 hc1
  have hK := (Keep.refl hok).two hk1
  have hpa : Pt s1.h (.ptr s.ctr 0 0) [.int .u64 x.level, vpa, vra, .int .i64 x.locals, .int .i64 x.stack, vca] := hp1
  clear hp1
  refine w_box rfl rfl rfl hzb hK.ok ?_
  intro s2 hp2 hk2 hc2
  have hK := hK.two hk2
  have hpa := hpa.keep0 hk2
  have hpb : Pt s2.h (.ptr s1.ctr 0 0) [.int .u64 x.level, vpb, vrb, .int .i64 x.locals, .int .i64 x.stack, vcb] := hp2
  clear hp2
  refine w_val rfl rfl (op_pure rfl) ?_
  refine w_nil ?_
  refine then_n ?_
  repeat refine wc_seq ?_
  refine wc_region ?_
  refine w_val rfl rfl (op_fld rfl rfl rfl rfl (by decide) (by assumption) (Nat.le_of_ble_eq_true rfl)) ?_
  refine w_val rfl rfl (op_load rfl rfl (by assumption) rfl) ?_
  refine w_val rfl rfl (op_fld rfl rfl rfl rfl (by decide) (by assumption) (Nat.le_of_ble_eq_true rfl)) ?_
  refine w_val rfl rfl (op_load rfl rfl (by assumption) rfl) ?_
  refine w_val rfl rfl (op_pure rfl) ?_
  refine w_val rfl rfl (op_pure rfl) ?_
  refine w_split (i := 10) rfl (fun h10 => ?_) (fun h10 => ?_)
  · clear h10
    refine w_val rfl rfl (op_fld rfl rfl rfl rfl (by decide) (by assumption) (Nat.le_of_ble_eq_true rfl)) ?_
    refine w_val rfl rfl (op_load rfl rfl (Pt.fld (by assumption) _ (Nat.le_of_ble_eq_true rfl)) rfl) ?_
    refine w_val rfl rfl (op_fld rfl rfl rfl rfl (by decide) (by assumption) (Nat.le_of_ble_eq_true rfl)) ?_
    refine w_val rfl rfl (op_load rfl rfl (Pt.fld (by assumption) _ (Nat.le_of_ble_eq_true rfl)) rfl) ?_
    refine w_call rfl rfl (op_call rfl rfl rfl rfl) (labels_same hx1 (hpra.keep0 hK) (hprb.keep0 hK)) ?_
    rintro _ sX ⟨eX, rfl⟩
    obtain rfl := eX.symm
    refine w_val rfl rfl (op_pure rfl) ?_
    refine w_val rfl rfl (op_pure rfl) ?_
    refine w_val rfl rfl (op_fld rfl rfl rfl rfl (by decide) (by assumption) (Nat.le_of_ble_eq_true rfl)) ?_
    refine w_val rfl rfl (op_load rfl rfl (Pt.fld (by assumption) _ (Nat.le_of_ble_eq_true rfl)) rfl) ?_
    refine w_val rfl rfl (op_fld rfl rfl rfl rfl (by decide) (by assumption) (Nat.le_of_ble_eq_true rfl)) ?_
    refine w_val rfl rfl (op_load rfl rfl (Pt.fld (by assumption) _ (Nat.le_of_ble_eq_true rfl)) rfl) ?_
    refine w_call rfl rfl (op_call rfl rfl rfl rfl) (labels_same hx2 (hrra.keep0 hK) (hrrb.keep0 hK)) ?_
    rintro _ sX ⟨eX, rfl⟩
    obtain rfl := eX.symm
    refine w_val rfl rfl (op_pure rfl) ?_
    refine w_val rfl rfl (op_pure rfl) ?_
    refine w_val rfl rfl (op_fld rfl rfl rfl rfl (by decide) (by assumption) (Nat.le_of_ble_eq_true rfl)) ?_
    refine w_val rfl rfl (op_load rfl rfl (Pt.fld (by assumption) _ (Nat.le_of_ble_eq_true rfl)) rfl) ?_
    refine w_val rfl rfl (op_fld rfl rfl rfl rfl (by decide) (by assumption) (Nat.le_of_ble_eq_true rfl)) ?_
    refine w_val rfl rfl (op_load rfl rfl (Pt.fld (by assumption) _ (Nat.le_of_ble_eq_true rfl)) rfl) ?_
    refine w_val rfl rfl (op_pure rfl) ?_
    refine w_val rfl rfl (op_pure rfl) ?_
    refine w_val rfl rfl (op_pure rfl) ?_
    refine w_split (i := 31) rfl (fun h31 => ?_) (fun h31 => ?_)
    · clear h31
      refine w_val rfl rfl (op_fld rfl rfl rfl rfl (by decide) (by assumption) (Nat.le_of_ble_eq_true rfl)) ?_
      refine w_val rfl rfl (op_load rfl rfl (Pt.fld (by assumption) _ (Nat.le_of_ble_eq_true rfl)) rfl) ?_
      refine w_val rfl rfl (op_fld rfl rfl rfl rfl (by decide) (by assumption) (Nat.le_of_ble_eq_true rfl)) ?_
      refine w_val rfl rfl (op_load rfl rfl (Pt.fld (by assumption) _ (Nat.le_of_ble_eq_true rfl)) rfl) ?_
      refine w_val rfl rfl (op_pure rfl) ?_
      refine w_val rfl rfl (op_pure rfl) ?_
      refine w_val rfl rfl (op_pure rfl) ?_
      refine w_split (i := 38) rfl (fun h38 => ?_) (fun h38 => ?_)
      · clear h38
        refine w_val rfl rfl (op_fld rfl rfl rfl rfl (by decide) (by assumption) (Nat.le_of_ble_eq_true rfl)) ?_
        refine w_val rfl rfl (op_load rfl rfl (Pt.fld (by assumption) _ (Nat.le_of_ble_eq_true rfl)) rfl) ?_
        refine w_val rfl rfl (op_fld rfl rfl rfl rfl (by decide) (by assumption) (Nat.le_of_ble_eq_true rfl)) ?_
        refine w_val rfl rfl (op_load rfl rfl (Pt.fld (by assumption) _ (Nat.le_of_ble_eq_true rfl)) rfl) ?_
        refine w_call rfl rfl (op_call rfl rfl rfl rfl) (code_same hx3 (hcra.keep0 hK) (hcrb.keep0 hK)) ?_
        rintro _ sX ⟨eX, rfl⟩
        obtain rfl := eX.symm
        refine w_val rfl rfl (op_pure rfl) ?_
        refine w_val rfl rfl (op_pure rfl) ?_
        refine w_nil ?_
        refine then_n ?_
        refine wc_ret ?_
        repeat first | refine then_r ?_ | refine out_r ?_ | refine round_r ?_ | refine cut_r ?_
        exact ⟨_, rfl, hK, rfl⟩
      simp at h38
    simp at h31
  simp at h10
set_option maxRecDepth 10000 in
theorem keptFunction_ok {s : St} {ca cb : List AV} {x : FuncL} (hok : s.Ok) (hx : x.small) (hva : FuncLR s.h x ca) (hvb : FuncR s.h x cb) :
    CallS Try.prog Tt Kt 81 [.agg ca, .agg cb] s (fun v s' => Keep [] s s' ∧ v = .bool true) := by
  have hza := (FuncLR.to x ca hva).leaf.2
  have hzb := hvb.leaf.2
  obtain ⟨vpa, vra, vca, rfl, hpra, hrra, hcra⟩ := hva
  obtain ⟨vpb, vrb, vcb, rfl, hprb, hrrb, hcrb⟩ := hvb
  obtain ⟨hx1, hx2, hx3⟩ := hx
  refine call_of (fn := Try.f81) (nt := 45) Try.func81 rfl rfl rfl ?_
  repeat refine wc_seq ?_
  refine wc_region ?_
  refine w_box rfl rfl rfl hza hok ?_
  intro s1 hp1 hk1 hc1
  have hK := (Keep.refl hok).two hk1
  have hpa : Pt s1.h (.ptr s.ctr 0 0) [.int .u64 x.level, vpa, vra, .int .i64 x.locals, .int .i64 x.stack, vca] := hp1
  clear hp1
  refine w_box rfl rfl rfl hzb hK.ok ?_
  intro s2 hp2 hk2 hc2
  have hK := hK.two hk2
  have hpa := hpa.keep0 hk2
  have hpb : Pt s2.h (.ptr s1.ctr 0 0) [.int .u64 x.level, vpb, vrb, .int .i64 x.locals, .int .i64 x.stack, vcb] := hp2
  clear hp2
  refine w_val rfl rfl (op_pure rfl) ?_
  refine w_nil ?_
  refine then_n ?_
  repeat refine wc_seq ?_
  refine wc_region ?_
  refine w_val rfl rfl (op_fld rfl rfl rfl rfl (by decide) (by assumption) (Nat.le_of_ble_eq_true rfl)) ?_
  refine w_val rfl rfl (op_load rfl rfl (by assumption) rfl) ?_
  refine w_val rfl rfl (op_fld rfl rfl rfl rfl (by decide) (by assumption) (Nat.le_of_ble_eq_true rfl)) ?_
  refine w_val rfl rfl (op_load rfl rfl (by assumption) rfl) ?_
  refine w_val rfl rfl (op_pure rfl) ?_
  refine w_val rfl rfl (op_pure rfl) ?_
  refine w_split (i := 10) rfl (fun h10 => ?_) (fun h10 => ?_)
  · clear h10
    refine w_val rfl rfl (op_fld rfl rfl rfl rfl (by decide) (by assumption) (Nat.le_of_ble_eq_true rfl)) ?_
    refine w_val rfl rfl (op_load rfl rfl (Pt.fld (by assumption) _ (Nat.le_of_ble_eq_true rfl)) rfl) ?_
    refine w_val rfl rfl (op_fld rfl rfl rfl rfl (by decide) (by assumption) (Nat.le_of_ble_eq_true rfl)) ?_
    refine w_val rfl rfl (op_load rfl rfl (Pt.fld (by assumption) _ (Nat.le_of_ble_eq_true rfl)) rfl) ?_
    refine w_val rfl rfl (op_pure rfl) ?_
    refine w_val rfl rfl (op_pure rfl) ?_
    refine w_val rfl rfl (op_pure rfl) ?_
    refine w_split (i := 17) rfl (fun h17 => ?_) (fun h17 => ?_)
    · clear h17
      refine w_val rfl rfl (op_fld rfl rfl rfl rfl (by decide) (by assumption) (Nat.le_of_ble_eq_true rfl)) ?_
      refine w_val rfl rfl (op_load rfl rfl (Pt.fld (by assumption) _ (Nat.le_of_ble_eq_true rfl)) rfl) ?_
      refine w_val rfl rfl (op_fld rfl rfl rfl rfl (by decide) (by assumption) (Nat.le_of_ble_eq_true rfl)) ?_
      refine w_val rfl rfl (op_load rfl rfl (Pt.fld (by assumption) _ (Nat.le_of_ble_eq_true rfl)) rfl) ?_
      refine w_val rfl rfl (op_pure rfl) ?_
      refine w_val rfl rfl (op_pure rfl) ?_
      refine w_val rfl rfl (op_pure rfl) ?_
      refine w_split (i := 24) rfl (fun h24 => ?_) (fun h24 => ?_)
      · clear h24
        refine w_val rfl rfl (op_fld rfl rfl rfl rfl (by decide) (by assumption) (Nat.le_of_ble_eq_true rfl)) ?_
        refine w_val rfl rfl (op_load rfl rfl (Pt.fld (by assumption) _ (Nat.le_of_ble_eq_true rfl)) rfl) ?_
        refine w_val rfl rfl (op_fld rfl rfl rfl rfl (by decide) (by assumption) (Nat.le_of_ble_eq_true rfl)) ?_
        refine w_val rfl rfl (op_load rfl rfl (Pt.fld (by assumption) _ (Nat.le_of_ble_eq_true rfl)) rfl) ?_
        refine w_call rfl rfl (op_call rfl rfl rfl rfl) (keptLabels_ok hx1 (hpra.keep hK (fun _ _ h => by cases h)) (hprb.keep0 hK)) ?_
        rintro _ sX ⟨eX, rfl⟩
        obtain rfl := eX.symm
        refine w_val rfl rfl (op_pure rfl) ?_
        refine w_val rfl rfl (op_pure rfl) ?_
        refine w_val rfl rfl (op_fld rfl rfl rfl rfl (by decide) (by assumption) (Nat.le_of_ble_eq_true rfl)) ?_
        refine w_val rfl rfl (op_load rfl rfl (Pt.fld (by assumption) _ (Nat.le_of_ble_eq_true rfl)) rfl) ?_
        refine w_val rfl rfl (op_fld rfl rfl rfl rfl (by decide) (by assumption) (Nat.le_of_ble_eq_true rfl)) ?_
        refine w_val rfl rfl (op_load rfl rfl (Pt.fld (by assumption) _ (Nat.le_of_ble_eq_true rfl)) rfl) ?_
        refine w_call rfl rfl (op_call rfl rfl rfl rfl) (keptLabels_ok hx2 (hrra.keep hK (fun _ _ h => by cases h)) (hrrb.keep0 hK)) ?_
        rintro _ sX ⟨eX, rfl⟩
        obtain rfl := eX.symm
        refine w_val rfl rfl (op_pure rfl) ?_
        refine w_val rfl rfl (op_pure rfl) ?_
        refine w_val rfl rfl (op_fld rfl rfl rfl rfl (by decide) (by assumption) (Nat.le_of_ble_eq_true rfl)) ?_
        refine w_val rfl rfl (op_load rfl rfl (Pt.fld (by assumption) _ (Nat.le_of_ble_eq_true rfl)) rfl) ?_
        refine w_val rfl rfl (op_fld rfl rfl rfl rfl (by decide) (by assumption) (Nat.le_of_ble_eq_true rfl)) ?_
        refine w_val rfl rfl (op_load rfl rfl (Pt.fld (by assumption) _ (Nat.le_of_ble_eq_true rfl)) rfl) ?_
        refine w_call rfl rfl (op_call rfl rfl rfl rfl) (keptCode_ok hx3 (hcra.keep hK (fun _ _ h => by cases h)) (hcrb.keep0 hK)) ?_
        rintro _ sX ⟨eX, rfl⟩
        obtain rfl := eX.symm
        refine w_val rfl rfl (op_pure rfl) ?_
        refine w_val rfl rfl (op_pure rfl) ?_
        refine w_nil ?_
        refine then_n ?_
        refine wc_ret ?_
        repeat first | refine then_r ?_ | refine out_r ?_ | refine round_r ?_ | refine cut_r ?_
        exact ⟨_, rfl, hK, rfl⟩
      simp at h24
    simp at h17
  simp at h10
end Go.Ab
/- Modules: lent, the same, kept. -/
namespace Go.Ab
open Go.Proofs
structure ModL where
  globals : List Int
  arrays : List ArrL
  channels : List Int
  funcs : List FuncL
def ModL.small (m : ModL) : Prop := m.globals.length ≤ 2097152 ∧ m.arrays.length ≤ 2097152 ∧ m.channels.length ≤ 2097152 ∧ m.funcs.length ≤ 2097152 ∧ ∀ x ∈ m.funcs, x.small
def mkF : List AV := [.int .u64 0, .nils, .nils, .int .i64 0, .int .i64 (-71), .nils]
def ModR (h : Tr Grp) (m : ModL) (c : List AV) : Prop := ∃ vg va vh vf, c = [vg, va, vh, vf] ∧ Row h 1 vg (m.globals.map lC) ∧ Row h 2 va (m.arrays.map aC) ∧ Row h 1 vh (m.channels.map lC) ∧ RowR h 6 FuncR vf m.funcs
def ModLR (h : Tr Grp) (m : ModL) (c : List AV) : Prop := ∃ vg va vh vf, c = [vg, va, vh, vf] ∧ Lent h 1 lC [.int .u64 7171] vg m.globals ∧ Lent h 2 aC [.int .i64 (-71), .int .u64 0] va m.arrays ∧ Lent h 1 lC [.int .u64 7171] vh m.channels ∧ LentR h 6 FuncLR mkF vf m.funcs
def ModLF : RP ModL := fun h F m c => ∃ vg va vh vf, c = [vg, va, vh, vf] ∧ LentF h F 1 lC [.int .u64 7171] vg m.globals ∧ LentF h F 2 aC [.int .i64 (-71), .int .u64 0] va m.arrays ∧ LentF h F 1 lC [.int .u64 7171] vh m.channels ∧ LentRF h F 6 FuncLF mkF vf m.funcs
theorem good_mod : Good ModLF where
  keep := fun ⟨vg, va, vh, vf, e, h1, h2, h3, h4⟩ h hY => ⟨vg, va, vh, vf, e, h1.keep h hY, h2.keep h hY, h3.keep h hY, h4.keep good_func h hY⟩
  mono := fun ⟨vg, va, vh, vf, e, h1, h2, h3, h4⟩ h => ⟨vg, va, vh, vf, e, h1.mono h, h2.mono h, h3.mono h, h4.mono good_func h⟩
theorem ModLF.to {h : Tr Grp} {F : Nat → Prop} {m : ModL} {c : List AV} (k : ModLF h F m c) : ModLR h m c := by
  obtain ⟨vg, va, vh, vf, e, h1, h2, h3, h4⟩ := k
  exact ⟨vg, va, vh, vf, e, h1.1, h2.1, h3.1, h4.to FuncLF.to⟩
theorem ModLR.to {h : Tr Grp} {m : ModL} {c : List AV} (k : ModLR h m c) : ModR h m c := by
  obtain ⟨vg, va, vh, vf, e, h1, h2, h3, h4⟩ := k
  exact ⟨vg, va, vh, vf, e, h1.row, h2.row, h3.row, h4.row FuncLR.to⟩
theorem ModR.keep0 {s s' : St} {m : ModL} {c : List AV} (k : ModR s.h m c) (h : Keep [] s s') : ModR s'.h m c := by
  obtain ⟨vg, va, vh, vf, e, h1, h2, h3, h4⟩ := k
  exact ⟨vg, va, vh, vf, e, h1.keep0 h, h2.keep0 h, h3.keep0 h, h4.keep0 FuncR.keep0 h⟩
theorem ModR.leaf {h : Tr Grp} {m : ModL} {c : List AV} (k : ModR h m c) : c.length = 4 ∧ c.all AV.leaf = true := by
  obtain ⟨vg, va, vh, vf, rfl, h1, h2, h3, css, h4, -⟩ := k
  exact ⟨rfl, by simp only [List.all_cons, List.all_nil, h1.leaf, h2.leaf, h3.leaf, h4.leaf]; rfl⟩
theorem build55 {m : Sy} {a b c d : AV} {x y z w : Operand} (ha : a.leaf = true) (hb : b.leaf = true) (hc : c.leaf = true) (hd : d.leaf = true) (hx : evY m x = some a := by rfl) (hy : evY m y = some b := by rfl) (hz : evY m z = some c := by rfl) (hw : evY m w = some d := by rfl) :
    pureY Tt m (.build 55 #[(0, x), (1, y), (2, z), (3, w)]) = some (.agg [a, b, c, d]) := by
  have e1 : evPartsY m [(0, x), (1, y), (2, z), (3, w)] = some [(0, a), (1, b), (2, c), (3, d)] := by simp only [evPartsY, hx, hy, hz, hw]
  have e2 : Tt 55 = some ⟨.struct [(0, 1, false), (1, 1, false), (2, 1, false), (3, 1, false)], 4, 96, [.nils, .nils, .nils, .nils], false⟩ := by rfl
  simp only [pureY, e2, e1]
  simp [fillA, AV.cells_leaf ha, AV.cells_leaf hb, AV.cells_leaf hc, AV.cells_leaf hd, over]
set_option maxRecDepth 10000 in
theorem lentModule_ok {s : St} {c : List AV} {mm : ModL} (hok : s.Ok) (hm : mm.small) (hv : ModR s.h mm c) :
    CallS Try.prog Tt Kt 27 [.agg c] s (fun r s' => Keep [] s s' ∧ ∃ c', r = .agg c' ∧ ModLF s'.h (Fr s.ctr s'.ctr []) mm c') := by
  have hz := hv.leaf.2
  obtain ⟨vg, va, vh, vf, rfl, hvg, hva, hvh, csf, hrf, hlf, hF⟩ := hv
  obtain ⟨hl1, hl3, hl2, hl4, hsm⟩ := hm
  refine call_of (fn := Try.f27) (nt := 53) Try.func27 rfl rfl rfl ?_
  repeat refine wc_seq ?_
  refine wc_region ?_
  refine w_box rfl rfl rfl hz hok ?_
  intro s1 hp1 hk1 hc1
  have hK := (Keep.refl hok).two hk1
  have hp : Pt s1.h (.ptr s.ctr 0 0) [vg, va, vh, vf] := hp1
  refine w_alloc rfl rfl rfl rfl hK.ok ?_
  intro s2 hq hk2 hc2
  have hK := hK.two hk2
  have hp := hp.keep0 hk2
  refine w_nil ?_
  refine then_n ?_
  repeat refine wc_seq ?_
  refine wc_region ?_
  refine w_val rfl rfl (op_pure rfl) ?_
  refine w_nil ?_
  refine then_n ?_
  repeat refine wc_seq ?_
  refine wc_region ?_
  refine w_val rfl rfl (op_pure rfl) ?_
  refine w_val rfl rfl (op_fld rfl rfl rfl rfl (by decide) (by assumption) (Nat.le_of_ble_eq_true rfl)) ?_
  refine w_val rfl rfl (op_load rfl rfl (Pt.fld (by assumption) _ (Nat.le_of_ble_eq_true rfl)) rfl) ?_
  refine w_append (cs := []) rfl rfl rfl rfl rfl rfl rfl rfl rfl (by decide) hK.ok (row_nils _ _) (fun _ => rfl) (hva.keep0 hK) (by simp only [List.length_map, List.length_nil, maxBytes]; omega) (by simp only [List.length_map, List.length_nil, maxBytes]; omega) ?_
  rintro a3 s3 ha3 hk3 - hg3 hn3 -
  rw [List.nil_append] at ha3
  have hc3 := hk3.ctr
  have hk3 : Keep [] s2 s3 := hk3
  have hK := hK.two hk3
  have hp := hp.keep0 hk3
  have hq := hq.keep0 hk3
  refine w_val rfl rfl (op_pure rfl) ?_
  refine w_nil ?_
  refine then_n ?_
  repeat refine wc_seq ?_
  refine wc_region ?_
  refine w_val rfl rfl (op_pure rfl) ?_
  refine w_val rfl rfl (op_pure rfl) ?_
  refine w_lit1 (c := [.int .i64 (-71), .int .u64 0]) rfl rfl rfl rfl rfl rfl rfl (by decide) (by decide) rfl rfl rfl hK.ok ?_
  rintro b4 s4 hb4 hk4 hc4 -
  have hK := hK.two hk4
  have hp := hp.keep0 hk4
  have hq := hq.keep0 hk4
  have ha3 := ha3.keep0 hk4
  have hg3' : ∀ g ∈ a3.gs, s2.ctr ≤ g := by
    intro g hg
    rcases hg3 with e | e
    · rw [e] at hg; cases hg
    · rw [e] at hg; rw [List.mem_singleton.1 hg]; exact Nat.le_refl _
  refine w_append rfl rfl rfl rfl rfl rfl rfl rfl rfl (by decide) hK.ok ha3 hn3 hb4 (by simp only [List.length_map, List.length_nil, List.length_cons, maxBytes]; omega) (by simp only [List.length_map, List.length_nil, List.length_cons, maxBytes]; omega) ?_
  rintro fa s5 hfa hk5 - hg5 - hne5
  have hc5 := hk5.ctr
  have hK := hK.fresh hk5 (fun g hg => by have := hg3' g hg; have := hK.ctr; omega)
  have hp := hp.keep hk5 (fun g hg h => by rw [List.mem_singleton.1 hg] at h; have := hg3' _ h; omega)
  have hq := hq.keep hk5 (fun g hg h => by rw [List.mem_singleton.1 hg] at h; have := hg3' _ h; omega)
  have hfne : fa.gs ≠ [] := hne5 (by simp)
  have hfl := hfa.lt hK.ok
  have hfg : ∀ g ∈ fa.gs, s2.ctr ≤ g := by
    intro g hg
    rcases hg5 with e | e
    · rw [e] at hg; exact hg3' g hg
    · rw [e] at hg; rw [List.mem_singleton.1 hg]; omega
  clear ha3 hn3 hg3 hb4 hg5 hne5
  refine w_val rfl rfl (op_pure rfl) ?_
  refine w_nil ?_
  refine then_n ?_
  repeat refine wc_seq ?_
  refine wc_region ?_
  refine w_val rfl rfl (op_pure rfl) ?_
  refine w_nil ?_
  refine then_n ?_
  repeat refine wc_seq ?_
  refine wc_region ?_
  refine w_val rfl rfl (op_pure rfl) ?_
  refine w_nil ?_
  refine then_n ?_
  repeat refine wc_seq ?_
  refine wc_block ?_
  refine wc_loop_at (fun j m s6 => ∃ (i : Nat) (f : AV), j = mm.funcs.length - i ∧ i ≤ mm.funcs.length ∧ m = [(1, .ptr s.ctr 0 0), (2, .ptr s1.ctr 0 0), (3, fa), (4, f), (5, .int .i64 (i : Nat))] ∧ Keep [] s s6 ∧ s5.ctr ≤ s6.ctr ∧ Pt s6.h (.ptr s.ctr 0 0) [vg, va, vh, vf] ∧ Pt s6.h (.ptr s1.ctr 0 0) [.nils, .nils, .nils, .nils] ∧
      Row s6.h 2 fa (mm.arrays.map aC ++ [[.int .i64 (-71), .int .u64 0]]) ∧ Bld s5.ctr s6.ctr s6 6 FuncLF f (mm.funcs.take i)) mm.funcs.length
    [(1, .ptr s.ctr 0 0), (2, .ptr s1.ctr 0 0), (3, fa), (4, .nils), (5, .int .i64 ((0 : Nat) : Int))] (Sub.cons rfl (Sub.cons rfl (Sub.cons rfl (Sub.cons rfl (Sub.cons rfl (Sub.nil _))))))
    ⟨0, .nils, by simp, by simp, rfl, hK, Nat.le_refl _, hp, hq, hfa, Bld.nil⟩ ?_
  clear hK hp hq hfa
  rintro j m s6 ⟨i, f, rfl, hi, rfl, hK, hc6, hp, hq, hfa, hB⟩
  have hsf : vf.slen = some mm.funcs.length := hrf.slen.trans (congrArg some hlf)
  repeat refine wc_seq ?_
  refine wc_region ?_
  refine w_val rfl rfl (op_pure rfl) ?_
  refine w_val rfl rfl (op_fld rfl rfl rfl rfl (by decide) (by assumption) (Nat.le_of_ble_eq_true rfl)) ?_
  refine w_val rfl rfl (op_load rfl rfl (Pt.fld (by assumption) _ (Nat.le_of_ble_eq_true rfl)) rfl) ?_
  refine w_val rfl rfl (op_len rfl rfl rfl rfl rfl (by assumption)) ?_
  refine w_val rfl rfl (op_pure rfl) ?_
  refine w_nil ?_
  refine then_n ?_
  repeat refine wc_seq ?_
  refine wc_condT rfl (fun h19 => ?_) (fun h19 => ?_)
  · simp at h19
    refine wc_skip ?_
    refine then_n ?_
    repeat refine wc_seq ?_
    refine wc_block ?_
    repeat refine wc_seq ?_
    obtain ⟨x, hx⟩ : ∃ x, mm.funcs[i]? = some x := ⟨_, List.getElem?_eq_getElem h19⟩
    obtain ⟨cx, hcx⟩ : ∃ c, csf[i]? = some c := ⟨_, List.getElem?_eq_getElem (by omega)⟩
    have hfx := hF i x cx hx hcx
    have hsx := hsm x (List.mem_of_getElem? hx)
    have hcl := hfx.leaf
    obtain ⟨y0, y1, y2, y3, y4, y5, rfl⟩ : ∃ y0 y1 y2 y3 y4 y5, cx = [y0, y1, y2, y3, y4, y5] := by
      obtain ⟨w1, w2, w3, e, -⟩ := hfx
      exact ⟨_, _, _, _, _, _, e⟩
    refine wc_region ?_
    refine w_val rfl rfl (op_fld rfl rfl rfl rfl (by decide) (by assumption) (Nat.le_of_ble_eq_true rfl)) ?_
    refine w_val rfl rfl (op_load rfl rfl (Pt.fld (by assumption) _ (Nat.le_of_ble_eq_true rfl)) rfl) ?_
    refine w_val rfl rfl (op_pure rfl) ?_
    refine w_val rfl rfl (op_idx rfl rfl (natA_cast _ _) rfl rfl rfl rfl (Row.keep0 (by assumption) hK) (by omega)) ?_
    refine w_val rfl rfl (op_load rfl rfl (Pt.keep0 (Row.pt (by assumption) (by assumption)) hK) rfl) ?_
    refine w_call rfl rfl (op_call rfl rfl rfl rfl) (lentFunction_ok hK.ok hsx (hfx.keep0 hK)) ?_
    rintro r7 s7 ⟨hk7, c7, rfl, hf7⟩
    have hc7 := hk7.ctr
    have hK := hK.two hk7
    have hp := hp.keep0 hk7
    have hq := hq.keep0 hk7
    have hfa := hfa.keep0 hk7
    have hB := hB.keep good_func hk7 (fun g hg => by cases hg)
    have hl7 := (FuncLR.to x c7 (hf7.to x c7)).leaf
    refine w_alloc rfl rfl rfl rfl hK.ok ?_
    intro s8 hv hk8 hc8
    have hK := hK.two hk8
    have hp := hp.keep0 hk8
    have hq := hq.keep0 hk8
    have hfa := hfa.keep0 hk8
    have hB := hB.keep good_func hk8 (fun g hg => by cases hg)
    have hf7 := good_func.keep hf7 hk8 (fun g hg => by cases hg)
    refine w_store_all rfl rfl rfl rfl hl7.1 (by rw [show (AV.agg c7).cells = c7 from rfl, hl7.1]; rfl) hl7.2 hK.ok hv (by simp [AV.gs]) ?_
    intro s9 hv hk9 hc9
    have hv : Pt s9.h (.ptr s7.ctr 0 0) c7 := hv
    have hK := hK.fresh hk9 (fun g hg => by rw [List.mem_singleton.1 hg]; have := hK.ctr; omega)
    have hp := hp.keep hk9 (fun g hg h => by rw [List.mem_singleton.1 hg] at h; have := List.mem_singleton.1 h; omega)
    have hq := hq.keep hk9 (fun g hg h => by rw [List.mem_singleton.1 hg] at h; have := List.mem_singleton.1 h; omega)
    have hfa := hfa.keep hk9 (fun g hg h => by have := List.mem_singleton.1 h; have := hfl g hg; omega)
    have hB := hB.keep good_func hk9 (fun g hg => by rw [List.mem_singleton.1 hg]; omega)
    have hf7 := good_func.keep hf7 hk9 (fun g hg h => by rw [List.mem_singleton.1 hg] at h; have := h.2.1; omega)
    obtain ⟨z0, z1, z2, z3, z4, z5, rfl⟩ : ∃ z0 z1 z2 z3 z4 z5, c7 = [z0, z1, z2, z3, z4, z5] := by
      obtain ⟨w1, w2, w3, e, -⟩ := hf7
      exact ⟨_, _, _, _, _, _, e⟩
    refine w_nil ?_
    refine then_n ?_
    refine wc_region ?_
    refine w_val rfl rfl (op_pure rfl) ?_
    refine w_val rfl rfl (op_load rfl rfl (by assumption) rfl) ?_
    refine w_lit1 (c := [z0, z1, z2, z3, z4, z5]) rfl rfl rfl rfl rfl rfl rfl (by decide) (by decide) rfl hl7.2 rfl hK.ok ?_
    rintro b10 s10 hb10 hk10 hc10 -
    have hK := hK.two hk10
    have hp := hp.keep0 hk10
    have hq := hq.keep0 hk10
    have hfa := hfa.keep0 hk10
    have hB := hB.keep good_func hk10 (fun g hg => by cases hg)
    have hf7 := good_func.keep hf7 hk10 (fun g hg => by cases hg)
    have hBg := hB.gs
    refine w_app_bld good_func (z := x) (sz := 6) rfl rfl rfl rfl rfl rfl rfl rfl rfl (by decide) rfl hK.ok hB (by omega) (by omega) hb10 (good_func.mono hf7 fun g ⟨q1, q2, _⟩ => ⟨by omega, by omega, fun h => by have := (hBg g h).2; omega⟩) (by simp only [List.length_take, maxBytes]; omega) (by simp only [List.length_take, maxBytes]; omega) ?_
    rintro f11 s11 hB11 hk11 -
    have hc11 := hk11.ctr
    rw [take_snoc hx] at hB11
    have hK := hK.fresh hk11 (fun g hg => by have := (hBg g hg).1; omega)
    have hp := hp.keep hk11 (fun g hg h => by rw [List.mem_singleton.1 hg] at h; have := (hBg _ h).1; omega)
    have hq := hq.keep hk11 (fun g hg h => by rw [List.mem_singleton.1 hg] at h; have := (hBg _ h).1; omega)
    have hfa := hfa.keep hk11 (fun g hg h => by have := (hBg _ h).1; have := hfl g hg; omega)
    refine w_val rfl rfl (op_pure rfl) ?_
    refine w_nil ?_
    refine out_n ?_
    refine then_n ?_
    refine wc_region ?_
    refine w_val rfl rfl (op_pure rfl) ?_
    refine w_val rfl rfl (op_add rfl rfl (by unfold In64; omega)) ?_
    refine w_val rfl rfl (op_pure rfl) ?_
    refine w_nil ?_
    exact round_n _ _ (by omega) (Sub.cons rfl (Sub.cons rfl (Sub.cons rfl (Sub.cons rfl (Sub.cons rfl (Sub.nil _)))))) ⟨i + 1, f11, rfl, by omega, rfl, hK, by omega, hp, hq, hfa, hB11⟩
  simp at h19
  obtain rfl : i = mm.funcs.length := by omega
  rw [List.take_length] at hB
  refine wc_exit ?_
  repeat first | refine then_x ?_ | refine round_x ?_ | refine cut_x ?_ | refine out_x' (by decide) ?_
  refine out_x ?_
  refine then_n ?_
  repeat refine wc_seq ?_
  refine wc_region ?_
  refine w_val rfl rfl (op_pure rfl) ?_
  refine w_val rfl rfl (op_pure rfl) ?_
  refine w_lit1 (c := [.int .u64 0, .nils, .nils, .int .i64 0, .int .i64 (-71), .nils]) rfl rfl rfl rfl rfl rfl rfl (by decide) (by decide) rfl rfl rfl hK.ok ?_
  rintro b7 s7 hb7 hk7 hc7 -
  have hK := hK.two hk7
  have hp := hp.keep0 hk7
  have hq := hq.keep0 hk7
  have hfa := hfa.keep0 hk7
  have hB := hB.keep good_func hk7 (fun g hg => by cases hg)
  have hBg := hB.gs
  refine w_app_mark good_func (sz := 6) rfl rfl rfl rfl rfl rfl rfl rfl rfl (by decide) rfl hK.ok hB (by omega) (by omega) hb7 (by simp only [maxBytes]; omega) (by simp only [maxBytes]; omega) ?_
  rintro f8 s8 cs8 hr8 hl8 hL8 hk8
  have hc8 := hk8.ctr
  have hK := hK.fresh hk8 (fun g hg => by have := (hBg g hg).1; omega)
  have hp := hp.keep hk8 (fun g hg h => by rw [List.mem_singleton.1 hg] at h; have := (hBg _ h).1; omega)
  have hq := hq.keep hk8 (fun g hg h => by rw [List.mem_singleton.1 hg] at h; have := (hBg _ h).1; omega)
  have hfa := hfa.keep hk8 (fun g hg h => by have := (hBg _ h).1; have := hfl g hg; omega)
  have hsv : va.slen = some mm.arrays.length := hva.slenF
  have hfn : ∀ g j o, fa ≠ .ptr g j o := fun g j o e => by rw [e] at hfa; exact hfa.elim
  have hfn8 : ∀ g j o, f8 ≠ .ptr g j o := fun g j o e => by rw [e] at hr8; exact hr8.elim
  have hfc : (cutA fa 0 mm.arrays.length).leaf = true := (hfa.less (by simp)).leaf
  have hfc8 : (cutA f8 0 mm.funcs.length).leaf = true := (hr8.less hl8).leaf
  clear hB
  refine w_val rfl rfl (op_pure rfl) ?_
  refine w_nil ?_
  refine then_n ?_
  repeat refine wc_seq ?_
  have hR := Keep.refl (s := s8) (hK.ok)
  refine wc_draw (Old s8 [s1.ctr]) (by kernel_rfl) rfl ?_
  refine wo_val (fun _ => rfl) rfl rfl (op_fld rfl rfl rfl rfl (by decide) (by assumption) (Nat.le_of_ble_eq_true rfl)) ?_
  refine wo_load hR rfl rfl (by assumption) rfl (by intro g hg h; have e1 := List.mem_singleton.1 hg; have e2 := List.mem_singleton.1 h; omega) rfl rfl ?_
  refine wo_call hR rfl rfl (fun _ => rfl) (op_call rfl rfl rfl rfl) (lentLabels_ok hR.ok hl1 (hvg.keep0 (hK.two hR)).bare) (fun _ _ h => h.1) ?_
  rintro vg' s9 ⟨hk9, hg9⟩ hR
  have hg9 : LentF (s9.join s8).h (Fr s8.ctr (s9.join s8).ctr []) 1 lC [.int .u64 7171] vg' mm.globals := hg9
  have hk9 : Keep [] s8 (s9.join s8) := hk9.joined
  generalize s9.join s8 = t9 at hg9 hk9 hR ⊢
  have hc9 := hk9.ctr
  refine wo_val (fun _ => rfl) rfl rfl (op_pure rfl) ?_
  refine wo_val (fun _ => rfl) rfl rfl (op_fld rfl rfl rfl rfl (by decide) (Pt.bare (Pt.keep0 (by assumption) hR)) (Nat.le_of_ble_eq_true rfl)) ?_
  refine wo_load hR rfl rfl (Pt.fld (by assumption) _ (Nat.le_of_ble_eq_true rfl)) rfl (by intro g hg h; have e1 := List.mem_singleton.1 hg; have e2 := List.mem_singleton.1 h; omega) rfl rfl ?_
  refine wo_val (fun _ => rfl) rfl rfl (op_len rfl rfl rfl rfl rfl (by assumption)) ?_
  refine wo_slice rfl hfn rfl rfl (op_cut (l := none) (h := some mm.arrays.length) (l' := 0) (h' := mm.arrays.length) rfl rfl (optY_some rfl (natA_cast _ _)) rfl rfl rfl rfl (hfa.keep0 hR).bare rfl rfl (Nat.zero_le _) (by simp)) ?_
  refine wo_val (fun _ => rfl) rfl rfl (op_fld rfl rfl rfl rfl (by decide) (Pt.bare (Pt.keep0 (by assumption) hR)) (Nat.le_of_ble_eq_true rfl)) ?_
  refine wo_load hR rfl rfl (Pt.fld (by assumption) _ (Nat.le_of_ble_eq_true rfl)) rfl (by intro g hg h; have e1 := List.mem_singleton.1 hg; have e2 := List.mem_singleton.1 h; omega) rfl rfl ?_
  refine wo_call hR rfl rfl (fun _ => rfl) (op_call rfl rfl rfl rfl) (lentLabels_ok hR.ok hl2 (hvh.keep0 (hK.two hR)).bare) (fun _ _ h => h.1) ?_
  rintro vh' s10 ⟨hk10, hg10⟩ hR
  have hg10 : LentF (s10.join t9).h (Fr t9.ctr (s10.join t9).ctr []) 1 lC [.int .u64 7171] vh' mm.channels := hg10
  have hk10 : Keep [] t9 (s10.join t9) := hk10.joined
  generalize s10.join t9 = t10 at hg10 hk10 hR ⊢
  have hc10 := hk10.ctr
  have hg9 := hg9.keep hk10 (by intro g hg; cases hg)
  refine wo_val (fun _ => rfl) rfl rfl (op_pure rfl) ?_
  refine wo_val (fun _ => rfl) rfl rfl (op_fld rfl rfl rfl rfl (by decide) (Pt.bare (Pt.keep0 (by assumption) hR)) (Nat.le_of_ble_eq_true rfl)) ?_
  refine wo_load hR rfl rfl (Pt.fld (by assumption) _ (Nat.le_of_ble_eq_true rfl)) rfl (by intro g hg h; have e1 := List.mem_singleton.1 hg; have e2 := List.mem_singleton.1 h; omega) rfl rfl ?_
  refine wo_val (fun _ => rfl) rfl rfl (op_len rfl rfl rfl rfl rfl (by assumption)) ?_
  refine wo_slice rfl hfn8 rfl rfl (op_cut (l := none) (h := some mm.funcs.length) (l' := 0) (h' := mm.funcs.length) rfl rfl (optY_some rfl (natA_cast _ _)) rfl rfl rfl rfl (hr8.keep0 hR).bare rfl rfl (Nat.zero_le _) (by simp; omega)) ?_
  refine wo_val (fun _ => rfl) rfl rfl (op_pure (build55 hg9.1.leaf hfc hg10.1.leaf hfc8)) ?_
  have hz' : ([vg', cutA fa 0 mm.arrays.length, vh', cutA f8 0 mm.funcs.length] : List AV).all AV.leaf = true := by
    simp only [List.all_cons, List.all_nil, hg9.1.leaf, hfc, hg10.1.leaf, hfc8]; rfl
  refine wo_store_all (p := .ptr s1.ctr 0 0) hR (fun g hg => hg) rfl rfl rfl rfl rfl (by rfl) hz' (hq.keep0 hR) (by simp [AV.gs]) ?_
  intro s11 hq' hk11 hc11
  have hq : Pt s11.h (.ptr s1.ctr 0 0) [vg', cutA fa 0 mm.arrays.length, vh', cutA f8 0 mm.funcs.length] := hq'
  have hK := (hK.two hR).fresh hk11 (fun g hg => by rw [List.mem_singleton.1 hg]; omega)
  have hd : ∀ {F : Nat → Prop}, (∀ g, F g → s1.ctr < g) → ∀ g ∈ (AV.ptr s1.ctr 0 0).gs, ¬ F g := fun h g hg hF => by rw [List.mem_singleton.1 hg] at hF; have := h _ hF; omega
  have hg9 := (hg9.keep hk11 (hd fun g h => by have := h.1; omega)).mono (F' := Fr s.ctr s11.ctr []) fun g ⟨q1, q2, _⟩ => ⟨by omega, by omega, fun h => by cases h⟩
  have hg10 := (hg10.keep hk11 (hd fun g h => by have := h.1; omega)).mono (F' := Fr s.ctr s11.ctr []) fun g ⟨q1, q2, _⟩ => ⟨by omega, by omega, fun h => by cases h⟩
  have hL8 := ((hL8.keep good_func hR (fun g hg => by cases hg)).keep good_func hk11 (hd fun g h => by have := h.1; omega)).mono (F' := Fr s.ctr s11.ctr []) good_func fun g ⟨q1, q2, _⟩ => ⟨by omega, by omega, fun h => by cases h⟩
  have hA8 : LentF s11.h (Fr s.ctr s11.ctr []) 2 aC [.int .i64 (-71), .int .u64 0] (cutA fa 0 mm.arrays.length) mm.arrays := by
    have h1 := (hfa.keep0 hR).keep hk11 (fun g hg h => by have := List.mem_singleton.1 h; have := hfg g hg; omega)
    refine ⟨⟨fa, rfl, hfne, h1⟩, ?_⟩
    rw [cutA_gs]
    exact fun g hg => ⟨by have := hfg g hg; omega, by have := hfl g hg; omega, fun h => by cases h⟩
  refine wd_nil ?_
  refine then_n ?_
  refine wc_ret ?_
  repeat first | refine then_r ?_ | refine out_r ?_ | refine round_r ?_ | refine cut_r ?_
  exact ⟨_, res_cell rfl rfl hq rfl, hK, _, rfl, _, _, _, _, rfl, hg9, hA8, hg10, hL8⟩
set_option maxRecDepth 10000 in
theorem module_same {s : St} {ca cb : List AV} {mm : ModL} (hok : s.Ok) (hm : mm.small) (hva : ModR s.h mm ca) (hvb : ModR s.h mm cb) :
    CallS Try.prog Tt Kt 30 [.agg ca, .agg cb] s (fun v s' => Keep [] s s' ∧ v = .bool true) := by
  have hza := hva.leaf.2
  have hzb := hvb.leaf.2
  obtain ⟨vga, vaa, vha, vfa, rfl, hga, haa, hha, hfa⟩ := hva
  obtain ⟨vgb, vab, vhb, vfb, rfl, hgb, hab, hhb, hfb⟩ := hvb
  obtain ⟨hl1, hl3, hl2, hl4, hsm⟩ := hm
  refine call_of (fn := Try.f30) (nt := 76) Try.func30 rfl rfl rfl ?_
  repeat refine wc_seq ?_
  refine wc_region ?_
  refine w_box rfl rfl rfl hza hok ?_
  intro s1 hp1 hk1 hc1
  have hK := (Keep.refl hok).two hk1
  have hpa : Pt s1.h (.ptr s.ctr 0 0) [vga, vaa, vha, vfa] := hp1
  clear hp1
  refine w_box rfl rfl rfl hzb hK.ok ?_
  intro s2 hp2 hk2 hc2
  have hK := hK.two hk2
  have hpa := hpa.keep0 hk2
  have hpb : Pt s2.h (.ptr s1.ctr 0 0) [vgb, vab, vhb, vfb] := hp2
  clear hp2
  have hK0 := hK
  have hK := Keep.refl hK0.ok
  have hga := hga.keep0 hK0
  have hha := hha.keep0 hK0
  have hraa := haa.keep0 hK0
  obtain ⟨csf, hrfa, hlf, hF⟩ := hfa
  have hrfa := hrfa.keep0 hK0
  have hsfa : vfa.slen = some mm.funcs.length := hrfa.slen.trans (congrArg some hlf)
  have hgb := hgb.keep0 hK0
  have hhb := hhb.keep0 hK0
  have hab := hab.keep0 hK0
  obtain ⟨csb, hrfb, hlb, hFb⟩ := hfb
  have hrfb := hrfb.keep0 hK0
  have hsfb : vfb.slen = some mm.funcs.length := hrfb.slen.trans (congrArg some hlb)
  refine w_val rfl rfl (op_pure rfl) ?_
  refine w_nil ?_
  refine then_n ?_
  repeat refine wc_seq ?_
  refine wc_region ?_
  refine w_val rfl rfl (op_fld rfl rfl rfl rfl (by decide) (by assumption) (Nat.le_of_ble_eq_true rfl)) ?_
  refine w_val rfl rfl (op_load rfl rfl (by assumption) rfl) ?_
  refine w_val rfl rfl (op_fld rfl rfl rfl rfl (by decide) (by assumption) (Nat.le_of_ble_eq_true rfl)) ?_
  refine w_val rfl rfl (op_load rfl rfl (by assumption) rfl) ?_
  refine w_call rfl rfl (op_call rfl rfl rfl rfl) (labels_same hl1 hga hgb) ?_
  rintro _ sX ⟨eX, rfl⟩
  obtain rfl := eX.symm
  refine w_val rfl rfl (op_pure rfl) ?_
  refine w_val rfl rfl (op_pure rfl) ?_
  refine w_val rfl rfl (op_fld rfl rfl rfl rfl (by decide) (by assumption) (Nat.le_of_ble_eq_true rfl)) ?_
  refine w_val rfl rfl (op_load rfl rfl (Pt.fld (by assumption) _ (Nat.le_of_ble_eq_true rfl)) rfl) ?_
  refine w_val rfl rfl (op_fld rfl rfl rfl rfl (by decide) (by assumption) (Nat.le_of_ble_eq_true rfl)) ?_
  refine w_val rfl rfl (op_load rfl rfl (Pt.fld (by assumption) _ (Nat.le_of_ble_eq_true rfl)) rfl) ?_
  refine w_call rfl rfl (op_call rfl rfl rfl rfl) (labels_same hl2 hha hhb) ?_
  rintro _ sX ⟨eX, rfl⟩
  obtain rfl := eX.symm
  refine w_val rfl rfl (op_pure rfl) ?_
  refine w_val rfl rfl (op_pure rfl) ?_
  refine w_val rfl rfl (op_pure rfl) ?_
  refine w_val rfl rfl (op_fld rfl rfl rfl rfl (by decide) (by assumption) (Nat.le_of_ble_eq_true rfl)) ?_
  refine w_val rfl rfl (op_load rfl rfl (Pt.fld (by assumption) _ (Nat.le_of_ble_eq_true rfl)) rfl) ?_
  refine w_val rfl rfl (op_len rfl rfl rfl rfl rfl (Row.slenF (by assumption))) ?_
  refine w_val rfl rfl (op_fld rfl rfl rfl rfl (by decide) (by assumption) (Nat.le_of_ble_eq_true rfl)) ?_
  refine w_val rfl rfl (op_load rfl rfl (Pt.fld (by assumption) _ (Nat.le_of_ble_eq_true rfl)) rfl) ?_
  refine w_val rfl rfl (op_len rfl rfl rfl rfl rfl (Row.slenF (by assumption))) ?_
  refine w_val rfl rfl (op_pure rfl) ?_
  refine w_val rfl rfl (op_pure rfl) ?_
  refine w_val rfl rfl (op_pure rfl) ?_
  refine w_split (i := 30) rfl (fun h30 => ?_) (fun h30 => ?_)
  · simp at h30
  clear h30
  refine w_val rfl rfl (op_fld rfl rfl rfl rfl (by decide) (by assumption) (Nat.le_of_ble_eq_true rfl)) ?_
  refine w_val rfl rfl (op_load rfl rfl (Pt.fld (by assumption) _ (Nat.le_of_ble_eq_true rfl)) rfl) ?_
  refine w_val rfl rfl (op_len rfl rfl rfl rfl rfl (by assumption)) ?_
  refine w_val rfl rfl (op_fld rfl rfl rfl rfl (by decide) (by assumption) (Nat.le_of_ble_eq_true rfl)) ?_
  refine w_val rfl rfl (op_load rfl rfl (Pt.fld (by assumption) _ (Nat.le_of_ble_eq_true rfl)) rfl) ?_
  refine w_val rfl rfl (op_len rfl rfl rfl rfl rfl (by assumption)) ?_
  refine w_val rfl rfl (op_pure rfl) ?_
  refine w_val rfl rfl (op_pure rfl) ?_
  refine w_nil ?_
  refine then_n ?_
  repeat refine wc_seq ?_
  refine wc_condT rfl (fun h38 => ?_) (fun h38 => ?_)
  · simp at h38
  clear h38
  refine wc_skip ?_
  refine then_n ?_
  repeat refine wc_seq ?_
  refine wc_region ?_
  refine w_val rfl rfl (op_pure rfl) ?_
  refine w_nil ?_
  refine then_n ?_
  repeat refine wc_seq ?_
  refine wc_block ?_
  refine wc_loop_at (fun j m s' => ∃ i : Nat, j = mm.arrays.length - i ∧ i ≤ mm.arrays.length ∧ s' = s2 ∧ m = [(2, .ptr s.ctr 0 0), (3, .ptr s1.ctr 0 0), (5, .int .i64 (i : Nat))]) mm.arrays.length
    [(2, .ptr s.ctr 0 0), (3, .ptr s1.ctr 0 0), (5, .int .i64 ((0 : Nat) : Int))] (Sub.cons rfl (Sub.cons rfl (Sub.cons rfl (Sub.nil _)))) ⟨0, by simp, by simp, rfl, rfl⟩ ?_
  rintro j m sX ⟨i, rfl, hi, eX, rfl⟩
  obtain rfl := eX.symm
  repeat refine wc_seq ?_
  refine wc_region ?_
  refine w_val rfl rfl (op_pure rfl) ?_
  refine w_val rfl rfl (op_fld rfl rfl rfl rfl (by decide) (by assumption) (Nat.le_of_ble_eq_true rfl)) ?_
  refine w_val rfl rfl (op_load rfl rfl (Pt.fld (by assumption) _ (Nat.le_of_ble_eq_true rfl)) rfl) ?_
  refine w_val rfl rfl (op_len rfl rfl rfl rfl rfl (Row.slenF (by assumption))) ?_
  refine w_val rfl rfl (op_pure rfl) ?_
  refine w_nil ?_
  refine then_n ?_
  repeat refine wc_seq ?_
  refine wc_condT rfl (fun h43 => ?_) (fun h43 => ?_)
  · simp at h43
    refine wc_skip ?_
    refine then_n ?_
    repeat refine wc_seq ?_
    refine wc_block ?_
    repeat refine wc_seq ?_
    obtain ⟨x, hx⟩ : ∃ x, mm.arrays[i]? = some x := ⟨_, List.getElem?_eq_getElem h43⟩
    refine wc_draw (fun _ => True) (by kernel_rfl) rfl ?_
    refine wd_val (fun _ => trivial) rfl rfl (op_fld rfl rfl rfl rfl (by decide) (by assumption) (Nat.le_of_ble_eq_true rfl)) ?_
    refine wd_val (fun _ => trivial) rfl rfl (op_load rfl rfl (Pt.fld (by assumption) _ (Nat.le_of_ble_eq_true rfl)) rfl) ?_
    refine wd_val (fun _ => trivial) rfl rfl (op_pure rfl) ?_
    refine wd_val (fun _ => trivial) rfl rfl (op_idxF rfl rfl (natA_cast _ _) rfl rfl rfl rfl (by assumption) (by omega)) ?_
    refine wd_val (fun _ => trivial) rfl rfl (op_load rfl rfl (Row.mk_pt (by assumption) (by assumption)) rfl) ?_
    refine wd_val (fun _ => trivial) rfl rfl (op_fld rfl rfl rfl rfl (by decide) (by assumption) (Nat.le_of_ble_eq_true rfl)) ?_
    refine wd_val (fun _ => trivial) rfl rfl (op_load rfl rfl (Pt.fld (by assumption) _ (Nat.le_of_ble_eq_true rfl)) rfl) ?_
    refine wd_val (fun _ => trivial) rfl rfl (op_pure rfl) ?_
    refine wd_val (fun _ => trivial) rfl rfl (op_idxF rfl rfl (natA_cast _ _) rfl rfl rfl rfl (by assumption) (by omega)) ?_
    refine wd_val (fun _ => trivial) rfl rfl (op_load rfl rfl (Row.mk_pt (by assumption) (by assumption)) rfl) ?_
    refine wd_val (fun _ => trivial) rfl rfl (op_pure rfl) ?_
    refine wd_nil ?_
    refine then_n ?_
    refine wc_condT rfl (fun h56 => ?_) (fun h56 => ?_)
    · simp at h56
    clear h56
    refine wc_skip ?_
    refine out_n ?_
    refine then_n ?_
    refine wc_region ?_
    refine w_val rfl rfl (op_pure rfl) ?_
    refine w_val rfl rfl (op_add rfl rfl (by unfold In64; omega)) ?_
    refine w_val rfl rfl (op_pure rfl) ?_
    refine w_nil ?_
    exact round_n _ _ (by omega) (Sub.cons rfl (Sub.cons rfl (Sub.cons rfl (Sub.nil _)))) ⟨i + 1, rfl, by omega, rfl, rfl⟩
  simp at h43
  refine wc_exit ?_
  repeat first | refine then_x ?_ | refine round_x ?_ | refine cut_x ?_ | refine out_x' (by decide) ?_
  refine out_x ?_
  refine then_n ?_
  repeat refine wc_seq ?_
  refine wc_region ?_
  refine w_val rfl rfl (op_pure rfl) ?_
  refine w_nil ?_
  refine then_n ?_
  repeat refine wc_seq ?_
  refine wc_block ?_
  refine wc_loop_at (fun j m s' => ∃ i : Nat, j = mm.funcs.length - i ∧ i ≤ mm.funcs.length ∧ Keep [] s2 s' ∧ m = [(2, .ptr s.ctr 0 0), (3, .ptr s1.ctr 0 0), (6, .int .i64 (i : Nat))]) mm.funcs.length
    [(2, .ptr s.ctr 0 0), (3, .ptr s1.ctr 0 0), (6, .int .i64 ((0 : Nat) : Int))] (Sub.cons rfl (Sub.cons rfl (Sub.cons rfl (Sub.nil _)))) ⟨0, by simp, by simp, hK, rfl⟩ ?_
  clear hK
  rintro j m s3 ⟨i, rfl, hi, hK, rfl⟩
  repeat refine wc_seq ?_
  refine wc_region ?_
  refine w_val rfl rfl (op_pure rfl) ?_
  refine w_val rfl rfl (op_fld rfl rfl rfl rfl (by decide) (Pt.keep0 (by assumption) hK) (Nat.le_of_ble_eq_true rfl)) ?_
  refine w_val rfl rfl (op_load rfl rfl (Pt.fld (Pt.keep0 (by assumption) hK) _ (Nat.le_of_ble_eq_true rfl)) rfl) ?_
  refine w_val rfl rfl (op_len rfl rfl rfl rfl rfl (by assumption)) ?_
  refine w_val rfl rfl (op_pure rfl) ?_
  refine w_nil ?_
  refine then_n ?_
  repeat refine wc_seq ?_
  refine wc_condT rfl (fun h61 => ?_) (fun h61 => ?_)
  · simp at h61
    refine wc_skip ?_
    refine then_n ?_
    repeat refine wc_seq ?_
    refine wc_block ?_
    repeat refine wc_seq ?_
    obtain ⟨x, hx⟩ : ∃ x, mm.funcs[i]? = some x := ⟨_, List.getElem?_eq_getElem h61⟩
    obtain ⟨ca, hca⟩ : ∃ c, csf[i]? = some c := ⟨_, List.getElem?_eq_getElem (by omega)⟩
    obtain ⟨cb, hcb⟩ : ∃ c, csb[i]? = some c := ⟨_, List.getElem?_eq_getElem (by omega)⟩
    have hfa := hF i x ca hx hca
    have hfb := hFb i x cb hx hcb
    have hsx := hsm x (List.mem_of_getElem? hx)
    obtain ⟨y0, y1, y2, y3, y4, y5, rfl⟩ : ∃ y0 y1 y2 y3 y4 y5, ca = [y0, y1, y2, y3, y4, y5] := by
      obtain ⟨w1, w2, w3, e, -⟩ := hfa
      exact ⟨_, _, _, _, _, _, e⟩
    obtain ⟨z0, z1, z2, z3, z4, z5, rfl⟩ : ∃ y0 y1 y2 y3 y4 y5, cb = [y0, y1, y2, y3, y4, y5] := by
      obtain ⟨w1, w2, w3, e, -⟩ := hfb
      exact ⟨_, _, _, _, _, _, e⟩
    have hpa3 := hpa.keep0 hK
    have hpb3 := hpb.keep0 hK
    have hrfa3 := hrfa.keep0 hK
    have hrfb3 := hrfb.keep0 hK
    have hR := Keep.refl (s := s3) (hK.ok)
    refine wc_draw (Old s3 []) (by kernel_rfl) rfl ?_
    refine wo_val (fun _ => rfl) rfl rfl (op_fld rfl rfl rfl rfl (by decide) (by assumption) (Nat.le_of_ble_eq_true rfl)) ?_
    refine wo_load hR rfl rfl (Pt.fld (by assumption) _ (Nat.le_of_ble_eq_true rfl)) rfl (fun _ _ h => by cases h) rfl rfl ?_
    refine wo_val (fun _ => rfl) rfl rfl (op_pure rfl) ?_
    refine wo_val (fun _ => rfl) rfl rfl (op_idx rfl rfl (natA_cast _ _) rfl rfl rfl rfl (by assumption) (by omega)) ?_
    refine wo_load hR rfl rfl (Row.pt (by assumption) (by assumption)) rfl (fun _ _ h => by cases h) rfl rfl ?_
    refine wo_val (fun _ => rfl) rfl rfl (op_fld rfl rfl rfl rfl (by decide) (by assumption) (Nat.le_of_ble_eq_true rfl)) ?_
    refine wo_load hR rfl rfl (Pt.fld (by assumption) _ (Nat.le_of_ble_eq_true rfl)) rfl (fun _ _ h => by cases h) rfl rfl ?_
    refine wo_val (fun _ => rfl) rfl rfl (op_pure rfl) ?_
    refine wo_val (fun _ => rfl) rfl rfl (op_idx rfl rfl (natA_cast _ _) rfl rfl rfl rfl (by assumption) (by omega)) ?_
    refine wo_load hR rfl rfl (Row.pt (by assumption) (by assumption)) rfl (fun _ _ h => by cases h) rfl rfl ?_
    refine wo_call hR rfl rfl (fun _ => rfl) (op_call rfl rfl rfl rfl) (function_same hR.ok hsx (hfa.keep0 (hK0.two (hK.two hR))).bare (hfb.keep0 (hK0.two (hK.two hR))).bare) (fun _ _ h => h.1) ?_
    rintro _ s4 ⟨hk4, rfl⟩ hR
    have hK := hK.two hR
    refine wo_val (fun _ => rfl) rfl rfl (op_pure rfl) ?_
    refine wd_nil ?_
    refine then_n ?_
    refine wc_cond_f rfl ?_
    refine wc_skip ?_
    refine out_n ?_
    refine then_n ?_
    refine wc_region ?_
    refine w_val rfl rfl (op_pure rfl) ?_
    refine w_val rfl rfl (op_add rfl rfl (by unfold In64; omega)) ?_
    refine w_val rfl rfl (op_pure rfl) ?_
    refine w_nil ?_
    exact round_n _ _ (by omega) (Sub.cons rfl (Sub.cons rfl (Sub.cons rfl (Sub.nil _)))) ⟨i + 1, rfl, by omega, hK, rfl⟩
  simp at h61
  refine wc_exit ?_
  repeat first | refine then_x ?_ | refine round_x ?_ | refine cut_x ?_ | refine out_x' (by decide) ?_
  refine out_x ?_
  refine then_n ?_
  repeat refine wc_seq ?_
  refine wc_region ?_
  refine w_val rfl rfl (op_pure rfl) ?_
  refine w_nil ?_
  refine then_n ?_
  refine wc_ret ?_
  repeat first | refine then_r ?_ | refine out_r ?_ | refine round_r ?_ | refine cut_r ?_
  exact ⟨_, rfl, hK0.two hK, rfl⟩
set_option maxRecDepth 10000 in
theorem keptModule_ok {s : St} {ca cb : List AV} {mm : ModL} (hok : s.Ok) (hm : mm.small) (hva : ModLR s.h mm ca) (hvb : ModR s.h mm cb) :
    CallS Try.prog Tt Kt 31 [.agg ca, .agg cb] s (fun v s' => Keep [] s s' ∧ v = .bool true) := by
  have hza := hva.to.leaf.2
  have hzb := hvb.leaf.2
  obtain ⟨vga, vaa, vha, vfa, rfl, hga, haa, hha, hfa⟩ := hva
  obtain ⟨vgb, vab, vhb, vfb, rfl, hgb, hab, hhb, hfb⟩ := hvb
  obtain ⟨hl1, hl3, hl2, hl4, hsm⟩ := hm
  refine call_of (fn := Try.f31) (nt := 110) Try.func31 rfl rfl rfl ?_
  repeat refine wc_seq ?_
  refine wc_region ?_
  refine w_box rfl rfl rfl hza hok ?_
  intro s1 hp1 hk1 hc1
  have hK := (Keep.refl hok).two hk1
  have hpa : Pt s1.h (.ptr s.ctr 0 0) [vga, vaa, vha, vfa] := hp1
  clear hp1
  refine w_box rfl rfl rfl hzb hK.ok ?_
  intro s2 hp2 hk2 hc2
  have hK := hK.two hk2
  have hpa := hpa.keep0 hk2
  have hpb : Pt s2.h (.ptr s1.ctr 0 0) [vgb, vab, vhb, vfb] := hp2
  clear hp2
  have hK0 := hK
  have hK := Keep.refl hK0.ok
  have hga := hga.keep hK0 (fun _ _ h => by cases h)
  have hha := hha.keep hK0 (fun _ _ h => by cases h)
  have haa := haa.keep hK0 (fun _ _ h => by cases h)
  have hraa := haa.row
  obtain ⟨ua, rfl, hua, hra⟩ := haa
  have hra1 := Lent.more hra
  have hpta := hra1.mk_pt'
  obtain ⟨uf, csf, rfl, huf, hrf, hlf, hF⟩ := hfa
  have hrf := hrf.keep0 hK0
  have hrfa := hrf.less hlf
  have hrf1 := hrf.more hlf
  have hptf := hrf1.mark hlf
  have hsfa : (cutA uf 0 mm.funcs.length).slen = some mm.funcs.length := hrfa.slen.trans (congrArg some hlf)
  have hgb := hgb.keep0 hK0
  have hhb := hhb.keep0 hK0
  have hab := hab.keep0 hK0
  obtain ⟨csb, hrfb, hlb, hFb⟩ := hfb
  have hrfb := hrfb.keep0 hK0
  have hsfb : vfb.slen = some mm.funcs.length := hrfb.slen.trans (congrArg some hlb)
  refine w_val rfl rfl (op_pure rfl) ?_
  refine w_nil ?_
  refine then_n ?_
  repeat refine wc_seq ?_
  refine wc_region ?_
  refine w_val rfl rfl (op_fld rfl rfl rfl rfl (by decide) (by assumption) (Nat.le_of_ble_eq_true rfl)) ?_
  refine w_val rfl rfl (op_load rfl rfl (by assumption) rfl) ?_
  refine w_val rfl rfl (op_fld rfl rfl rfl rfl (by decide) (by assumption) (Nat.le_of_ble_eq_true rfl)) ?_
  refine w_val rfl rfl (op_load rfl rfl (by assumption) rfl) ?_
  refine w_call rfl rfl (op_call rfl rfl rfl rfl) (keptLabels_ok hl1 hga hgb) ?_
  rintro _ sX ⟨eX, rfl⟩
  obtain rfl := eX.symm
  refine w_val rfl rfl (op_pure rfl) ?_
  refine w_val rfl rfl (op_pure rfl) ?_
  refine w_val rfl rfl (op_fld rfl rfl rfl rfl (by decide) (by assumption) (Nat.le_of_ble_eq_true rfl)) ?_
  refine w_val rfl rfl (op_load rfl rfl (Pt.fld (by assumption) _ (Nat.le_of_ble_eq_true rfl)) rfl) ?_
  refine w_val rfl rfl (op_fld rfl rfl rfl rfl (by decide) (by assumption) (Nat.le_of_ble_eq_true rfl)) ?_
  refine w_val rfl rfl (op_load rfl rfl (Pt.fld (by assumption) _ (Nat.le_of_ble_eq_true rfl)) rfl) ?_
  refine w_call rfl rfl (op_call rfl rfl rfl rfl) (keptLabels_ok hl2 hha hhb) ?_
  rintro _ sX ⟨eX, rfl⟩
  obtain rfl := eX.symm
  refine w_val rfl rfl (op_pure rfl) ?_
  refine w_val rfl rfl (op_pure rfl) ?_
  refine w_val rfl rfl (op_pure rfl) ?_
  refine w_val rfl rfl (op_fld rfl rfl rfl rfl (by decide) (by assumption) (Nat.le_of_ble_eq_true rfl)) ?_
  refine w_val rfl rfl (op_load rfl rfl (Pt.fld (by assumption) _ (Nat.le_of_ble_eq_true rfl)) rfl) ?_
  refine w_val rfl rfl (op_len rfl rfl rfl rfl rfl (Row.slenF (by assumption))) ?_
  refine w_val rfl rfl (op_fld rfl rfl rfl rfl (by decide) (by assumption) (Nat.le_of_ble_eq_true rfl)) ?_
  refine w_val rfl rfl (op_load rfl rfl (Pt.fld (by assumption) _ (Nat.le_of_ble_eq_true rfl)) rfl) ?_
  refine w_val rfl rfl (op_len rfl rfl rfl rfl rfl (Row.slenF (by assumption))) ?_
  refine w_val rfl rfl (op_pure rfl) ?_
  refine w_val rfl rfl (op_pure rfl) ?_
  refine w_val rfl rfl (op_pure rfl) ?_
  refine w_split (i := 32) rfl (fun h32 => ?_) (fun h32 => ?_)
  · simp at h32
  clear h32
  refine w_val rfl rfl (op_fld rfl rfl rfl rfl (by decide) (by assumption) (Nat.le_of_ble_eq_true rfl)) ?_
  refine w_val rfl rfl (op_load rfl rfl (Pt.fld (by assumption) _ (Nat.le_of_ble_eq_true rfl)) rfl) ?_
  refine w_val rfl rfl (op_len rfl rfl rfl rfl rfl (by assumption)) ?_
  refine w_val rfl rfl (op_fld rfl rfl rfl rfl (by decide) (by assumption) (Nat.le_of_ble_eq_true rfl)) ?_
  refine w_val rfl rfl (op_load rfl rfl (Pt.fld (by assumption) _ (Nat.le_of_ble_eq_true rfl)) rfl) ?_
  refine w_val rfl rfl (op_len rfl rfl rfl rfl rfl (by assumption)) ?_
  refine w_val rfl rfl (op_pure rfl) ?_
  refine w_val rfl rfl (op_pure rfl) ?_
  refine w_nil ?_
  refine then_n ?_
  repeat refine wc_seq ?_
  refine wc_condT rfl (fun h40 => ?_) (fun h40 => ?_)
  · simp at h40
  clear h40
  refine wc_skip ?_
  refine then_n ?_
  repeat refine wc_seq ?_
  refine wc_region ?_
  refine w_val rfl rfl (op_pure rfl) ?_
  refine w_nil ?_
  refine then_n ?_
  repeat refine wc_seq ?_
  refine wc_block ?_
  refine wc_loop_at (fun j m s' => ∃ i : Nat, j = mm.arrays.length - i ∧ i ≤ mm.arrays.length ∧ s' = s2 ∧ m = [(2, .ptr s.ctr 0 0), (3, .ptr s1.ctr 0 0), (5, .int .i64 (i : Nat))]) mm.arrays.length
    [(2, .ptr s.ctr 0 0), (3, .ptr s1.ctr 0 0), (5, .int .i64 ((0 : Nat) : Int))] (Sub.cons rfl (Sub.cons rfl (Sub.cons rfl (Sub.nil _)))) ⟨0, by simp, by simp, rfl, rfl⟩ ?_
  rintro j m sX ⟨i, rfl, hi, eX, rfl⟩
  obtain rfl := eX.symm
  repeat refine wc_seq ?_
  refine wc_region ?_
  refine w_val rfl rfl (op_pure rfl) ?_
  refine w_val rfl rfl (op_fld rfl rfl rfl rfl (by decide) (by assumption) (Nat.le_of_ble_eq_true rfl)) ?_
  refine w_val rfl rfl (op_load rfl rfl (Pt.fld (by assumption) _ (Nat.le_of_ble_eq_true rfl)) rfl) ?_
  refine w_val rfl rfl (op_len rfl rfl rfl rfl rfl (Row.slenF (by assumption))) ?_
  refine w_val rfl rfl (op_pure rfl) ?_
  refine w_nil ?_
  refine then_n ?_
  repeat refine wc_seq ?_
  refine wc_condT rfl (fun h45 => ?_) (fun h45 => ?_)
  · simp at h45
    refine wc_skip ?_
    refine then_n ?_
    repeat refine wc_seq ?_
    refine wc_block ?_
    repeat refine wc_seq ?_
    obtain ⟨x, hx⟩ : ∃ x, mm.arrays[i]? = some x := ⟨_, List.getElem?_eq_getElem h45⟩
    refine wc_draw (fun _ => True) (by kernel_rfl) rfl ?_
    refine wd_val (fun _ => trivial) rfl rfl (op_fld rfl rfl rfl rfl (by decide) (by assumption) (Nat.le_of_ble_eq_true rfl)) ?_
    refine wd_val (fun _ => trivial) rfl rfl (op_load rfl rfl (Pt.fld (by assumption) _ (Nat.le_of_ble_eq_true rfl)) rfl) ?_
    refine wd_val (fun _ => trivial) rfl rfl (op_pure rfl) ?_
    refine wd_val (fun _ => trivial) rfl rfl (op_idxF rfl rfl (natA_cast _ _) rfl rfl rfl rfl (by assumption) (by omega)) ?_
    refine wd_val (fun _ => trivial) rfl rfl (op_load rfl rfl (Row.mk_pt (by assumption) (by assumption)) rfl) ?_
    refine wd_val (fun _ => trivial) rfl rfl (op_fld rfl rfl rfl rfl (by decide) (by assumption) (Nat.le_of_ble_eq_true rfl)) ?_
    refine wd_val (fun _ => trivial) rfl rfl (op_load rfl rfl (Pt.fld (by assumption) _ (Nat.le_of_ble_eq_true rfl)) rfl) ?_
    refine wd_val (fun _ => trivial) rfl rfl (op_pure rfl) ?_
    refine wd_val (fun _ => trivial) rfl rfl (op_idxF rfl rfl (natA_cast _ _) rfl rfl rfl rfl (by assumption) (by omega)) ?_
    refine wd_val (fun _ => trivial) rfl rfl (op_load rfl rfl (Row.mk_pt (by assumption) (by assumption)) rfl) ?_
    refine wd_val (fun _ => trivial) rfl rfl (op_pure rfl) ?_
    refine wd_nil ?_
    refine then_n ?_
    refine wc_condT rfl (fun h58 => ?_) (fun h58 => ?_)
    · simp at h58
    clear h58
    refine wc_skip ?_
    refine out_n ?_
    refine then_n ?_
    refine wc_region ?_
    refine w_val rfl rfl (op_pure rfl) ?_
    refine w_val rfl rfl (op_add rfl rfl (by unfold In64; omega)) ?_
    refine w_val rfl rfl (op_pure rfl) ?_
    refine w_nil ?_
    exact round_n _ _ (by omega) (Sub.cons rfl (Sub.cons rfl (Sub.cons rfl (Sub.nil _)))) ⟨i + 1, rfl, by omega, rfl, rfl⟩
  simp at h45
  refine wc_exit ?_
  repeat first | refine then_x ?_ | refine round_x ?_ | refine cut_x ?_ | refine out_x' (by decide) ?_
  refine out_x ?_
  refine then_n ?_
  repeat refine wc_seq ?_
  refine wc_region ?_
  refine w_val rfl rfl (op_pure rfl) ?_
  refine w_nil ?_
  refine then_n ?_
  repeat refine wc_seq ?_
  refine wc_block ?_
  refine wc_loop_at (fun j m s' => ∃ i : Nat, j = mm.funcs.length - i ∧ i ≤ mm.funcs.length ∧ Keep [] s2 s' ∧ m = [(2, .ptr s.ctr 0 0), (3, .ptr s1.ctr 0 0), (6, .int .i64 (i : Nat))]) mm.funcs.length
    [(2, .ptr s.ctr 0 0), (3, .ptr s1.ctr 0 0), (6, .int .i64 ((0 : Nat) : Int))] (Sub.cons rfl (Sub.cons rfl (Sub.cons rfl (Sub.nil _)))) ⟨0, by simp, by simp, hK, rfl⟩ ?_
  clear hK
  rintro j m s3 ⟨i, rfl, hi, hK, rfl⟩
  repeat refine wc_seq ?_
  refine wc_region ?_
  refine w_val rfl rfl (op_pure rfl) ?_
  refine w_val rfl rfl (op_fld rfl rfl rfl rfl (by decide) (Pt.keep0 (by assumption) hK) (Nat.le_of_ble_eq_true rfl)) ?_
  refine w_val rfl rfl (op_load rfl rfl (Pt.fld (Pt.keep0 (by assumption) hK) _ (Nat.le_of_ble_eq_true rfl)) rfl) ?_
  refine w_val rfl rfl (op_len rfl rfl rfl rfl rfl (by assumption)) ?_
  refine w_val rfl rfl (op_pure rfl) ?_
  refine w_nil ?_
  refine then_n ?_
  repeat refine wc_seq ?_
  refine wc_condT rfl (fun h63 => ?_) (fun h63 => ?_)
  · simp at h63
    refine wc_skip ?_
    refine then_n ?_
    repeat refine wc_seq ?_
    refine wc_block ?_
    repeat refine wc_seq ?_
    obtain ⟨x, hx⟩ : ∃ x, mm.funcs[i]? = some x := ⟨_, List.getElem?_eq_getElem h63⟩
    obtain ⟨ca, hca⟩ : ∃ c, csf[i]? = some c := ⟨_, List.getElem?_eq_getElem (by omega)⟩
    obtain ⟨cb, hcb⟩ : ∃ c, csb[i]? = some c := ⟨_, List.getElem?_eq_getElem (by omega)⟩
    have hfa := hF i x ca hx hca
    have hfb := hFb i x cb hx hcb
    have hsx := hsm x (List.mem_of_getElem? hx)
    obtain ⟨y0, y1, y2, y3, y4, y5, rfl⟩ : ∃ y0 y1 y2 y3 y4 y5, ca = [y0, y1, y2, y3, y4, y5] := by
      obtain ⟨w1, w2, w3, e, -⟩ := hfa
      exact ⟨_, _, _, _, _, _, e⟩
    obtain ⟨z0, z1, z2, z3, z4, z5, rfl⟩ : ∃ y0 y1 y2 y3 y4 y5, cb = [y0, y1, y2, y3, y4, y5] := by
      obtain ⟨w1, w2, w3, e, -⟩ := hfb
      exact ⟨_, _, _, _, _, _, e⟩
    have hpa3 := hpa.keep0 hK
    have hpb3 := hpb.keep0 hK
    have hrfa3 := hrfa.keep0 hK
    have hrfb3 := hrfb.keep0 hK
    have hR := Keep.refl (s := s3) (hK.ok)
    refine wc_draw (Old s3 []) (by kernel_rfl) rfl ?_
    refine wo_val (fun _ => rfl) rfl rfl (op_fld rfl rfl rfl rfl (by decide) (by assumption) (Nat.le_of_ble_eq_true rfl)) ?_
    refine wo_load hR rfl rfl (Pt.fld (by assumption) _ (Nat.le_of_ble_eq_true rfl)) rfl (fun _ _ h => by cases h) rfl rfl ?_
    refine wo_val (fun _ => rfl) rfl rfl (op_pure rfl) ?_
    refine wo_val (fun _ => rfl) rfl rfl (op_idx rfl rfl (natA_cast _ _) rfl rfl rfl rfl (by assumption) (by omega)) ?_
    refine wo_load hR rfl rfl (Row.pt (by assumption) (by assumption)) rfl (fun _ _ h => by cases h) rfl rfl ?_
    refine wo_val (fun _ => rfl) rfl rfl (op_fld rfl rfl rfl rfl (by decide) (by assumption) (Nat.le_of_ble_eq_true rfl)) ?_
    refine wo_load hR rfl rfl (Pt.fld (by assumption) _ (Nat.le_of_ble_eq_true rfl)) rfl (fun _ _ h => by cases h) rfl rfl ?_
    refine wo_val (fun _ => rfl) rfl rfl (op_pure rfl) ?_
    refine wo_val (fun _ => rfl) rfl rfl (op_idx rfl rfl (natA_cast _ _) rfl rfl rfl rfl (by assumption) (by omega)) ?_
    refine wo_load hR rfl rfl (Row.pt (by assumption) (by assumption)) rfl (fun _ _ h => by cases h) rfl rfl ?_
    refine wo_call hR rfl rfl (fun _ => rfl) (op_call rfl rfl rfl rfl) (keptFunction_ok hR.ok hsx (hfa.keep0 (hK0.two (hK.two hR))).bare (hfb.keep0 (hK0.two (hK.two hR))).bare) (fun _ _ h => h.1) ?_
    rintro _ s4 ⟨hk4, rfl⟩ hR
    have hK := hK.two hR
    refine wo_val (fun _ => rfl) rfl rfl (op_pure rfl) ?_
    refine wd_nil ?_
    refine then_n ?_
    refine wc_cond_f rfl ?_
    refine wc_skip ?_
    refine out_n ?_
    refine then_n ?_
    refine wc_region ?_
    refine w_val rfl rfl (op_pure rfl) ?_
    refine w_val rfl rfl (op_add rfl rfl (by unfold In64; omega)) ?_
    refine w_val rfl rfl (op_pure rfl) ?_
    refine w_nil ?_
    exact round_n _ _ (by omega) (Sub.cons rfl (Sub.cons rfl (Sub.cons rfl (Sub.nil _)))) ⟨i + 1, rfl, by omega, hK, rfl⟩
  simp at h63
  refine wc_exit ?_
  repeat first | refine then_x ?_ | refine round_x ?_ | refine cut_x ?_ | refine out_x' (by decide) ?_
  refine out_x ?_
  refine then_n ?_
  repeat refine wc_seq ?_
  refine wc_region ?_
  refine w_val rfl rfl (op_fld rfl rfl rfl rfl (by decide) (Pt.keep0 (by assumption) hK) (Nat.le_of_ble_eq_true rfl)) ?_
  refine w_val rfl rfl (op_load rfl rfl (Pt.fld (Pt.keep0 (by assumption) hK) _ (Nat.le_of_ble_eq_true rfl)) rfl) ?_
  refine w_val rfl rfl (op_fld rfl rfl rfl rfl (by decide) (Pt.keep0 (by assumption) hK) (Nat.le_of_ble_eq_true rfl)) ?_
  refine w_val rfl rfl (op_load rfl rfl (Pt.fld (Pt.keep0 (by assumption) hK) _ (Nat.le_of_ble_eq_true rfl)) rfl) ?_
  refine w_val rfl rfl (op_len rfl rfl rfl rfl rfl (Row.slenF (by assumption))) ?_
  refine w_val rfl rfl (op_add rfl rfl (by unfold In64; omega)) ?_
  refine w_val rfl rfl (op_recut rfl rfl (natA_succ _ _) rfl rfl rfl rfl (hra.keep0 hK) hua (by simp)) ?_
  refine w_val rfl rfl (op_pure rfl) ?_
  refine w_nil ?_
  refine then_n ?_
  repeat refine wc_seq ?_
  refine wc_region ?_
  refine w_val rfl rfl (op_fld rfl rfl rfl rfl (by decide) (Pt.keep0 (by assumption) hK) (Nat.le_of_ble_eq_true rfl)) ?_
  refine w_val rfl rfl (op_load rfl rfl (Pt.fld (Pt.keep0 (by assumption) hK) _ (Nat.le_of_ble_eq_true rfl)) rfl) ?_
  refine w_val rfl rfl (op_fld rfl rfl rfl rfl (by decide) (Pt.keep0 (by assumption) hK) (Nat.le_of_ble_eq_true rfl)) ?_
  refine w_val rfl rfl (op_load rfl rfl (Pt.fld (Pt.keep0 (by assumption) hK) _ (Nat.le_of_ble_eq_true rfl)) rfl) ?_
  refine w_val rfl rfl (op_len rfl rfl rfl rfl rfl (by assumption)) ?_
  refine w_val rfl rfl (op_add rfl rfl (by unfold In64; omega)) ?_
  refine w_val rfl rfl (op_recut rfl rfl (natA_succ _ _) rfl rfl rfl rfl (hrf.keep0 hK) huf (by simp; omega)) ?_
  refine w_val rfl rfl (op_pure rfl) ?_
  refine w_nil ?_
  refine then_n ?_
  repeat refine wc_seq ?_
  refine wc_region ?_
  refine w_val rfl rfl (op_pure rfl) ?_
  refine w_val rfl rfl (op_fld rfl rfl rfl rfl (by decide) (Pt.keep0 (by assumption) hK) (Nat.le_of_ble_eq_true rfl)) ?_
  refine w_val rfl rfl (op_load rfl rfl (Pt.fld (Pt.keep0 (by assumption) hK) _ (Nat.le_of_ble_eq_true rfl)) rfl) ?_
  refine w_val rfl rfl (op_len rfl rfl rfl rfl rfl (Row.slenF (by assumption))) ?_
  refine w_val rfl rfl (op_idx rfl rfl (natA_cast _ _) rfl rfl rfl rfl (Row.keep0 (by assumption) hK) (by (simp; done))) ?_
  refine w_val rfl rfl (op_fld rfl rfl rfl rfl (by decide) (Pt.keep0 (by assumption) hK) (Nat.le_of_ble_eq_true rfl)) ?_
  refine w_val rfl rfl (op_load rfl rfl (Pt.fld (Pt.keep0 (by assumption) hK) _ (Nat.le_of_ble_eq_true rfl)) rfl) ?_
  refine w_val rfl rfl (op_pure rfl) ?_
  refine w_val rfl rfl (op_pure rfl) ?_
  refine w_split (i := 100) rfl (fun h100 => ?_) (fun h100 => ?_)
  · clear h100
    refine w_val rfl rfl (op_pure rfl) ?_
    refine w_val rfl rfl (op_fld rfl rfl rfl rfl (by decide) (Pt.keep0 (by assumption) hK) (Nat.le_of_ble_eq_true rfl)) ?_
    refine w_val rfl rfl (op_load rfl rfl (Pt.fld (Pt.keep0 (by assumption) hK) _ (Nat.le_of_ble_eq_true rfl)) rfl) ?_
    refine w_val rfl rfl (op_len rfl rfl rfl rfl rfl (by assumption)) ?_
    refine w_val rfl rfl (op_idx rfl rfl (natA_cast _ _) rfl rfl rfl rfl (Row.keep0 (by assumption) hK) (by (simp; omega))) ?_
    refine w_val rfl rfl (op_fld rfl rfl rfl rfl (by decide) (Pt.keep0 (by assumption) hK) (Nat.le_of_ble_eq_true rfl)) ?_
    refine w_val rfl rfl (op_load rfl rfl (Pt.fld (Pt.keep0 (by assumption) hK) _ (Nat.le_of_ble_eq_true rfl)) rfl) ?_
    refine w_val rfl rfl (op_pure rfl) ?_
    refine w_val rfl rfl (op_pure rfl) ?_
    refine w_val rfl rfl (op_pure rfl) ?_
    refine w_nil ?_
    refine then_n ?_
    refine wc_ret ?_
    repeat first | refine then_r ?_ | refine out_r ?_ | refine round_r ?_ | refine cut_r ?_
    exact ⟨_, rfl, hK0.two hK, rfl⟩
  simp at h100
end Go.Ab
