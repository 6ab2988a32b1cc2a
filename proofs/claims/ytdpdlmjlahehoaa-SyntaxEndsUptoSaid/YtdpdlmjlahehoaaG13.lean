/- The draw itself. -/
import Derived.Test.YtdpdlmjlahehoaaG12
namespace Go.Ab
open Go.RowKit
section
variable {P : Program} {w0 : World} {B0 : Nat} {T : Tab}
variable {call : FuncId → List AV → St → Option (AV × St)}

/-- All that is fixed while a region is run in some order. -/
structure Reg (b : Bool) (T : Tab) (call : FuncId → List AV → St → Option (AV × St)) (ops : Array Oper) (hs : List (Option (Nat × List AV))) (c0 : Nat) (tr : Nat → TL × St) (l : List Entry) : Prop where
  hl : hs.length = ops.size
  earlyAt : ∀ (i : Nat) (o : Oper) (c : Nat) (cs : List AV), ops[i]? = some o → hs[i]? = some (some (c, cs)) → (∃ v, earlyVal T ops o (tr i).1 c cs = some v ∧ (tr (i + 1)).1 = putA (tr i).1 o.dst v) ∧ (tr (i + 1)).2 = (tr i).2
  stepAt : ∀ (i : Nat) (o : Oper), ops[i]? = some o → hs[i]? = some none → ∃ s', evStep T call ops o (tr i).1 { (tr i).2 with wr := [] } = some ((tr (i + 1)).1, s') ∧ (tr (i + 1)).2 = { s' with wr := s'.wr ++ (tr i).2.wr }
  ear : ∀ (i : Nat) (o : Oper) (c : Nat) (cs : List AV), ops[i]? = some o → hs[i]? = some (some (c, cs)) → Oper.early b o = true ∧ earlyCells T cs o.op = some cs ∧ cs.all AV.leaf = true ∧ (tr 0).2.get c = some ⟨[⟨cs, 0, none⟩]⟩
  late : ∀ (i : Nat) (o : Oper), ops[i]? = some o → hs[i]? = some none → Oper.early b o = false
  inj : ∀ (i j c : Nat) (cs cs' : List AV), hs[i]? = some (some (c, cs)) → hs[j]? = some (some (c, cs')) → i = j
  lt : ∀ (i c : Nat) (cs : List AV), hs[i]? = some (some (c, cs)) → c0 ≤ c ∧ c < (tr 0).2.ctr
  /-- What is read isn't turned by what has no order with the reader. -/
  rd : ∀ (i e : Nat) (o oe : Oper) (g : Nat) (se : St), ops[i]? = some o → hs[i]? = some none → guardA ops (tr i).1 o.guard = some true → readsA (tr i).1 o.op = some g → ops[e]? = some oe → hs[e]? = some none →
    evStep T call ops oe (tr e).1 { (tr e).2 with wr := [] } = some ((tr (e + 1)).1, se) → aheadB (Region.before ops) e i = true ∨ aheadB (Region.before ops) i e = true ∨ g ∉ se.wr
  /-- An early variable is turned behind its own operation alone. -/
  al : ∀ (i e : Nat) (oe : Oper) (c : Nat) (cs : List AV) (se : St), hs[i]? = some (some (c, cs)) → ops[e]? = some oe → hs[e]? = some none →
    evStep T call ops oe (tr e).1 { (tr e).2 with wr := [] } = some ((tr (e + 1)).1, se) → aheadB (Region.before ops) i e = true ∨ c ∉ se.wr
  /-- Two operations without an order. -/
  two : ∀ (i j : Nat) (x y : Oper), ops[i]? = some x → ops[j]? = some y → i ≠ j → aheadB (Region.before ops) i j = true ∨ aheadB (Region.before ops) j i = true ∨ (Oper.apart ops x y = true ∧ ¬ (Oper.turns b x = true ∧ Oper.turns b y = true))
  up : ∀ (i j : Nat), aheadB (Region.before ops) i j = true → j < ops.size → i < j
  dn : ∀ (j : Nat) (o : Oper), ops[j]? = some o → ∀ e ∈ o.after, Region.binds .any e = true → e.on < j

variable {ops : Array Oper} {hs : List (Option (Nat × List AV))} {b : Bool} {c0 : Nat} {tr : Nat → TL × St} {l : List Entry}

theorem Reg.hsAt (R : Reg b T call ops hs c0 tr l) {i : Nat} {o : Oper} (ho : ops[i]? = some o) : ∃ q, hs[i]? = some q := by
  have : i < ops.size := (Array.getElem?_eq_some_iff.1 ho).1
  exact ⟨hs[i]'(by rw [R.hl]; exact this), by simp⟩
theorem Reg.opAt (R : Reg b T call ops hs c0 tr l) {i : Nat} (hi : i < ops.size) : ∃ o, ops[i]? = some o := ⟨ops[i], by simp [hi]⟩
/-- What isn't a turn leaves the state. -/
theorem Reg.stay (hce : CallExt call) (R : Reg b T call ops hs c0 tr l) {k : Nat} {o : Oper} (ho : ops[k]? = some o) (hn : ¬ (Oper.turns b o = true ∧ hs[k]? = some none)) : (tr (k + 1)).2 = (tr k).2 := by
  obtain ⟨q, hq⟩ := R.hsAt ho
  cases q with
  | some cc => exact (R.earlyAt k o cc.1 cc.2 ho hq).2
  | none =>
    have hlate := R.late k o ho hq
    have he : Op.eff o.op = false := by
      cases h : Op.eff o.op with
      | false => rfl
      | true => exact absurd ⟨by simp [Oper.turns, h, hlate], hq⟩ hn
    obtain ⟨s', h1, h2⟩ := R.stepAt k o ho hq
    have := (step_still (s' := { (tr k).2 with wr := [] }) he h1 (fun d _ => rfl) (fun g _ _ => rfl)).1
    subst this
    rw [h2]
    simp
theorem Reg.ctrLe (hce : CallExt call) (R : Reg b T call ops hs c0 tr l) {k : Nat} (hk : k < ops.size) : (tr k).2.ctr ≤ (tr (k + 1)).2.ctr := by
  obtain ⟨o, ho⟩ := R.opAt hk
  obtain ⟨q, hq⟩ := R.hsAt ho
  cases q with
  | some cc => rw [(R.earlyAt k o cc.1 cc.2 ho hq).2]; exact Nat.le_refl _
  | none =>
    obtain ⟨s', h1, h2⟩ := R.stepAt k o ho hq
    rw [h2]
    exact (Ext.step hce h1).ctr
theorem Reg.ctr0 (hce : CallExt call) (R : Reg b T call ops hs c0 tr l) : ∀ k, k ≤ ops.size → (tr 0).2.ctr ≤ (tr k).2.ctr
  | 0, _ => Nat.le_refl _
  | k + 1, h => Nat.le_trans (R.ctr0 hce k (by omega)) (R.ctrLe hce (by omega))
theorem Reg.putAt (R : Reg b T call ops hs c0 tr l) {k : Nat} {o : Oper} (ho : ops[k]? = some o) : ∃ v, (tr (k + 1)).1 = putA (tr k).1 o.dst v := by
  obtain ⟨q, hq⟩ := R.hsAt ho
  cases q with
  | some cc => obtain ⟨v, _, h⟩ := (R.earlyAt k o cc.1 cc.2 ho hq).1; exact ⟨v, h⟩
  | none =>
    obtain ⟨s', h1, h2⟩ := R.stepAt k o ho hq
    obtain ⟨v, hv, _⟩ := step_same h1 (fun d _ => rfl)
    exact ⟨v, hv⟩
theorem Reg.tmpN (R : Reg b T call ops hs c0 tr l) : ∀ k, k ≤ ops.size → (tr k).1.n = (tr 0).1.n
  | 0, _ => rfl
  | k + 1, hk => by
    obtain ⟨ok, hok⟩ := R.opAt (show k < ops.size by omega)
    obtain ⟨v, hv⟩ := R.putAt hok
    rw [hv, putA_n]
    exact R.tmpN k (by omega)
theorem Reg.tmpOut (R : Reg b T call ops hs c0 tr l) {d : Tmp} (hd : (tr 0).1.n ≤ d) : ∀ k, k ≤ ops.size → (tr k).1.get d = (tr 0).1.get d
  | 0, _ => rfl
  | k + 1, hk => by
    obtain ⟨ok, hok⟩ := R.opAt (show k < ops.size by omega)
    obtain ⟨v, hv⟩ := R.putAt hok
    rw [hv]
    have hn := R.tmpN k (by omega)
    cases ok.dst with
    | none => exact R.tmpOut hd k (by omega)
    | some d' =>
      simp only [putA]
      rw [TL.get_set, if_neg (fun e => by omega)]
      exact R.tmpOut hd k (by omega)
/-- Between two places without a writer a slot stays. -/
theorem Reg.slot (R : Reg b T call ops hs c0 tr l) {d : Tmp} : ∀ (n p : Nat), p + n ≤ ops.size → (∀ j o, p ≤ j → j < p + n → ops[j]? = some o → o.dst ≠ some d) → (tr (p + n)).1.get d = (tr p).1.get d
  | 0, p, _, _ => rfl
  | n + 1, p, hle, h => by
    obtain ⟨o, ho⟩ := R.opAt (show p + n < ops.size by omega)
    obtain ⟨v, hv⟩ := R.putAt ho
    have ih := R.slot n p (by omega) (fun j o h1 h2 h3 => h j o h1 (by omega) h3)
    rw [← Nat.add_assoc, hv, ← ih]
    have hd := h (p + n) o (by omega) (by omega) ho
    cases hdst : o.dst with
    | none => rfl
    | some d' =>
      simp only [putA]
      rw [TL.get_set, if_neg (fun e => hd (by rw [hdst, e.1]))]
theorem Reg.slot2 (R : Reg b T call ops hs c0 tr l) {d : Tmp} {p q : Nat} (hp : p ≤ ops.size) (hq : q ≤ ops.size) (h : ∀ j o, ops[j]? = some o → o.dst = some d → (j < p ↔ j < q)) : (tr p).1.get d = (tr q).1.get d := by
  rcases Nat.le_total p q with hle | hle
  · obtain ⟨n, rfl⟩ := Nat.exists_eq_add_of_le hle
    exact (R.slot n p hq (fun j o h1 h2 h3 h4 => by have := h j o h3 h4; omega)).symm
  · obtain ⟨n, rfl⟩ := Nat.exists_eq_add_of_le hle
    exact R.slot n q hp (fun j o h1 h2 h3 h4 => by have := h j o h3 h4; omega)
/-- Between two places without a turn the state stays. -/
theorem Reg.state (hce : CallExt call) (R : Reg b T call ops hs c0 tr l) : ∀ (n p : Nat), p + n ≤ ops.size → (∀ j o, p ≤ j → j < p + n → ops[j]? = some o → ¬ (Oper.turns b o = true ∧ hs[j]? = some none)) → (tr (p + n)).2 = (tr p).2
  | 0, p, _, _ => rfl
  | n + 1, p, hle, h => by
    obtain ⟨o, ho⟩ := R.opAt (show p + n < ops.size by omega)
    rw [← Nat.add_assoc, R.stay hce ho (h (p + n) o (by omega) (by omega) ho)]
    exact R.state hce n p (by omega) (fun j o h1 h2 h3 => h j o h1 (by omega) h3)
theorem Reg.state2 (hce : CallExt call) (R : Reg b T call ops hs c0 tr l) {p q : Nat} (hp : p ≤ ops.size) (hq : q ≤ ops.size) (h : ∀ j o, ops[j]? = some o → Oper.turns b o = true → hs[j]? = some none → (j < p ↔ j < q)) : (tr p).2 = (tr q).2 := by
  rcases Nat.le_total p q with hle | hle
  · obtain ⟨n, rfl⟩ := Nat.exists_eq_add_of_le hle
    exact (R.state hce n p hq (fun j o h1 h2 h3 ⟨h4, h5⟩ => by have := h j o h3 h4 h5; omega)).symm
  · obtain ⟨n, rfl⟩ := Nat.exists_eq_add_of_le hle
    exact R.state hce n q hp (fun j o h1 h2 h3 ⟨h4, h5⟩ => by have := h j o h3 h4 h5; omega)
/-- Between two places whose turns leave a group alone it stays. -/
theorem Reg.group (hce : CallExt call) (R : Reg b T call ops hs c0 tr l) {g : Nat} : ∀ (n p : Nat), p + n ≤ ops.size →
    (∀ j o se, p ≤ j → j < p + n → ops[j]? = some o → hs[j]? = some none → evStep T call ops o (tr j).1 { (tr j).2 with wr := [] } = some ((tr (j + 1)).1, se) → Oper.turns b o = true → g ∉ se.wr) → (tr (p + n)).2.get g = (tr p).2.get g
  | 0, p, _, _ => rfl
  | n + 1, p, hle, h => by
    have ih := R.group hce n p (by omega) (fun j o se h1 h2 h3 => h j o se h1 (by omega) h3)
    obtain ⟨o, ho⟩ := R.opAt (show p + n < ops.size by omega)
    rw [← Nat.add_assoc, ← ih]
    by_cases ht : Oper.turns b o = true ∧ hs[p + n]? = some none
    · obtain ⟨s', h1, h2⟩ := R.stepAt (p + n) o ho ht.2
      have hn := h (p + n) o s' (by omega) (by omega) ho ht.2 h1 ht.1
      obtain ⟨m, k1, k2⟩ := (Ext.step hce h1).wr
      simp only [List.append_nil] at k1
      rw [k1] at hn
      have := k2 g hn
      rw [h2]
      exact this
    · rw [R.stay hce ho ht]
theorem Reg.group2 (hce : CallExt call) (R : Reg b T call ops hs c0 tr l) {g p q : Nat} (hp : p ≤ ops.size) (hq : q ≤ ops.size)
    (h : ∀ j o se, ops[j]? = some o → hs[j]? = some none → evStep T call ops o (tr j).1 { (tr j).2 with wr := [] } = some ((tr (j + 1)).1, se) → Oper.turns b o = true → (j < p ↔ j < q) ∨ g ∉ se.wr) : (tr p).2.get g = (tr q).2.get g := by
  rcases Nat.le_total p q with hle | hle
  · obtain ⟨n, rfl⟩ := Nat.exists_eq_add_of_le hle
    exact (R.group hce n p hq (fun j o se h1 h2 h3 h4 h5 h6 => by rcases h j o se h3 h4 h5 h6 with h | h <;> first | omega | exact h)).symm
  · obtain ⟨n, rfl⟩ := Nat.exists_eq_add_of_le hle
    exact R.group hce n q hp (fun j o se h1 h2 h3 h4 h5 h6 => by rcases h j o se h3 h4 h5 h6 with h | h <;> first | omega | exact h)

/-- In the middle of a region: what is listed has been done. -/
structure Mid (b : Bool) (w0 : World) (B0 : Nat) (ops : Array Oper) (hs : List (Option (Nat × List AV))) (c0 : Nat) (tr : Nat → TL × St) (ρ0 : Loc) (d0 : List Deferred) (L : Array Bool) (a : Act) (w : World) (ρ : Loc) (t : TL) (m : Nat) : Prop where
  size : L.size = ops.size
  closed : Closed ops L
  tr_ : TR w0 B0 ρ t a.tmps
  slots : ∀ d : Tmp, ∃ p, p ≤ ops.size ∧ t.get d = (tr p).1.get d ∧ ∀ (j : Nat) (o : Oper), ops[j]? = some o → o.dst = some d → (L.getD j false = true ↔ j < p)
  tn : t.n = (tr 0).1.n
  mle : m ≤ ops.size
  heap : ∀ (e : Nat) (o : Oper), ops[e]? = some o → Oper.turns b o = true → hs[e]? = some none → (L.getD e false = true ↔ e < m)
  sim : Sim w0 B0 ρ (tr m).2 w
  wait : ∀ (i c : Nat) (cs : List AV), hs[i]? = some (some (c, cs)) → L.getD i false = false → ∀ j, ρ c j = none
  lex : ρ0.lex c0 ρ
  def_ : a.defers = d0

theorem getD_true_false {L : Array Bool} {j n : Nat} (hs : L.size = n) (hj : j < n) : L.getD j true = L.getD j false := by
  have : j < L.size := by omega
  simp [this]

theorem draw_steps (hT : TabOk P T) (hcall : CallOk P w0 B0 call) (hce : CallExt call) (R : Reg b T call ops hs c0 tr l) (hc0 : c0 ≤ (tr 0).2.ctr) {ρ0 : Loc} {d0 : List Deferred} {Q : Exit → Act → World → Prop}
    (hQ : ∀ (ρ : Loc) (a : Act) (w : World), ρ0.lex c0 ρ → Sim w0 B0 ρ (tr ops.size).2 w → TR w0 B0 ρ (tr ops.size).1 a.tmps → a.defers = d0 → Q .normal a w) :
    ∀ (fuel : Nat) (L : Array Bool) (a : Act) (w : World) (ρ : Loc) (t : TL) (m : Nat), (L.toList.countP (· == false)) = fuel → Mid b w0 B0 ops hs c0 tr ρ0 d0 L a w ρ t m → wpAny P .any ops Q fuel L a w := by
  intro fuel
  induction fuel with
  | zero =>
    intro L a w ρ t m hcount M
    have hall : ∀ j, j < ops.size → L.getD j false = true := by
      intro j hj
      have hjl : j < L.size := by rw [M.size]; exact hj
      rw [List.countP_eq_zero] at hcount
      have := hcount L[j] (by simp)
      simp [hjl]
      simpa using this
    refine ⟨?_, ?_⟩
    · rw [List.eq_nil_iff_forall_not_mem]
      intro j hj
      obtain ⟨h1, o, h2, _⟩ := mem_ready.1 hj
      have hjn := (Array.getElem?_eq_some_iff.1 h2).1
      rw [getD_true_false M.size hjn, hall j hjn] at h1
      cases h1
    · have hst : (tr m).2 = (tr ops.size).2 := R.state2 hce M.mle (Nat.le_refl _) (fun j o h1 h2 h3 => by
        have hjn := (Array.getElem?_eq_some_iff.1 h1).1
        have := (M.heap j o h1 h2 h3).1 (hall j hjn)
        omega)
      refine hQ ρ a w M.lex (hst ▸ M.sim) ?_ M.def_
      refine M.tr_.congr (by rw [M.tn, R.tmpN ops.size (Nat.le_refl _)]) fun d => ?_
      obtain ⟨p, hp, h1, h2⟩ := M.slots d
      rw [h1]
      exact R.slot2 hp (Nat.le_refl _) (fun j o k1 k2 => by
        have hjn := (Array.getElem?_eq_some_iff.1 k1).1
        have := (h2 j o k1 k2).1 (hall j hjn)
        omega)
  | succ fuel ih =>
    intro L a w ρ t m hcount M
    -- the first that is not listed is ready
    have hex : Region.ready .any ops L ≠ [] := by
      have : 0 < L.toList.countP (· == false) := by omega
      rw [List.countP_pos_iff] at this
      obtain ⟨b, hb, hbf⟩ := this
      obtain ⟨j0, hj0, hb0⟩ := List.mem_iff_getElem.1 hb
      have hex : ∃ j, j < ops.size ∧ L.getD j false = false := ⟨j0, by rw [← M.size]; simpa using hj0, by
        have h1 : j0 < L.size := by simpa using hj0
        simp [h1]
        simp at hb0
        rw [hb0]
        simpa using hbf⟩
      have : ∀ n, (∃ j, j < ops.size ∧ L.getD j false = false ∧ j ≤ n) → ∃ j, j < ops.size ∧ L.getD j false = false ∧ ∀ k, k < j → L.getD k false = true := by
        intro n
        induction n using Nat.strongRecOn with
        | _ n ihn =>
          rintro ⟨j, h1, h2, h3⟩
          by_cases hk : ∃ k, k < j ∧ L.getD k false = false
          · obtain ⟨k, hk1, hk2⟩ := hk
            exact ihn k (by omega) ⟨k, by omega, hk2, Nat.le_refl _⟩
          · exact ⟨j, h1, h2, fun k hk1 => by
              cases hq : L.getD k false with
              | true => rfl
              | false => exact absurd ⟨k, hk1, hq⟩ hk⟩
      obtain ⟨j, h1, h2⟩ := hex
      obtain ⟨j, h1, h2, h3⟩ := this j ⟨j, h1, h2, Nat.le_refl _⟩
      obtain ⟨o, ho⟩ := R.opAt h1
      have : j ∈ Region.ready .any ops L := mem_ready.2 ⟨by rw [getD_true_false M.size h1]; exact h2, o, ho, fun e he hb => h3 _ (R.dn j o ho e he hb)⟩
      intro hnil
      rw [hnil] at this
      cases this
    refine ⟨fun h => absurd h hex, fun i hi => ?_⟩
    obtain ⟨hi1, o, ho, hpred⟩ := mem_ready.1 hi
    have hin : i < ops.size := (Array.getElem?_eq_some_iff.1 ho).1
    have hiL : i < L.size := by rw [M.size]; exact hin
    have hunl : L.getD i false = false := by rw [← getD_true_false M.size hin]; exact hi1
    have hahead : ∀ k, aheadB (Region.before ops) k i = true → L.getD k false = true := ahead_listed M.closed i o ho hpred
    have hbehind : ∀ k, k < ops.size → aheadB (Region.before ops) i k = true → L.getD k false = false := by
      intro k hk h
      cases hq : L.getD k false with
      | false => rfl
      | true =>
        obtain ⟨ok, hok⟩ := R.opAt hk
        have := ahead_listed M.closed k ok hok (M.closed k ok hok hq) i h
        rw [hunl] at this
        cases this
    -- an operation that has an order with this one is listed just if it comes ahead in the text
    have hord : ∀ k, k < ops.size → (aheadB (Region.before ops) k i = true ∨ aheadB (Region.before ops) i k = true) → (L.getD k false = true ↔ k < i) := by
      intro k hk h
      rcases h with h | h
      · have := R.up k i h hin
        exact ⟨fun _ => this, fun _ => hahead k h⟩
      · have h1 := R.up i k h hk
        have h2 := hbehind k hk h
        rw [h2]
        exact ⟨fun h => (by cases h), fun h => (by omega)⟩
    have hset : ∀ j, (L.setIfInBounds i true).getD j false = if j = i then true else L.getD j false := by
      intro j
      by_cases hji : j = i
      · subst hji; simp [hiL]
      · rw [if_neg hji]
        simp [Array.getElem?_setIfInBounds_ne (Ne.symm hji)]
    have hcount' : ((L.setIfInBounds i true).toList.countP (· == false)) = fuel := by
      rw [Array.toList_setIfInBounds, List.countP_set (by simpa using hiL)]
      have : L.toList[i]'(by simpa using hiL) = false := by
        have := hunl
        simp [hiL] at this
        simpa using this
      rw [this, hcount]
      simp
    have hclosed' : Closed ops (L.setIfInBounds i true) := by
      intro j oj hj hl e he hb
      rw [hset] at hl ⊢
      by_cases hji : j = i
      · subst hji
        rw [ho] at hj
        cases hj
        have := hpred e he hb
        split
        · rfl
        · exact this
      · rw [if_neg hji] at hl
        have := M.closed j oj hj hl e he hb
        split
        · rfl
        · exact this
    -- the slots that it looks at hold what they hold in the text's order
    have hagree : Agree (tr i).1 t (o.looksAt ops) := by
      intro d hd
      obtain ⟨p, hp, h1, h2⟩ := M.slots d
      rw [h1]
      refine R.slot2 (by omega) hp (fun j oj hj hdj => ?_)
      rw [← h2 j oj hj hdj]
      by_cases hji : j = i
      · subst hji
        rw [hunl]
        exact ⟨fun h => (by omega), fun h => (by cases h)⟩
      · have hjn := (Array.getElem?_eq_some_iff.1 hj).1
        rcases R.two j i oj o hj ho hji with h | h | ⟨h, _⟩
        · exact (hord j hjn (.inl h)).symm
        · exact (hord j hjn (.inr h)).symm
        · exact absurd hd ((Oper.apart_spec h).1 d hdj)
    -- the slots behind it
    have hslots' : ∀ (v : AV), (tr (i + 1)).1 = putA (tr i).1 o.dst v → t.n = (tr i).1.n → ∀ d : Tmp, ∃ p, p ≤ ops.size ∧ (putA t o.dst v).get d = (tr p).1.get d ∧
        ∀ (j : Nat) (o' : Oper), ops[j]? = some o' → o'.dst = some d → ((L.setIfInBounds i true).getD j false = true ↔ j < p) := by
      intro v hv hlen d
      by_cases hd : o.dst = some d
      · refine ⟨i + 1, by omega, ?_, fun j oj hj hdj => ?_⟩
        · rw [hv, hd]
          simp only [putA]
          rw [TL.get_set, TL.get_set, hlen]
          by_cases hb : d = d ∧ d < (tr i).1.n
          · rw [if_pos hb, if_pos hb]
          · have hdn : (tr 0).1.n ≤ d := by
              have hq := R.tmpN i (by omega)
              have hq2 : ¬ d < (tr i).1.n := fun h => hb ⟨rfl, h⟩
              rw [hq] at hq2
              exact Nat.le_of_not_lt hq2
            rw [if_neg hb, if_neg hb]
            obtain ⟨p, hp, h1, _⟩ := M.slots d
            rw [h1, R.tmpOut hdn p hp, R.tmpOut hdn i (by omega)]
        · rw [hset]
          by_cases hji : j = i
          · subst hji; simp
          · rw [if_neg hji]
            have hjn := (Array.getElem?_eq_some_iff.1 hj).1
            have : L.getD j false = true ↔ j < i := by
              rcases R.two j i oj o hj ho hji with h | h | ⟨h, _⟩
              · exact hord j hjn (.inl h)
              · exact hord j hjn (.inr h)
              · exact absurd hd ((Oper.apart_spec h).2.1 d hdj)
            rw [this]
            omega
      · obtain ⟨p, hp, h1, h2⟩ := M.slots d
        refine ⟨p, hp, ?_, fun j oj hj hdj => ?_⟩
        · rw [← h1]
          cases hdst : o.dst with
          | none => rfl
          | some d' =>
            simp only [putA]
            rw [TL.get_set, if_neg (fun e => hd (by rw [hdst, e.1]))]
        · rw [hset, if_neg (fun e => by subst e; rw [ho] at hj; cases hj; exact hd hdj)]
          exact h2 j oj hj hdj
    have hlent : t.n = (tr i).1.n := by rw [M.tn, R.tmpN i (by omega)]
    obtain ⟨q, hq⟩ := R.hsAt ho
    cases q with
    | some cc =>
      -- what is laid early
      obtain ⟨c, cs⟩ := cc
      obtain ⟨hearly, hzs, hlf, hget⟩ := R.ear i o c cs ho hq
      have hcl := R.lt i c cs hq
      have hget' : (tr m).2.get c = some ⟨[⟨cs, 0, none⟩]⟩ := by
        rw [← hget]
        refine R.group2 hce M.mle (by omega) (fun j oj se h1 h2 h3 h4 => ?_)
        have hjn := (Array.getElem?_eq_some_iff.1 h1).1
        rcases R.al i j oj c cs se hq h1 h2 h3 with h | h
        · left
          have h5 := hbehind j hjn h
          have := M.heap j oj h1 h4 h2
          rw [h5] at this
          simp at this
          omega
        · exact .inr h
      have hρ : ∀ j, ρ c j = none := M.wait i c cs hq hunl
      obtain ⟨v, hval, hv⟩ := (R.earlyAt i o c cs ho hq).1
      rw [earlyVal_congr hagree] at hval
      have hgs : ∃ q, guardA ops t o.guard = some q := by
        unfold earlyVal at hval
        cases hq : guardA ops t o.guard with
        | none => simp [hq] at hval
        | some q => exact ⟨q, rfl⟩
      obtain ⟨q, hgd⟩ := hgs
      cases q with
      | false =>
        -- it isn't wanted
        have hvu : v = .undef := by
          unfold earlyVal at hval
          rw [hgd] at hval
          simpa using hval.symm
        subst hvu
        unfold wpOp
        rw [ho]
        simp only
        rw [if_neg (by rw [guard_sound M.tr_ hgd]; exact Bool.false_ne_true)]
        refine ih _ _ _ ρ (putA t o.dst .undef) m hcount' ⟨by simp [M.size], hclosed', ?_, hslots' _ hv hlent, (by rw [putA_n, M.tn]), M.mle, ?_, M.sim, ?_, M.lex, ?_⟩
        · exact M.tr_.put .undef o.dst
        · intro e' o' h1 h2 h3
          rw [hset, if_neg (fun e => by subst e; rw [hq] at h3; cases h3)]
          exact M.heap e' o' h1 h2 h3
        · intro i' c' cs' h1 h2 j
          rw [hset] at h2
          by_cases hii : i' = i
          · rw [if_pos hii] at h2; cases h2
          · rw [if_neg hii] at h2
            exact M.wait i' c' cs' h1 h2 j
        · rw [← M.def_]; cases o.dst <;> rfl
      | true =>
      obtain ⟨arr, e, v', hrun, hz1, _, hz2, hvr⟩ := early_run (P := P) (w0 := w0) (B0 := B0) (ρ := ρ) (w := w) hT M.tr_ hearly hzs hlf hgd hval
      have hlt : c < (tr m).2.ctr := by have := R.ctr0 hce m M.mle; omega
      obtain ⟨hle, hsim⟩ := M.sim.lay (arr := arr) e hlt hρ hget' hz1 hlf hz2
      have hlex : ρ.lex c0 (ρ.put c 0 (w.heap.size, 0, arr.size)) := Loc.put_lex (hρ 0) (.inl hcl.1)
      unfold wpOp
      rw [ho]
      simp only
      rw [if_pos (guard_sound M.tr_ hgd)]
      refine .inl ?_
      unfold Oper.wp
      rw [hrun, Oper.upon_value]
      refine ih _ _ _ (ρ.put c 0 (w.heap.size, 0, arr.size)) (putA t o.dst v) m hcount' ⟨by simp [M.size], hclosed', ?_, hslots' _ hv hlent, (by rw [putA_n, M.tn]), M.mle, ?_, hsim, ?_, Loc.lex_trans M.lex hlex (Nat.le_refl _), ?_⟩
      · exact (TR.mono hle M.tr_).put (hvr _ Loc.put_eq) o.dst
      · intro e' o' h1 h2 h3
        rw [hset, if_neg (fun e => by subst e; rw [hq] at h3; cases h3)]
        exact M.heap e' o' h1 h2 h3
      · intro i' c' cs' h1 h2 j
        rw [hset] at h2
        by_cases hii : i' = i
        · rw [if_pos hii] at h2; cases h2
        · rw [if_neg hii] at h2
          have hcc : c' ≠ c := fun e => hii (R.inj i' i c cs' cs (e ▸ h1) hq)
          have := M.wait i' c' cs' h1 h2 j
          unfold Loc.put
          rw [if_neg (fun h => hcc h.1)]
          exact this
      · rw [← M.def_]; cases o.dst <;> rfl
    | none =>
      obtain ⟨s', h1, h2⟩ := R.stepAt i o ho hq
      have hlate := R.late i o ho hq
      by_cases hturn : Oper.turns b o = true
      · -- a turn: the state is the text's
        have hst : (tr m).2 = (tr i).2 := R.state2 hce M.mle (by omega) (fun j oj k1 k2 k3 => by
          have hjn := (Array.getElem?_eq_some_iff.1 k1).1
          rw [← M.heap j oj k1 k2 k3]
          by_cases hji : j = i
          · subst hji
            rw [hunl]
            exact ⟨fun h => (by cases h), fun h => (by omega)⟩
          · rcases R.two j i oj o k1 ho hji with h | h | ⟨_, h⟩
            · exact hord j hjn (.inl h)
            · exact hord j hjn (.inr h)
            · exact absurd ⟨k2, hturn⟩ h)
        obtain ⟨v, hv, hstep⟩ := step_same h1 hagree
        have hsim0 : Sim w0 B0 ρ { (tr i).2 with wr := [] } w := (hst ▸ M.sim).wr []
        refine step_sound hT hcall ho M.tr_ hsim0 hstep (fun ρ' v' u' w' k1 k2 k3 k4 => ?_)
        have hctr : c0 ≤ (tr i).2.ctr := Nat.le_trans hc0 (R.ctr0 hce i (by omega))
        refine ih _ _ _ ρ' (putA t o.dst v) (i + 1) hcount' ⟨by simp [M.size], hclosed', ?_, hslots' v hv hlent, (by rw [putA_n, M.tn]), by omega, ?_, ?_, ?_, Loc.lex_trans M.lex k1 hctr, ?_⟩
        · rw [k4]; exact (TR.mono k1.1 M.tr_).put k3 o.dst
        · intro e' o' q1 q2 q3
          rw [hset]
          by_cases hei : e' = i
          · subst hei; simp
          · rw [if_neg hei]
            have hen := (Array.getElem?_eq_some_iff.1 q1).1
            have : L.getD e' false = true ↔ e' < i := by
              rcases R.two e' i o' o q1 ho hei with h | h | ⟨_, h⟩
              · exact hord e' hen (.inl h)
              · exact hord e' hen (.inr h)
              · exact absurd ⟨q2, hturn⟩ h
            rw [this]
            omega
        · rw [h2]; exact k2.wr _
        · intro i' c' cs' q1 q2 j
          rw [hset] at q2
          by_cases hii : i' = i
          · rw [if_pos hii] at q2; cases q2
          · rw [if_neg hii] at q2
            refine k1.2 c' ?_ (M.wait i' c' cs' q1 q2) j
            have := (R.lt i' c' cs' q1).2
            exact Nat.lt_of_lt_of_le this (R.ctr0 hce i (by omega))
        · rw [← M.def_]; cases o.dst <;> rfl
      · -- it turns nothing
        have he : Op.eff o.op = false := by
          cases h : Op.eff o.op with
          | false => rfl
          | true => exact absurd (by simp [Oper.turns, h, hlate]) hturn
        have hrd : ∀ g, guardA ops (tr i).1 o.guard = some true → readsA (tr i).1 o.op = some g → ({ (tr m).2 with wr := [] } : St).get g = ({ (tr i).2 with wr := [] } : St).get g := by
          intro g hg1 hg2
          have := R.group2 hce (g := g) M.mle (show i ≤ ops.size by omega) (fun j oj se k1 k2 k3 k4 => by
            have hjn := (Array.getElem?_eq_some_iff.1 k1).1
            rcases R.rd i j o oj g se ho hq hg1 hg2 k1 k2 k3 with h | h | h
            · left; rw [← M.heap j oj k1 k4 k2]; exact hord j hjn (.inl h)
            · left; rw [← M.heap j oj k1 k4 k2]; exact hord j hjn (.inr h)
            · exact .inr h)
          exact this
        obtain ⟨hs1, v, hv, hstep⟩ := step_still he h1 hagree hrd
        have hsim0 : Sim w0 B0 ρ { (tr m).2 with wr := [] } w := M.sim.wr []
        refine step_sound hT hcall ho M.tr_ hsim0 hstep (fun ρ' v' u' w' k1 k2 k3 k4 => ?_)
        have hctr : c0 ≤ (tr m).2.ctr := Nat.le_trans hc0 (R.ctr0 hce m M.mle)
        refine ih _ _ _ ρ' (putA t o.dst v) m hcount' ⟨by simp [M.size], hclosed', ?_, hslots' v hv hlent, (by rw [putA_n, M.tn]), M.mle, ?_, ?_, ?_, Loc.lex_trans M.lex k1 hctr, ?_⟩
        · rw [k4]; exact (TR.mono k1.1 M.tr_).put k3 o.dst
        · intro e' o' q1 q2 q3
          rw [hset, if_neg (fun e => by subst e; rw [ho] at q1; cases q1; exact hturn q2)]
          exact M.heap e' o' q1 q2 q3
        · have := k2.wr (tr m).2.wr
          exact this
        · intro i' c' cs' q1 q2 j
          rw [hset] at q2
          by_cases hii : i' = i
          · rw [if_pos hii] at q2; cases q2
          · rw [if_neg hii] at q2
            refine k1.2 c' ?_ (M.wait i' c' cs' q1 q2) j
            have := (R.lt i' c' cs' q1).2
            exact Nat.lt_of_lt_of_le this (R.ctr0 hce m M.mle)
        · rw [← M.def_]; cases o.dst <;> rfl
end
end Go.Ab
