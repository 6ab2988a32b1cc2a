/- Parts of one proof, put together: H1 H2 H3 H4 H5 H6 H7 H8 H9 H10 H11 H12 H13 H14 H15 H16 H17 H0 H19 H20 H21 H0b H22 H23 H24 H25 H26 H27 HZ HP D1 D2 D3 D10 P1 D4 D5 D6 D7 D8 D9 P2 S1 P5 P6 P7 P8 P9 H28. -/
import Derived.Test.YtdjekmljjhehhaaGreatDoorFL2
namespace Go.Ab
instance lawB : LawfulBEq ByteArray where
 eq_of_beq {a b} h := by
  rw [beq_toListBytes, ByteArray.toList_eq, ByteArray.toList_eq, beq_iff_eq] at h
  exact ByteArray.ext (Array.ext' h)
 rfl {a} := by rw [beq_toListBytes, beq_self_eq_true]
abbrev Sy := List (Nat × AV)
def Sy.at : Sy → Nat → Option AV
 | [], _ => none
 | (j, v) :: r, i => bif Nat.beq i j then some v else Sy.at r i
structure NT where
 n : Nat
 cols : Bool := false
 rd : Option Nat := none
instance {n : Nat} : OfNat NT n := ⟨⟨n, false, none⟩⟩
def DefA.isCol : DefA → Bool
 | .col _ => true
 | _ => false
structure Has (t : TL) (nt : NT) (m : Sy) : Prop where
 n : t.n = nt.n
 ds : ∀ d ∈ t.ds, nt.cols = true ∧ d.isCol = true
 rd : t.rd = nt.rd
 at_ : ∀ i v, m.at i = some v → t.get i = v
def Sub (m' m : Sy) : Prop := ∀ i v, m'.at i = some v → m.at i = some v
theorem Sub.nil (m : Sy) : Sub [] m := fun _ _ h => by cases h
theorem Sub.cons {i : Nat} {v : AV} {r m : Sy} (h : m.at i = some v) (hr : Sub r m) : Sub ((i, v) :: r) m := by
 intro j x hx
 unfold Sy.at at hx
 by_cases hi : j = i
 ·subst hi
  rw [nb_t rfl, cond_true] at hx
  rw [h]; exact hx
 ·rw [nb_f hi, cond_false] at hx
  exact hr j x hx
theorem Sub.refl (m : Sy) : Sub m m := fun _ _ h => h
def syOf : Nat → List AV → Sy
 | _, [] => []
 | k, a :: r => (k, a) :: syOf (k + 1) r
theorem syOf_at : ∀ (l : List AV) (k i : Nat) (v : AV), (syOf k l).at i = some v → k ≤ i ∧ l[i - k]? = some v
 | [], _, _, _, h => by cases h
 | a :: r, k, i, v, h => by
  unfold syOf Sy.at at h
  by_cases hi : i = k
  ·subst hi
   rw [nb_t rfl, cond_true] at h
   exact ⟨nlr _, by simpa using h⟩
  ·rw [nb_f hi, cond_false] at h
   obtain ⟨h1, h2⟩ := syOf_at r (k + 1) i v h
   refine ⟨by omega, ?_⟩
   rw [show i - k = (i - (k + 1)) + 1 by omega]
   simpa using h2
def evY (m : Sy) : Operand → Option AV
 | .tmp i => m.at i
 | .const v => ofVal v
 | .global _ => none
 | .func f => bif Nat.ble yb f then none else some (.fn f [])
theorem evY_ok {t : TL} {nt : NT} {m : Sy} (h : Has t nt m) {x : Operand} {v : AV} (e : evY m x = some v) : ev t x = some v := by
 cases x with
 | tmp i => exact congrArg some (h.at_ i v e)
 | global g => exact absurd (show (none : Option AV) = some v from e) (by simp)
 | func f =>
  have e : (bif Nat.ble yb f then none else some (AV.fn f [])) = some v := e
  show (if f < yb then some (AV.fn f []) else none) = some v
  cases hb : Nat.ble yb f with
  | true => rw [hb, cond_true] at e; cases e
  | false =>
   rw [hb, cond_false] at e
   rw [if_pos (Nat.lt_of_not_le fun h => by rw [Nat.ble_eq_true_of_le h] at hb; cases hb)]
   exact e
 | _ => exact e
def evsY (m : Sy) : List Operand → Option (List AV)
 | [] => some []
 | x :: r => match evY m x with
  | none => none
  | some v => match evsY m r with
   | none => none
   | some vs => some (v :: vs)
theorem evsY_ok {t : TL} {nt : NT} {m : Sy} (h : Has t nt m) : ∀ {l : List Operand} {vs : List AV}, evsY m l = some vs → evs t l = some vs
 | [], _, e => e
 | x :: r, vs, e => by
  unfold evsY at e
  unfold evs
  cases hx : evY m x with
  | none => rw [hx] at e; cases e
  | some v =>
   rw [hx] at e
   cases hr : evsY m r with
   | none => rw [hr] at e; cases e
   | some ws =>
    rw [hr] at e
    rw [evY_ok h hx, evsY_ok h hr]
    exact e
def evPartsY (m : Sy) : List (Nat × Operand) → Option (List (Nat × AV))
 | [] => some []
 | p :: r => match evY m p.2 with
  | none => none
  | some v => match evPartsY m r with
   | none => none
   | some vs => some ((p.1, v) :: vs)
theorem evPartsY_ok {t : TL} {nt : NT} {m : Sy} (h : Has t nt m) : ∀ {l : List (Nat × Operand)} {vs : List (Nat × AV)}, evPartsY m l = some vs → evParts t l = some vs
 | [], _, e => e
 | (i, x) :: r, vs, e => by
  unfold evPartsY at e
  unfold evParts
  cases hx : evY m x with
  | none => simp only [hx] at e; cases e
  | some v =>
   simp only [hx] at e
   cases hr : evPartsY m r with
   | none => rw [hr] at e; cases e
   | some ws =>
    rw [hr] at e
    rw [evY_ok h hx, evPartsY_ok h hr]
    exact e
def guardY (ops : Array Oper) (m : Sy) : Option (Nat × Bool) → Option Bool
 | none => some true
 | some (j, want) => match (ops[j]?).bind (·.dst) with
  | none => some false
  | some d => match m.at d with
   | some (.bool b) => some (b == want)
   | some .undef => some false
   | _ => none
def putY (m : Sy) : Option Nat → AV → Sy
 | none, _ => m
 | some d, v => (d, v) :: m
def dstOk (nt : NT) : Option Nat → Bool
 | none => true
 | some d => Nat.ble (d + 1) nt.n
noncomputable def ovTr : Sy → Tr AV → Tr AV
 | [], t => t
 | (i, v) :: r, t => Tr.set v (ovTr r t) i
theorem ovTr_get : ∀ (m : Sy) (t : Tr AV) (i : Nat), (ovTr m t).get i = match m.at i with
  | some v => some v
  | none => t.get i
 | [], _, _ => rfl
 | (j, v) :: r, t, i => by
  rw [ovTr, Tr.get_set]
  unfold Sy.at
  by_cases h : i = j
  ·rw [if_pos h, nb_t h, cond_true]
  ·rw [if_neg h, nb_f h, cond_false]
   exact ovTr_get r t i
structure Conc (D : Nat → Prop) (nt : NT) (m : Sy) (z : St) (t : TL) (s : St) : Prop where
 st : StZ D s z
 n : t.n = nt.n
 ds : ∀ d ∈ t.ds, nt.cols = true ∧ d.isCol = true
 rd : t.rd = nt.rd
 at_ : ∀ i v, m.at i = some v → FzL s.h D [t.get i] [v]
section
variable {D D' : Nat → Prop} {nt : NT} {m m' : Sy} {z z' s s' : St} {t : TL}
theorem Conc.told (h : Conc D nt m z t s) : ∃ t0, Has t0 nt m ∧ TLZ s.h D t t0 := by
 have hget : ∀ i, (⟨t.n, ovTr m t.tr, t.ds, t.rd, t.gl⟩ : TL).get i = match m.at i with
   | some v => v
   | none => t.get i := fun i => by
  show (@Option.rec AV (fun _ => AV) .undef (fun v => v) (Tr.get (ovTr m t.tr) i)) = _
  rw [ovTr_get]
  cases m.at i <;> rfl
 refine ⟨⟨t.n, ovTr m t.tr, t.ds, t.rd, t.gl⟩, ⟨h.n, h.ds, h.rd, fun i v e => by rw [hget, e]⟩, ⟨rfl, rfl, rfl, DsZ.refl _, fun i => ?_⟩⟩
 rw [hget]
 cases e : m.at i with
 | none => exact .refl _
 | some v => exact h.at_ i v e
theorem Conc.set (h : Conc D nt m z t s) {d : Nat} {v' v : AV} (hd : d < nt.n) (hv : FzL s.h D [v'] [v]) : Conc D nt ((d, v) :: m) z (t.set d v') s := by
 refine ⟨h.st, by rw [TL.n_set, h.n], by rw [TL.ds_set]; exact h.ds, by rw [TL.rd_set]; exact h.rd, fun i x hx => ?_⟩
 rw [TL.get_set]
 unfold Sy.at at hx
 by_cases hi : i = d
 ·subst hi
  rw [nb_t rfl, cond_true] at hx
  rw [if_pos ⟨rfl, by rw [h.n]; exact hd⟩]
  cases hx
  exact hv
 ·rw [nb_f hi, cond_false] at hx
  rw [if_neg (fun e => hi e.1)]
  exact h.at_ i x hx
theorem Conc.put (h : Conc D nt m z t s) {d : Option Nat} {v' v : AV} (hd : dstOk nt d = true) (hv : FzL s.h D [v'] [v]) : Conc D nt (putY m d v) z (putA t d v') s := by
 cases d with
 | none => exact h
 | some d => exact h.set (Nat.le_of_ble_eq_true hd) hv
theorem Conc.sub (h : Conc D nt m z t s) (hs : Sub m' m) : Conc D nt m' z t s := ⟨h.st, h.n, h.ds, h.rd, fun i v e => h.at_ i v (hs i v e)⟩
theorem Conc.pass (h : Conc D nt m z t s) (p : Pass D s D' s') (k : StZ D' s' z') : Conc D' nt m z' t s' := ⟨k, h.n, h.ds, h.rd, fun i v e => (h.at_ i v e).mono p.un p.sub⟩
theorem Conc.hard (h : Conc D nt m z t s) {i : Nat} {v : AV} (e : m.at i = some v) (hv : v.hard = true) : t.get i = v := (h.at_ i v e).hard hv
theorem guardC_ok {ops : Array Oper} (h : Conc D nt m z t s) {g : Option (Nat × Bool)} {b : Bool} (e : guardY ops m g = some b) : guardA ops t g = some b := by
 cases g with
 | none => exact e
 | some q =>
  obtain ⟨j, want⟩ := q
  unfold guardY at e
  unfold guardA
  simp only at e ⊢
  cases hd : (ops[j]?).bind (·.dst) with
  | none => rw [hd] at e; exact e
  | some d =>
   rw [hd] at e
   simp only at e ⊢
   cases hm : m.at d with
   | none => rw [hm] at e; cases e
   | some v =>
    rw [hm] at e
    cases v with
    | bool b => rw [h.hard hm rfl]; exact e
    | undef => rw [h.hard hm rfl]; exact e
    | _ => cases e
end
section
variable {P : Program} {T : Tab} {K : Kn}
def CallS (P : Program) (T : Tab) (K : Kn) (f : FuncId) (args : List AV) (z : St) (Q : AV → St → Prop) : Prop :=
 ∃ N v z', Q v z' ∧ ∀ n, N ≤ n → ∀ (D : Nat → Prop) (s : St) (args' : List AV), StZ D s z → FzL s.h D args' args → ∃ (D' : Nat → Prop) (v' : AV) (s' : St), evX P T K n f args' s = some (.ret v', s') ∧ Pass D s D' s' ∧ StZ D' s' z' ∧ FzL s'.h D' [v'] [v]
def W (P : Program) (T : Tab) (K : Kn) (nt : NT) (ops : Array Oper) (l : List Oper) (m : Sy) (z : St) (Q : Sy → St → Prop) : Prop :=
 ∃ N m' z', Q m' z' ∧ ∀ n, N ≤ n → ∀ (D : Nat → Prop) (t : TL) (s : St), Conc D nt m z t s → ∃ (D' : Nat → Prop) (t' : TL) (s' : St), evOps T (evX P T K n) ops l t s = some (t', s') ∧ Pass D s D' s' ∧ Conc D' nt m' z' t' s'
def W1 (fz : Bool) (P : Program) (T : Tab) (K : Kn) (nt : NT) (ops : Array Oper) (o : Oper) (m : Sy) (z : St) (Q : Sy → St → Prop) : Prop :=
 ∃ N m' z', Q m' z' ∧ ∀ n, N ≤ n → ∀ (D : Nat → Prop) (t : TL) (s : St), Conc D nt m z t s → ∃ (D' : Nat → Prop) (t' : TL) (s' : St), evStep T (evX P T K n) ops o t s = some (t', s') ∧ Pass D s D' s' ∧ (fz = false → ∀ g, D' g → D g) ∧ Conc D' nt m' z' t' s'
def WD (P : Program) (T : Tab) (K : Kn) (nt : NT) (ops : Array Oper) (l : List Oper) (m : Sy) (z : St) (Dd : Nat → Prop) (Q : Sy → St → Prop) : Prop :=
 ∃ N m' z', Q m' z' ∧ ∀ n, N ≤ n → ∀ (D : Nat → Prop) (t : TL) (s : St), Conc D nt m z t s → ∃ (D' : Nat → Prop) (t' : TL) (s' : St) (es : List Entry), evLog T (evX P T K n) ops l (l.map fun _ => none) t s = some (t', s', es) ∧ Pass D s D' s' ∧ Conc D' nt m' z' t' s' ∧ LogZ ops Dd es D
def WC (P : Program) (T : Tab) (K : Kn) (nt : NT) (c : Code) (m : Sy) (z : St) (Q : Ex → Sy → St → Prop) : Prop :=
 ∃ N e m' z', Q e m' z' ∧ ∀ n k, N ≤ n → N ≤ k → ∀ (D : Nat → Prop) (t : TL) (s : St), Conc D nt m z t s → ∃ (D' : Nat → Prop) (t' : TL) (s' : St), evCode T (evX P T K n) k c t s = some (e, t', s') ∧ Pass D s D' s' ∧ Conc D' nt m' z' t' s'

variable {nt : NT} {ops : Array Oper} {o : Oper} {rest : List Oper} {m : Sy} {s : St} {Q : Sy → St → Prop} {fz : Bool}
theorem CallS.mono {f : FuncId} {args : List AV} {Q R : AV → St → Prop} (h : CallS P T K f args s Q) (k : ∀ v s', Q v s' → R v s') : CallS P T K f args s R := by
 obtain ⟨N, v, s', hq, hn⟩ := h
 exact ⟨N, v, s', k _ _ hq, hn⟩
theorem w_nil (h : Q m s) : W P T K nt ops [] m s Q := ⟨0, m, s, h, fun _ _ D t x ht => ⟨D, t, x, rfl, .refl, ht⟩⟩
theorem w_cons (h : W1 true P T K nt ops o m s fun m1 s1 => W P T K nt ops rest m1 s1 Q) : W P T K nt ops (o :: rest) m s Q := by
 obtain ⟨N, m1, s1, ⟨N', m', s', hq, h'⟩, hn⟩ := h
 refine ⟨max N N', m', s', hq, fun n hn' D t x ht => ?_⟩
 obtain ⟨D1, t1, x1, e1, p1, -, ht1⟩ := hn n (by omega) D t x ht
 obtain ⟨D2, t2, x2, e2, p2, ht2⟩ := h' n (by omega) D1 t1 x1 ht1
 exact ⟨D2, t2, x2, by rw [evOps, evStepX, e1]; exact e2, p1.trans p2, ht2⟩
theorem op_conc {D : Nat → Prop} {t : TL} {x : St} {op : Op} {r : Res} {s' : St} (ht : Conc D nt m s t x) (h : ∀ t, Has t nt m → evOp T op t s = some (r, s')) : ∃ r' x1, evOp T op t x = some (r', x1) ∧ StepZ D x s x1 s' ∧ ResZ x.h D r' r := by
 obtain ⟨t0, h0, hT⟩ := ht.told
 exact evOp_ref ht.st hT (h t0 h0)
theorem w1_val {v : AV} {s' : St} (hg : guardY ops m o.guard = some true) (hd : dstOk nt o.dst = true) (h : ∀ t, Has t nt m → evOp T o.op t s = some (.val v, s')) (k : Q (putY m o.dst v) s') : W1 fz P T K nt ops o m s Q :=
 ⟨0, _, _, k, fun n _ D t x ht => by
   obtain ⟨r', x1, e1, hs, hr⟩ := op_conc ht h
   cases r' with
   | val v' => exact ⟨D, putA t o.dst v', x1, by rw [evStep, guardC_ok ht hg, e1], hs.pass, fun _ _ h => h, (ht.pass hs.pass hs.st).put hd (FzL.mono hr hs.un fun _ h => h)⟩
   | _ => exact False.elim hr⟩
theorem w1_skip {s' : St} (hg : guardY ops m o.guard = some true) (hd : dstOk nt o.dst = true) (h : ∀ t, Has t nt m → evOp T o.op t s = some (.skip, s')) (k : Q (putY m o.dst .undef) s') : W1 fz P T K nt ops o m s Q :=
 ⟨0, _, _, k, fun n _ D t x ht => by
   obtain ⟨r', x1, e1, hs, hr⟩ := op_conc ht h
   cases r' with
   | skip => exact ⟨D, putA t o.dst .undef, x1, by rw [evStep, guardC_ok ht hg, e1], hs.pass, fun _ _ h => h, (ht.pass hs.pass hs.st).put hd (.refl _)⟩
   | _ => exact False.elim hr⟩
theorem w1_off (hg : guardY ops m o.guard = some false) (hd : dstOk nt o.dst = true) (k : Q (putY m o.dst .undef) s) : W1 fz P T K nt ops o m s Q :=
 ⟨0, _, _, k, fun _ _ D t x ht => ⟨D, _, x, by rw [evStep, guardC_ok ht hg], .refl, fun _ _ h => h, ht.put hd (.refl _)⟩⟩
theorem call_conc {D : Nat → Prop} {t : TL} {x : St} {op : Op} {f : FuncId} {args : List AV} {s' : St} (ht : Conc D nt m s t x) (h : ∀ t, Has t nt m → evOp T op t s = some (.call f args, s')) : ∃ args' x1, evOp T op t x = some (.call f args', x1) ∧ Pass D x D x1 ∧ StZ D x1 s' ∧ FzL x1.h D args' args := by
 obtain ⟨r', x1, e1, hs, hr⟩ := op_conc ht h
 cases r' with
 | call g a' =>
  obtain ⟨rfl, ha⟩ := hr
  exact ⟨a', x1, e1, hs.pass, hs.st, ha.mono hs.un fun _ h => h⟩
 | _ => exact False.elim hr
theorem w1_call {f : FuncId} {args : List AV} {R : AV → St → Prop} (hg : guardY ops m o.guard = some true) (hd : dstOk nt o.dst = true) (h : ∀ t, Has t nt m → evOp T o.op t s = some (.call f args, s)) (hc : CallS P T K f args s R)
  (k : ∀ v s', R v s' → Q (putY m o.dst v) s') (hf : fz = true := by rfl) : W1 fz P T K nt ops o m s Q := by
 obtain ⟨N, v, s', hr, hn⟩ := hc
 refine ⟨N, _, _, k v s' hr, fun n hn' D t x ht => ?_⟩
 obtain ⟨a', x1, e1, hp, hst, ha⟩ := call_conc ht h
 obtain ⟨D', v', x', e2, p2, h2, h3⟩ := hn n hn' D x1 a' hst ha
 exact ⟨D', putA t o.dst v', x', by rw [evStep, guardC_ok ht hg, e1]; simp only [e2], hp.trans p2, (fun h => by rw [hf] at h; cases h), (ht.pass (hp.trans p2) h2).put hd h3⟩
def AV.pl : AV → Bool
 | .tup vs => vs.all AV.hard
 | .agg vs => vs.all AV.hard
 | v => v.hard
theorem FzL.hards {h : Tr Grp} {D : Nat → Prop} : ∀ {l' l : List AV}, FzL h D l' l → l.all AV.hard = true → l' = l
 | _, [], k, _ => by cases k; rfl
 | l', v :: l, k, e => by
  match l', k with
  | v' :: l', k =>
   obtain ⟨k1, k2⟩ := k.uncons
   rw [List.all_cons, Bool.and_eq_true] at e
   rw [k1.hard e.1, k2.hards e.2]
theorem FzL.pl {h : Tr Grp} {D : Nat → Prop} {v' v : AV} (k : FzL h D [v'] [v]) (e : v.pl = true) : v' = v := by
 cases v with
 | tup vs => obtain ⟨ws, rfl, hw⟩ := k.inv_tup; rw [hw.hards e]
 | agg vs => obtain ⟨ws, rfl, hw⟩ := k.inv_agg; rw [hw.hards e]
 | _ => exact k.hard e
theorem w1_call0 {f : FuncId} {args : List AV} {R : AV → St → Prop} (hz : s.wr = []) (hg : guardY ops m o.guard = some true) (hd : dstOk nt o.dst = true) (h : ∀ t, Has t nt m → evOp T o.op t s = some (.call f args, s)) (hc : CallS P T K f args s R)
  (hs : ∀ v s', R v s' → v.pl = true ∧ ∀ g ∈ s'.wr, Tr.get s.h g = none) (k : ∀ v s', R v s' → Q (putY m o.dst v) ⟨s'.ctr, s.h, s'.wr⟩) : W1 fz P T K nt ops o m s Q := by
 obtain ⟨N, v, s', hr, hn⟩ := hc
 refine ⟨N, _, _, k v s' hr, fun n hn' D t x ht => ?_⟩
 obtain ⟨a', x1, e1, hp, hst, ha⟩ := call_conc ht h
 obtain ⟨D', v', x', e2, p2, h2, h3⟩ := hn n hn' D x1 a' hst ha
 obtain ⟨hpl, hw⟩ := hs v s' hr
 have hv := h3.pl hpl
 subst hv
 have hx := Ext.calls (P := P) (K := K) n _ _ _ _ _ e2
 obtain ⟨hc1, w, hw1, hw2⟩ := hx
 have hx1 : x1.wr = [] := by rw [hst.wr, hz]
 rw [hx1, List.append_nil] at hw1
 have hstD : StZ D x' ⟨s'.ctr, s.h, s'.wr⟩ := by
  refine ⟨h2.ctr, h2.wr, fun g G hG => ?_, fun g hg => Nat.lt_of_lt_of_le (hst.bd g hg) hc1⟩
  obtain ⟨q1, G', q2, q3⟩ := hst.get g G hG
  have : g ∉ w := fun hm => by
   have := hw g (by rw [← h2.wr, hw1]; exact hm)
   rw [this] at hG
   cases hG
  exact ⟨q1, G', by rw [show Tr.get x'.h g = Tr.get x1.h g from hw2 g this]; exact q2, q3.mono p2.un fun _ h => h⟩
 have hpD : Pass D x1 D x' := ⟨fun _ h => h, p2.un, p2.wr⟩
 exact ⟨D, putA t o.dst v', x', by rw [evStep, guardC_ok ht hg, e1]; simp only [e2], hp.trans hpD, fun _ _ h => h, (ht.pass (hp.trans hpD) hstD).put hd (.refl _)⟩

def St.bare (s : St) : St := { s with wr := [] }
variable {D : Nat → Prop}
theorem wd_nil (h : Q m s) : WD P T K nt ops [] m s D Q := ⟨0, m, s, h, fun _ _ E t x ht => ⟨E, t, x, [], rfl, .refl, ht, trivial⟩⟩
theorem reads_ref {h : Tr Grp} {E : Nat → Prop} {t t0 : TL} (hT : TLZ h E t t0) {op : Op} {g : Nat} (e : readsA t op = some g) : readsA t0 op = some g ∨ E g := by
 have key : ∀ (a : Operand) (v : AV), ev t a = some v → ∃ v0, ev t0 a = some v0 ∧ FzL h E [v] [v0] := by
  intro a v e
  cases a with
  | tmp i => cases e; exact ⟨_, rfl, hT.get i⟩
  | const c => exact ⟨v, e, .refl _⟩
  | global g => exact ⟨v, by show t0.gl g = some v; rw [← hT.gl]; exact e, .refl _⟩
  | func f => exact ⟨v, e, .refl _⟩
 have kp : ∀ (a : Operand), (match ev t a with | some (.ptr g _ _) => some g | _ => none) = some g → (match ev t0 a with | some (.ptr g _ _) => some g | _ => none) = some g ∨ E g := by
  intro a e
  split at e
  ·rename_i g' j o hv
   cases e
   obtain ⟨v0, h1, h2⟩ := key a _ hv
   rw [h1]
   cases h2 with
   | same => exact .inl rfl
   | ptr hg _ _ _ _ => exact .inr hg
  ·cases e
 unfold readsA at e ⊢
 split at e
 ·exact kp _ e
 ·exact kp _ e
 ·split at e
  ·rename_i hv
   cases e
   obtain ⟨v0, h1, h2⟩ := key _ _ hv
   simp only [h1]
   cases h2 with
   | same => exact .inl rfl
  ·cases e
 ·cases e
theorem bare_stz {E : Nat → Prop} {x : St} (h : StZ E x s) : StZ E x.bare s.bare := ⟨h.ctr, rfl, h.get, h.bd⟩
theorem wd_consG (hr : (∀ t, Has t nt m → ∀ g, readsA t o.op = some g → D g) ∨ rdAt ops rest.length = true)
  (h : W1 (fzAt ops rest.length) P T K nt ops o m s.bare fun m1 s1 => (∀ g ∈ s1.wr, ¬ D g) ∧ WD P T K nt ops rest m1 { s1 with wr := s1.wr ++ s.wr } D Q) : WD P T K nt ops (o :: rest) m s D Q := by
 obtain ⟨N, m1, s1, ⟨hw, N', m', s', hq, h'⟩, hn⟩ := h
 refine ⟨max N N', m', s', hq, fun n hn' E t x ht => ?_⟩
 have htb : Conc E nt m s.bare t x.bare := ⟨bare_stz ht.st, ht.n, ht.ds, ht.rd, ht.at_⟩
 obtain ⟨E1, t1, x1, e1, p1, hf, ht1⟩ := hn n (by omega) E t x.bare htb
 obtain ⟨w, hw1, hw2⟩ := p1.wr
 have hw1 : x1.wr = w := by rw [hw1]; exact List.append_nil w
 have ht1' : Conc E1 nt m1 { s1 with wr := s1.wr ++ s.wr } t1 { x1 with wr := x1.wr ++ x.wr } := ⟨⟨ht1.st.ctr, by simp only [ht1.st.wr, ht.st.wr], ht1.st.get, ht1.st.bd⟩, ht1.n, ht1.ds, ht1.rd, ht1.at_⟩
 have p1' : Pass E x E1 { x1 with wr := x1.wr ++ x.wr } := ⟨p1.sub, p1.un, w, by simp only [hw1], hw2⟩
 obtain ⟨E2, t2, x2, es, e2, p2, ht2, hL⟩ := h' n (by omega) E1 t1 _ ht1'
 refine ⟨E2, t2, x2, _ :: es, by rw [List.map_cons, evLog]; rw [show ({ x with wr := [] } : St) = x.bare from rfl, e1]; simp only; rw [e2], p1'.trans p2, ht2, rfl, fun g hg => ?_, fun g hg => ⟨hw g (by rw [← ht1.st.wr]; exact hg), hw2 g (by rw [← hw1]; exact hg)⟩, E1, p1.sub, (by rw [(evLog_kinds _ e2).1]; exact hf), hL⟩
 simp only at hg
 split at hg
 ·obtain ⟨t0, h0, hT⟩ := ht.told
  rcases hr with hr | hr
  ·rcases reads_ref hT hg with h1 | h1
   ·exact .inl (hr t0 h0 g h1)
   ·exact .inr (.inl h1)
  ·exact .inr (.inr (by rw [(evLog_kinds _ e2).1]; exact hr))
 ·cases hg
theorem wd_cons (hr : ∀ t, Has t nt m → ∀ g, readsA t o.op = some g → D g)
  (h : W1 (fzAt ops rest.length) P T K nt ops o m s.bare fun m1 s1 => (∀ g ∈ s1.wr, ¬ D g) ∧ WD P T K nt ops rest m1 { s1 with wr := s1.wr ++ s.wr } D Q) : WD P T K nt ops (o :: rest) m s D Q := wd_consG (.inl hr) h

theorem wd_offG {op : Op} {d ty : Nat} {pos : String} {af : Array Edge} {g : Option (Nat × Bool)} (hg : guardY ops m g = some false) (hd : Nat.ble (d + 1) nt.n = true) (k : WD P T K nt ops rest ((d, .undef) :: m) s D Q) :
  WD P T K nt ops (⟨some d, op, ty, pos, af, g⟩ :: rest) m s D Q := by
 obtain ⟨N, m', s', hq, hn⟩ := k
 refine ⟨N, m', s', hq, fun n hn' E t x ht => ?_⟩
 have hgc := guardC_ok (g := g) ht hg
 have ht1 : Conc E nt ((d, .undef) :: m) s (t.set d .undef) { x with wr := [] ++ x.wr } := ht.set (Nat.le_of_ble_eq_true hd) (.refl _)
 obtain ⟨E2, t2, x2, es, e2, p2, ht2, hL⟩ := hn n hn' E _ _ ht1
 refine ⟨E2, t2, x2, ⟨none, [], none⟩ :: es, ?_, p2, ht2, rfl, (fun g hg => by cases hg), (fun g hg => by cases hg), E, fun _ h => h, fun _ _ h => h, hL⟩
 rw [List.map_cons, evLog]
 have : evStep T (evX P T K n) ops ⟨some d, op, ty, pos, af, g⟩ t { x with wr := [] } = some (t.set d .undef, { x with wr := [] }) := by
  simp only [evStep, hgc]; rfl
 rw [this]
 simp only
 rw [e2]
 simp [hgc]

variable {c a b : Code} {R : Ex → Sy → St → Prop}
theorem wc_region {id : Nat} (h : W P T K nt ops ops.toList m s (R .normal)) : WC P T K nt (.region id ops false) m s R := by
 obtain ⟨N, m', s', hq, hn⟩ := h
 refine ⟨N + 1, .normal, m', s', hq, fun n k hn1 hk E t x ht => ?_⟩
 obtain ⟨E', t', x', e1, p1, ht'⟩ := hn n (by omega) E t x ht
 obtain ⟨k, rfl⟩ : ∃ j, k = j + 1 := ⟨k - 1, by omega⟩
 exact ⟨E', t', x', by simp only [evCode, e1], p1, ht'⟩
def noEarly (l : List Oper) : Bool := l.all fun o => !Oper.early false o
theorem hoist_none : ∀ (l : List Oper) (gs : List (List AV)) (s : St), noEarly l = true → hoist false T l gs s = some (s, l.map fun _ => none)
 | [], _, _, _ => rfl
 | o :: l, gs, s, h => by
  simp only [noEarly, List.all_cons, Bool.and_eq_true, Bool.not_eq_true'] at h
  rw [hoist]
  simp only [h.1, Bool.false_eq_true, if_false]
  rw [hoist_none l gs.tail s (by simpa [noEarly] using h.2)]
  rfl
theorem wc_draw {id : Nat} (D : Nat → Prop) (hd : drawOk false ops = true) (hl : noEarly ops.toList = true) (h : WD P T K nt ops ops.toList m s D (R .normal)) : WC P T K nt (.region id ops true) m s R := by
 obtain ⟨N, m', s', hq, hn⟩ := h
 refine ⟨N + 1, .normal, m', s', hq, fun n k hn1 hk E t x ht => ?_⟩
 obtain ⟨E', t', x', es, e1, p1, ht', he⟩ := hn n (by omega) E t x ht
 obtain ⟨k, rfl⟩ : ∃ j, k = j + 1 := ⟨k - 1, by omega⟩
 refine ⟨E', t', x', ?_, p1, ht'⟩
 have : evDraw T (evX P T K n) false [] ops t x = some (t', x') := by
  unfold evDraw
  rw [hoist_none ops.toList [] x hl]
  simp only [e1, logOk_z e1 he, if_true]
 simp only [evCode, hd, if_true, this]
theorem wc_skip (h : R .normal m s) : WC P T K nt .skip m s R := ⟨1, .normal, m, s, h, fun n k _ hk E t x ht => by
  obtain ⟨k, rfl⟩ : ∃ j, k = j + 1 := ⟨k - 1, by omega⟩
  exact ⟨E, t, x, by simp only [evCode], .refl, ht⟩⟩
theorem wc_exit {id : Nat} (h : R (.exit id) m s) : WC P T K nt (.exit id) m s R := ⟨1, .exit id, m, s, h, fun n k _ hk E t x ht => by
  obtain ⟨k, rfl⟩ : ∃ j, k = j + 1 := ⟨k - 1, by omega⟩
  exact ⟨E, t, x, by simp only [evCode], .refl, ht⟩⟩
theorem wc_ret (h : R .ret m s) : WC P T K nt .ret m s R := ⟨1, .ret, m, s, h, fun n k _ hk E t x ht => by
  obtain ⟨k, rfl⟩ : ∃ j, k = j + 1 := ⟨k - 1, by omega⟩
  exact ⟨E, t, x, by simp only [evCode], .refl, ht⟩⟩
theorem wc_mono {R' : Ex → Sy → St → Prop} (h : WC P T K nt c m s R') (k : ∀ e m' s', R' e m' s' → R e m' s') : WC P T K nt c m s R := by
 obtain ⟨N, e, m', s', hq, hn⟩ := h
 exact ⟨N, e, m', s', k _ _ _ hq, hn⟩
def Then (P : Program) (T : Tab) (K : Kn) (nt : NT) (b : Code) (R : Ex → Sy → St → Prop) : Ex → Sy → St → Prop
 | .normal, m, s => WC P T K nt b m s R
 | e, m, s => R e m s
theorem wc_seq (h : WC P T K nt a m s (Then P T K nt b R)) : WC P T K nt (.seq a b) m s R := by
 obtain ⟨N, e, m1, s1, hq, hn⟩ := h
 by_cases he : e = .normal
 ·subst he
  obtain ⟨N', e', m', s', hq', hn'⟩ := hq
  refine ⟨max N N' + 1, e', m', s', hq', fun n k hn1 hk E t x ht => ?_⟩
  obtain ⟨k, rfl⟩ : ∃ j, k = j + 1 := ⟨k - 1, by omega⟩
  obtain ⟨E1, t1, x1, e1, p1, ht1⟩ := hn n k (by omega) (by omega) E t x ht
  obtain ⟨E2, t2, x2, e2, p2, ht2⟩ := hn' n k (by omega) (by omega) E1 t1 x1 ht1
  exact ⟨E2, t2, x2, by simp only [evCode, e1, e2], p1.trans p2, ht2⟩
 ·refine ⟨N + 1, e, m1, s1, ?_, fun n k hn1 hk E t x ht => ?_⟩
  ·cases e <;> first | exact absurd rfl he | exact hq
  ·obtain ⟨k, rfl⟩ : ∃ j, k = j + 1 := ⟨k - 1, by omega⟩
   obtain ⟨E1, t1, x1, e1, p1, ht1⟩ := hn n k (by omega) (by omega) E t x ht
   exact ⟨E1, t1, x1, by cases e <;> first | exact absurd rfl he | simp only [evCode, e1], p1, ht1⟩
theorem evC_bool {E : Nat → Prop} {t : TL} {x : St} (ht : Conc E nt m s t x) {q : Operand} {y : Bool} (hq : evY m q = some (.bool y)) : ev t q = some (.bool y) := by
 obtain ⟨t0, h0, hT⟩ := ht.told
 obtain ⟨v', e1, e2⟩ := ev_ref hT (evY_ok h0 hq)
 rw [e1, e2.hard rfl]
theorem wc_cond {q : Operand} {x : Bool} (hq : evY m q = some (.bool x)) (ha : x = true → WC P T K nt a m s R) (hb : x = false → WC P T K nt b m s R) : WC P T K nt (.cond q a b) m s R := by
 have h : WC P T K nt (if x then a else b) m s R := by
  cases x with
  | true => exact ha rfl
  | false => exact hb rfl
 obtain ⟨N, e, m', s', hr, hn⟩ := h
 refine ⟨N + 1, e, m', s', hr, fun n k hn1 hk E t y ht => ?_⟩
 obtain ⟨k, rfl⟩ : ∃ j, k = j + 1 := ⟨k - 1, by omega⟩
 obtain ⟨E1, t1, y1, e1, p1, ht1⟩ := hn n k (by omega) (by omega) E t y ht
 exact ⟨E1, t1, y1, by simp only [evCode, evC_bool ht hq, e1], p1, ht1⟩
def Out (id : Nat) (R : Ex → Sy → St → Prop) : Ex → Sy → St → Prop
 | .exit id', m, s => (id' = id → R .normal m s) ∧ (id' ≠ id → R (.exit id') m s)
 | e, m, s => R e m s
theorem wc_block {id : Nat} (h : WC P T K nt b m s (Out id R)) : WC P T K nt (.block id b) m s R := by
 obtain ⟨N, e, m', s', hq, hn⟩ := h
 cases e with
 | exit id' =>
  by_cases hi : id' = id
  ·refine ⟨N + 1, .normal, m', s', hq.1 hi, fun n k hn1 hk E t x ht => ?_⟩
   obtain ⟨k, rfl⟩ : ∃ j, k = j + 1 := ⟨k - 1, by omega⟩
   obtain ⟨E1, t1, x1, e1, p1, ht1⟩ := hn n k (by omega) (by omega) E t x ht
   exact ⟨E1, t1, x1, by simp only [evCode, e1, hi, if_true], p1, ht1⟩
  ·refine ⟨N + 1, .exit id', m', s', hq.2 hi, fun n k hn1 hk E t x ht => ?_⟩
   obtain ⟨k, rfl⟩ : ∃ j, k = j + 1 := ⟨k - 1, by omega⟩
   obtain ⟨E1, t1, x1, e1, p1, ht1⟩ := hn n k (by omega) (by omega) E t x ht
   exact ⟨E1, t1, x1, by simp only [evCode, e1, hi, if_false], p1, ht1⟩
 | _ =>
  refine ⟨N + 1, _, m', s', hq, fun n k hn1 hk E t x ht => ?_⟩
  obtain ⟨k, rfl⟩ : ∃ j, k = j + 1 := ⟨k - 1, by omega⟩
  obtain ⟨E1, t1, x1, e1, p1, ht1⟩ := hn n k (by omega) (by omega) E t x ht
  exact ⟨E1, t1, x1, by simp only [evCode, e1], p1, ht1⟩
def Round (I : Nat → Sy → St → Prop) (j : Nat) (R : Ex → Sy → St → Prop) : Ex → Sy → St → Prop
 | .normal, m, s => ∃ i m', i < j ∧ Sub m' m ∧ I i m' s
 | e, m, s => R e m s
theorem wc_sub {m' : Sy} (hs : Sub m' m) (h : WC P T K nt c m' s R) : WC P T K nt c m s R := by
 obtain ⟨N, e, m1, s', hq, hn⟩ := h
 exact ⟨N, e, m1, s', hq, fun n k h1 h2 E t x ht => hn n k h1 h2 E t x (ht.sub hs)⟩
theorem wc_loop (I : Nat → Sy → St → Prop) (hI : ∀ j m s, I j m s → WC P T K nt b m s (Round I j R)) : ∀ (j : Nat) (m : Sy) (s : St), I j m s → WC P T K nt (.loop b) m s R := by
 intro j
 induction j using Nat.strongRecOn with
 | _ j ih =>
  intro m s hi
  obtain ⟨N, e, m1, s1, hq, hn⟩ := hI j m s hi
  by_cases he : e = .normal
  ·subst he
   obtain ⟨i, m2, hlt, hsub, hi'⟩ := hq
   obtain ⟨N', e', m', s', hq', hn'⟩ := wc_sub hsub (ih i hlt m2 s1 hi')
   refine ⟨max N N' + 1, e', m', s', hq', fun n k hn1 hk E t x ht => ?_⟩
   obtain ⟨k, rfl⟩ : ∃ j, k = j + 1 := ⟨k - 1, by omega⟩
   obtain ⟨E1, t1, x1, e1, p1, ht1⟩ := hn n k (by omega) (by omega) E t x ht
   obtain ⟨E2, t2, x2, e2, p2, ht2⟩ := hn' n k (by omega) (by omega) E1 t1 x1 ht1
   exact ⟨E2, t2, x2, by simp only [evCode, e1, e2], p1.trans p2, ht2⟩
  ·refine ⟨N + 1, e, m1, s1, ?_, fun n k hn1 hk E t x ht => ?_⟩
   ·cases e <;> first | exact absurd rfl he | exact hq
   ·obtain ⟨k, rfl⟩ : ∃ j, k = j + 1 := ⟨k - 1, by omega⟩
    obtain ⟨E1, t1, x1, e1, p1, ht1⟩ := hn n k (by omega) (by omega) E t x ht
    exact ⟨E1, t1, x1, by cases e <;> first | exact absurd rfl he | simp only [evCode, e1], p1, ht1⟩
noncomputable def resY (T : Tab) (m : Sy) (s : St) : List ResultVar → Option (List AV)
 | [] => some []
 | .tmp i :: r => match m.at i with
  | none => none
  | some v => match resY T m s r with
   | none => none
   | some vs => some (v :: vs)
 | .cell a tt :: r => match T tt, m.at a with
  | some i, some (.ptr g j off) => match s.read g j off i.cnt with
   | none => none
   | some cs => match ofCells i.sh.isAgg cs with
    | none => none
    | some v => match resY T m s r with
     | none => none
     | some vs => some (v :: vs)
  | _, _ => none
theorem resY_ok {E : Nat → Prop} {t : TL} {x : St} (h : Conc E nt m s t x) : ∀ {l : List ResultVar} {vs : List AV}, resY T m s l = some vs → ∃ vs', resA T t x l = some vs' ∧ FzL x.h E vs' vs
 | [], vs, e => by cases e; exact ⟨[], rfl, .nil⟩
 | .tmp i :: r, vs, e => by
  unfold resY at e
  unfold resA
  cases hx : m.at i with
  | none => rw [hx] at e; cases e
  | some v =>
   rw [hx] at e
   cases hr : resY T m s r with
   | none => rw [hr] at e; cases e
   | some ws =>
    rw [hr] at e
    cases e
    obtain ⟨ws', e1, e2⟩ := resY_ok h hr
    rw [e1]
    exact ⟨_, rfl, .cons (h.at_ _ _ hx) e2⟩
 | .cell a tt :: r, vs, e => by
  unfold resY at e
  unfold resA
  split at e
  ·rename_i i g j off hT hx
   simp only [hT, h.hard hx rfl]
   cases h1 : s.read g j off i.cnt with
   | none => rw [h1] at e; cases e
   | some cs =>
    rw [h1] at e
    obtain ⟨cs', f1, f2⟩ := read_ref h.st h1
    rw [f1]
    cases h2 : ofCells i.sh.isAgg cs with
    | none => simp only [h2] at e; cases e
    | some v =>
     simp only [h2] at e
     obtain ⟨v', g1, g2⟩ := ofCells_ref f2 h2
     cases h3 : resY T m s r with
     | none => rw [h3] at e; cases e
     | some ws =>
      rw [h3] at e
      cases e
      obtain ⟨ws', e1, e2⟩ := resY_ok h h3
      simp only [g1, e1]
      exact ⟨_, rfl, .cons g2 e2⟩
  ·cases e
def packA : List AV → AV
 | [v] => v
 | vs => .tup vs
def Ends (T : Tab) (fn : Func) (Q : AV → St → Prop) : Ex → Sy → St → Prop
 | .normal, m, s => ∃ vs, resY T m s fn.results.toList = some vs ∧ Q (packA vs) s
 | .ret, m, s => ∃ vs, resY T m s fn.results.toList = some vs ∧ Q (packA vs) s
 | _, _, _ => False
theorem call_known {f : FuncId} {b : Bool} {Q : AV → St → Prop} (hK : (Nat.ble yb f, K.ext f, K f) = (false, none, some b)) (h : Q (.bool b) s) : CallS P T K f [] s Q :=
 ⟨1, .bool b, s, h, fun n hn E x args' hst ha => by
   cases ha
   obtain ⟨n, rfl⟩ : ∃ j, n = j + 1 := ⟨n - 1, by omega⟩
   have h1 : Nat.ble yb f = false := congrArg Prod.fst hK
   have h2 : K.ext f = none := congrArg (fun x => x.2.1) hK
   have h3 : K.tab f = some b := congrArg (fun x => x.2.2) hK
   exact ⟨E, .bool b, x, by simp only [evX, h1, h2, h3, cond_false], .refl, hst, .refl _⟩⟩
theorem packA_ref {h : Tr Grp} {E : Nat → Prop} {vs' vs : List AV} (k : FzL h E vs' vs) : FzL h E [packA vs'] [packA vs] := by
 match vs', vs, k, k.len with
 | [], [], _, _ => exact .refl _
 | [_], [_], k, _ => exact k
 | _ :: _ :: _, _ :: _ :: _, k, _ => exact .tup k .nil
theorem call_of {f : FuncId} {args : List AV} {fn : Func} {Q : AV → St → Prop} (hf : P.funcs[f]? = some fn) (hb : fn.body = some c) (hn : ⟨args.length + (fn.ntmps - args.length), false, none⟩ = nt) (hk : (Nat.ble yb f, K.ext f, K f) = (false, none, none))
  (h : WC P T K nt c (syOf 0 args) s (Ends T fn Q)) : CallS P T K f args s Q := by
 obtain ⟨N, e, m', s', hq, hn'⟩ := h
 have key : ∃ vs, resY T m' s' fn.results.toList = some vs ∧ Q (packA vs) s' := by
  cases e with
  | normal => exact hq
  | ret => exact hq
  | _ => exact hq.elim
 obtain ⟨vs, hv, hQ⟩ := key
 refine ⟨N + 1, packA vs, s', hQ, fun n hn1 E x args' hst ha => ?_⟩
 obtain ⟨n, rfl⟩ : ∃ j, n = j + 1 := ⟨n - 1, by omega⟩
 have hstart : Conc E nt (syOf 0 args) s (TL.start K.gl args' fn.ntmps) x := by
  refine ⟨hst, ?_, fun d hd => (by rw [TL.ds_start] at hd; cases hd), ?_, fun i v hi => ?_⟩
  ·rw [TL.n_start, ha.len, ← hn]
  ·rw [TL.rd_start, ← hn]
  ·obtain ⟨-, h2⟩ := syOf_at args 0 i v hi
   obtain ⟨v', h3, h4⟩ := ha.get (by simpa using h2)
   rw [TL.get_start, gdd, h3]
   exact h4
 obtain ⟨E', t', x', e1, p1, ht'⟩ := hn' n n (by omega) (by omega) E _ x hstart
 have hds : t'.ds = [] := by
  cases hd : t'.ds with
  | nil => rfl
  | cons d l =>
   have := (ht'.ds d (by rw [hd]; exact mcs ..)).1
   rw [← hn] at this
   cases this
 have hlt : Nat.ble yb f = false := congrArg Prod.fst hk
 have hx : K.ext f = none := congrArg (fun x => x.2.1) hk
 have hk : K.tab f = none := congrArg (fun x => x.2.2) hk
 obtain ⟨vs', hv1, hv2⟩ := resY_ok (T := T) ht' hv
 have hret : evLeave P T K.gl (evX P T K n) n fn t' t'.ds x' .ret = some (.ret (packA vs'), x') := by
  rw [hds]
  simp only [evLeave, hv1]
  cases vs' with
  | nil => rfl
  | cons v r => cases r <;> rfl
 refine ⟨E', packA vs', x', ?_, p1, ht'.st, packA_ref hv2⟩
 simp only [evX, hlt, cond_false, hx, hk, evBody, hf, hb, e1]
 cases e with
 | normal => exact hret
 | ret => exact hret
 | _ => exact hq.elim
end
section
variable {P : Program} {T : Tab} {K : Kn} {nt : NT} {ops : Array Oper} {rest : List Oper} {m : Sy} {s s' : St} {Q : Sy → St → Prop} {op : Op} {d ty : Nat} {pos : String} {af : Array Edge} {g : Option (Nat × Bool)} {v : AV}
theorem w_val (hg : guardY ops m g = some true) (hd : Nat.ble (d + 1) nt.n = true) (h : ∀ t, Has t nt m → evOp T op t s = some (.val v, s')) (k : W P T K nt ops rest ((d, v) :: m) s' Q) :
  W P T K nt ops (⟨some d, op, ty, pos, af, g⟩ :: rest) m s Q := w_cons (w1_val hg hd h k)
theorem w_eff (hg : guardY ops m g = some true) (h : ∀ t, Has t nt m → evOp T op t s = some (.skip, s')) (k : W P T K nt ops rest m s' Q) :
  W P T K nt ops (⟨none, op, ty, pos, af, g⟩ :: rest) m s Q := w_cons (w1_skip hg rfl h k)
theorem w_off (hg : guardY ops m g = some false) (hd : Nat.ble (d + 1) nt.n = true) (k : W P T K nt ops rest ((d, .undef) :: m) s Q) :
  W P T K nt ops (⟨some d, op, ty, pos, af, g⟩ :: rest) m s Q := w_cons (w1_off hg hd k)
theorem op_call {c : Callee} {x : Operand} {as0 : Array Operand} {tys : Array TypeId} {f : FuncId} {caps args args' : List AV} (hc : c = .value x) (hx : evY m x = some (.fn f caps)) (ha : evsY m as0.toList = some args) (he : args ++ caps = args') :
  ∀ t, Has t nt m → evOp T (.call ⟨c, as0, tys⟩) t s = some (.call f args' , s) := by
 intro t ht
 subst hc he
 simp only [evOp, evY_ok ht hx, evsY_ok ht ha]
theorem w_call {f : FuncId} {args : List AV} {R : AV → St → Prop} (hg : guardY ops m g = some true) (hd : Nat.ble (d + 1) nt.n = true) (h : ∀ t, Has t nt m → evOp T op t s = some (.call f args, s)) (hc : CallS P T K f args s R)
  (k : ∀ v s', R v s' → W P T K nt ops rest ((d, v) :: m) s' Q) : W P T K nt ops (⟨some d, op, ty, pos, af, g⟩ :: rest) m s Q := w_cons (w1_call hg hd h hc k)
variable {D : Nat → Prop}
theorem wd_val (hD : ∀ g, D g) (hg : guardY ops m g = some true) (hd : Nat.ble (d + 1) nt.n = true) (h : ∀ t, Has t nt m → evOp T op t s.bare = some (.val v, s.bare)) (k : WD P T K nt ops rest ((d, v) :: m) s D Q) :
  WD P T K nt ops (⟨some d, op, ty, pos, af, g⟩ :: rest) m s D Q := wd_cons (fun _ _ g _ => hD g) (w1_val hg hd h ⟨fun _ h => (by cases h), k⟩)
theorem wd_off (hD : ∀ g, D g) (hg : guardY ops m g = some false) (hd : Nat.ble (d + 1) nt.n = true) (k : WD P T K nt ops rest ((d, .undef) :: m) s D Q) :
  WD P T K nt ops (⟨some d, op, ty, pos, af, g⟩ :: rest) m s D Q := wd_cons (fun _ _ g _ => hD g) (w1_off hg hd ⟨fun _ h => (by cases h), k⟩)
variable {a b c : Code} {R : Ex → Sy → St → Prop} {id : Nat} {I : Nat → Sy → St → Prop} {j : Nat}
theorem then_n (h : WC P T K nt b m s R) : Then P T K nt b R .normal m s := h
theorem then_r (h : R .ret m s) : Then P T K nt b R .ret m s := h
theorem then_x (h : R (.exit id) m s) : Then P T K nt b R (.exit id) m s := h
theorem out_n (h : R .normal m s) : Out id R .normal m s := h
theorem out_r (h : R .ret m s) : Out id R .ret m s := h
theorem out_x (h : R .normal m s) : Out id R (.exit id) m s := ⟨fun _ => h, fun k => (k rfl).elim⟩
theorem round_r (h : R .ret m s) : Round I j R .ret m s := h
theorem round_x (h : R (.exit id) m s) : Round I j R (.exit id) m s := h
theorem round_n (i : Nat) (m' : Sy) (hi : i < j) (hs : Sub m' m) (h : I i m' s) : Round I j R .normal m s := ⟨i, m', hi, hs, h⟩
theorem wc_loop_at (I : Nat → Sy → St → Prop) (j : Nat) (m' : Sy) (hs : Sub m' m) (h0 : I j m' s) (hI : ∀ j m s, I j m s → WC P T K nt b m s (Round I j R)) : WC P T K nt (.loop b) m s R :=
 wc_sub hs (wc_loop I hI j m' s h0)
theorem w_split {i : Nat} {x : Bool} {l : List Oper} (h : m.at i = some (.bool x)) (ht : x = true → W P T K nt ops l ((i, .bool true) :: m) s Q) (hf : x = false → W P T K nt ops l ((i, .bool false) :: m) s Q) : W P T K nt ops l m s Q := by
 have key : ∀ m', Sub m' m → W P T K nt ops l m' s Q → W P T K nt ops l m s Q := by
  intro m' hs ⟨N, m1, s1, hq, hn⟩
  exact ⟨N, m1, s1, hq, fun n hn' E t x htt => hn n hn' E t x (htt.sub hs)⟩
 cases x with
 | true => exact key _ (Sub.cons h (Sub.refl m)) (ht rfl)
 | false => exact key _ (Sub.cons h (Sub.refl m)) (hf rfl)
theorem wd_split {i : Nat} {x : Bool} {l : List Oper} (h : m.at i = some (.bool x)) (ht : x = true → WD P T K nt ops l ((i, .bool true) :: m) s D Q) (hf : x = false → WD P T K nt ops l ((i, .bool false) :: m) s D Q) : WD P T K nt ops l m s D Q := by
 have key : ∀ m', Sub m' m → WD P T K nt ops l m' s D Q → WD P T K nt ops l m s D Q := by
  intro m' hs ⟨N, m1, s1, hq, hn⟩
  exact ⟨N, m1, s1, hq, fun n hn' E t x htt => hn n hn' E t x (htt.sub hs)⟩
 cases x with
 | true => exact key _ (Sub.cons h (Sub.refl m)) (ht rfl)
 | false => exact key _ (Sub.cons h (Sub.refl m)) (hf rfl)
theorem wc_cond_t {q : Operand} (hq : evY m q = some (.bool true)) (h : WC P T K nt a m s R) : WC P T K nt (.cond q a b) m s R := wc_cond hq (fun _ => h) (fun k => by cases k)
theorem wc_cond_f {q : Operand} (hq : evY m q = some (.bool false)) (h : WC P T K nt b m s R) : WC P T K nt (.cond q a b) m s R := wc_cond hq (fun k => by cases k) (fun _ => h)
def Cut (J : Sy → St → Prop) (R : Ex → Sy → St → Prop) : Ex → Sy → St → Prop
 | .normal, m, s => J m s
 | e, m, s => R e m s
theorem wc_cut (J : Sy → St → Prop) (h : WC P T K nt a m s (Cut J R)) (k : ∀ m s, J m s → R .normal m s) : WC P T K nt a m s R :=
 wc_mono h fun e m' s' hq => by
  cases e with
  | normal => exact k _ _ hq
  | _ => exact hq
theorem cut_n {J : Sy → St → Prop} (h : J m s) : Cut J R .normal m s := h
theorem cut_r {J : Sy → St → Prop} (h : R .ret m s) : Cut J R .ret m s := h
theorem out_x' {id' : Nat} (hne : id' ≠ id) (h : R (.exit id') m s) : Out id R (.exit id') m s := ⟨fun k => (hne k).elim, fun _ => h⟩
theorem wc_condT {i : Nat} {x : Bool} (hq : m.at i = some (.bool x)) (ha : x = true → WC P T K nt a ((i, .bool true) :: m) s R) (hb : x = false → WC P T K nt b ((i, .bool false) :: m) s R) : WC P T K nt (.cond (.tmp i) a b) m s R := by
 cases x with
 | true => exact wc_cond (x := true) hq (fun _ => wc_sub (m' := m) (Sub.refl m) (by
     obtain ⟨N, e, m1, s', hr, hn⟩ := ha rfl
     exact ⟨N, e, m1, s', hr, fun n k h1 h2 E t x ht => hn n k h1 h2 E t x (ht.sub (Sub.cons hq (Sub.refl m)))⟩)) (fun h => by cases h)
 | false => exact wc_cond (x := false) hq (fun h => by cases h) (fun _ => by
     obtain ⟨N, e, m1, s', hr, hn⟩ := hb rfl
     exact ⟨N, e, m1, s', hr, fun n k h1 h2 E t x ht => hn n k h1 h2 E t x (ht.sub (Sub.cons hq (Sub.refl m)))⟩)
end
end Go.Ab
namespace Go.Ab
def St.Ok (s : St) : Prop := ∀ g, s.ctr ≤ g → Tr.get s.h g = none
structure Keep (X : List Nat) (s s' : St) : Prop where
 ok0 : s.Ok
 ok : s'.Ok
 ctr : s.ctr ≤ s'.ctr
 keep : ∀ g, g ∉ X → ∀ G, Tr.get s.h g = some G → Tr.get s'.h g = some G
 wr : ∀ g ∈ s'.wr, g ∈ s.wr ∨ g ∈ X ∨ s.ctr ≤ g
theorem Keep.refl {s : St} (h : s.Ok) : Keep [] s s := ⟨h, h, nlr _, fun _ _ _ h => h, fun _ h => .inl h⟩
theorem Keep.trans {X Y : List Nat} {s s' s'' : St} (h : Keep X s s') (k : Keep Y s' s'') (hY : ∀ g ∈ Y, g ∈ X ∨ s.ctr ≤ g) : Keep X s s'' where
 ok0 := h.ok0
 ok := k.ok
 ctr := Nat.le_trans h.ctr k.ctr
 keep := fun g hg G hG => k.keep g (fun hy => (hY g hy).elim hg (fun e => by rw [h.ok0 g e] at hG; cases hG)) G (h.keep g hg G hG)
 wr := fun g hg => by
  have := h.ctr
  rcases k.wr g hg with h1 | h1 | h1
  ·exact h.wr g h1
  ·exact .inr (hY g h1)
  ·exact .inr (.inr (by omega))
theorem Keep.more {X Y : List Nat} {s s' : St} (h : Keep X s s') (hs : ∀ g ∈ X, g ∈ Y) : Keep Y s s' := ⟨h.ok0, h.ok, h.ctr, fun g hg => h.keep g (fun e => hg (hs g e)), fun g hg => (h.wr g hg).imp id (Or.imp (hs g) id)⟩
theorem rdH_keep {X : List Nat} {s s' : St} (h : Keep X s s') {g j off n : Nat} {cs : List AV} (hg : g ∉ X) (k : rdH s.h g j off n = some cs) : rdH s'.h g j off n = some cs := by
 unfold rdH at k ⊢
 split at k
 ·cases k
 ·rename_i G hG
  rw [h.keep g hg G hG]
  exact k

def AV.gs : AV → List Nat
 | .ptr g _ _ => [g]
 | .slc g _ _ _ _ _ _ => [g]
 | .mp g => [g]
 | _ => []
def Row (h : Tr Grp) (sz : Nat) : AV → List (List AV) → Prop
 | .nils, cs => cs = []
 | .ro _ xs, cs => xs.map AV.cells = cs ∧ ∀ c ∈ cs, c.length = sz ∧ c.all AV.leaf = true
 | .slc g j off sz' len lo _, cs => sz' = sz ∧ sz ≠ 0 ∧ len = cs.length ∧ len ≤ lo ∧ (∀ c ∈ cs, c.length = sz ∧ c.all AV.leaf = true) ∧ ∃ rest, rdH h g j off (lo * sz) = some (cs.flatten ++ rest)
 | _, _ => False
theorem Row.cells {h : Tr Grp} {sz : Nat} {v : AV} {cs : List (List AV)} (k : Row h sz v cs) : ∀ c ∈ cs, c.length = sz ∧ c.all AV.leaf = true := by
 cases v with
 | nils => cases k; intro c hc; cases hc
 | ro nl xs => exact k.2
 | slc g j off sz' len lo ex => exact k.2.2.2.2.1
 | _ => exact k.elim
theorem Row.slen {h : Tr Grp} {sz : Nat} {v : AV} {cs : List (List AV)} (k : Row h sz v cs) : v.slen = some cs.length := by
 cases v with
 | nils => cases k; rfl
 | ro nl xs => rw [← k.1]; simp [AV.slen]
 | slc g j off sz' len lo ex => exact congrArg some k.2.2.1
 | _ => exact k.elim
theorem Row.rd {h : Tr Grp} {sz : Nat} {cs : List (List AV)} {g j off sz' len lo : Nat} {ex : Bool} (k : Row h sz (.slc g j off sz' len lo ex) cs) : rdH h g j off (len * sz) = some cs.flatten := by
 obtain ⟨rfl, h2, rfl, h4, h5, rest, h6⟩ := k
 have hfl : cs.flatten.length = cs.length * sz' := flat_len fun c hc => (h5 c hc).1
 have := rdH_part h6 0 (cs.length * sz') (by have := Nat.mul_le_mul_right sz' h4; omega)
 rw [Nat.add_zero, List.drop_zero, List.take_append_of_le_length (by omega), List.take_of_length_le (by omega)] at this
 exact this
theorem flat_set {cs : List (List AV)} {sz : Nat} (h : ∀ c ∈ cs, c.length = sz) {i : Nat} {c : List AV} (hi : i < cs.length) (hc : c.length = sz) : over cs.flatten (i * sz) c = (cs.set i c).flatten := by
 induction cs generalizing i with
 | nil => simp at hi
 | cons x cs ih =>
  have hx := h x (mcs ..)
  cases i with
  | zero =>
   unfold over
   simp [List.flatten_cons, hc, ← hx]
  | succ i =>
   have := ih (i := i) (fun y hy => h y (List.mem_cons_of_mem _ hy)) (by simpa using hi)
   unfold over at this ⊢
   rw [List.set_cons_succ, List.flatten_cons, List.flatten_cons, ← this, Nat.succ_mul, Nat.add_comm (i * sz) sz, ← hx]
   rw [List.take_length_add_append, Nat.add_assoc, List.drop_length_add_append]
   simp [aas]
theorem flat_app (cs ns : List (List AV)) : (cs ++ ns).flatten = cs.flatten ++ ns.flatten := List.flatten_append
theorem Row.elems {s : St} {sz : Nat} {v : AV} {cs : List (List AV)} (k : Row s.h sz v cs) : s.elems sz v = some cs.flatten := by
 cases v with
 | nils => cases k; rfl
 | ro nl xs =>
  obtain ⟨rfl, h⟩ := k
  have : (xs.all fun x => decide (x.cells.length = sz) && x.cells.all AV.leaf) = true := by
   rw [aet]
   intro x hx
   have := h x.cells (List.mem_map_of_mem hx)
   simp only [this.1, this.2, decide_true, Bool.and_self]
  simp only [St.elems, this, if_true, List.flatMap_def]
 | slc g j off sz' len lo ex =>
  have h := k.rd
  obtain ⟨rfl, -⟩ := k
  simp only [St.elems, if_true]
  exact h
 | _ => exact k.elim
theorem Row.keep {X : List Nat} {s s' : St} {sz : Nat} {v : AV} {cs : List (List AV)} (k : Row s.h sz v cs) (h : Keep X s s') (hg : ∀ g ∈ v.gs, g ∉ X) : Row s'.h sz v cs := by
 cases v with
 | nils => exact k
 | ro nl xs => exact k
 | slc g j off sz' len lo ex =>
  obtain ⟨h1, h2, h3, h4, h5, rest, h6⟩ := k
  exact ⟨h1, h2, h3, h4, h5, rest, rdH_keep h (hg g (mcs ..)) h6⟩
 | _ => exact k.elim
theorem Row.has {h : Tr Grp} {sz : Nat} {v : AV} {cs : List (List AV)} (k : Row h sz v cs) : ∀ g ∈ v.gs, ∃ G, Tr.get h g = some G := by
 cases v with
 | slc g j off sz' len lo ex =>
  intro x hx
  rw [msi.1 hx]
  exact rdH_has k.rd
 | nils => intro x hx; cases hx
 | ro nl xs => intro x hx; cases hx
 | _ => exact k.elim

def elemA (v : AV) (i : Nat) : AV := match v with
 | .slc g j off sz _ _ _ => .ptr g j (off + i * sz)
 | .ro _ xs => match xs[i]? with
  | some x => .rop x.cells
  | none => .undef
 | _ => .undef
def fldA (p : AV) (o : Nat) : AV := match p with
 | .ptr g j off => .ptr g j (off + o)
 | .rop cs => .rop (cs.drop o)
 | _ => .undef
def Pt (h : Tr Grp) : AV → List AV → Prop
 | .ptr g j off, cs => rdH h g j off cs.length = some cs
 | .rop xs, cs => xs.take cs.length = cs ∧ xs.all AV.leaf = true
 | _, _ => False
theorem Pt.fld {h : Tr Grp} {p : AV} {cs : List AV} (k : Pt h p cs) (o : Nat) (ho : o ≤ cs.length) : Pt h (fldA p o) (cs.drop o) := by
 cases p with
 | ptr g j off =>
  have := rdH_part k o (cs.length - o) (by omega)
  simp only [fldA, Pt, List.length_drop]
  rw [this, List.take_of_length_le (by simp)]
 | rop xs =>
  obtain ⟨h1, h2⟩ := k
  refine ⟨?_, ?_⟩
  ·rw [List.length_drop, ← List.drop_take, h1]
  ·rw [aet] at h2 ⊢
   exact fun x hx => h2 x (List.mem_of_mem_drop hx)
 | _ => exact k.elim
theorem Pt.keep {X : List Nat} {s s' : St} {p : AV} {cs : List AV} (k : Pt s.h p cs) (h : Keep X s s') (hg : ∀ g ∈ p.gs, g ∉ X) : Pt s'.h p cs := by
 cases p with
 | ptr g j off => exact rdH_keep h (hg g (mcs ..)) k
 | rop xs => exact k
 | _ => exact k.elim
theorem Row.pt {h : Tr Grp} {sz : Nat} {v : AV} {cs : List (List AV)} (k : Row h sz v cs) {i : Nat} {c : List AV} (hc : cs[i]? = some c) : Pt h (elemA v i) c := by
 have hi : i < cs.length := (ges.1 hc).1
 have hcc := k.cells c (mog hc)
 cases v with
 | nils => cases k; simp at hc
 | ro nl xs =>
  obtain ⟨rfl, h2⟩ := k
  rw [gmm] at hc
  cases hx : xs[i]? with
  | none => rw [hx] at hc; cases hc
  | some x =>
   rw [hx] at hc
   cases hc
   simp only [elemA, hx, Pt]
   exact ⟨by simp, hcc.2⟩
 | slc g j off sz' len lo ex =>
  have h6 := k.rd
  obtain ⟨rfl, h2, rfl, h4, h5, -⟩ := k
  simp only [elemA, Pt]
  have : i * sz' + sz' ≤ cs.length * sz' := by rw [← Nat.succ_mul]; exact Nat.mul_le_mul_right _ hi
  rw [hcc.1, rdH_part h6 (i * sz') sz' this, flat_part (fun c hc => (h5 c hc).1) hc]
 | _ => exact k.elim
theorem Row.mk_pt {h : Tr Grp} {sz : Nat} {v : AV} {α : Type} {f : α → List AV} {xs : List α} (k : Row h sz v (xs.map f)) {i : Nat} {x : α} (hc : xs[i]? = some x) : Pt h (elemA v i) (f x) :=
 k.pt (by rw [gmm, hc]; rfl)

section
variable {T : Tab} {nt : NT} {m : Sy} {s : St}
def pureY (T : Tab) (m : Sy) : Op → Option AV
 | .move x | .assign x => evY m x
 | .pick c a b => match evY m c with
  | some (.bool true) => match evY m b with
   | some _ => evY m a
   | none => none
  | some (.bool false) => match evY m a with
   | some _ => evY m b
   | none => none
  | _ => none
 | .nilCheck x => match evY m x with
  | some (.ptr g j off) => some (.ptr g j off)
  | some (.rop cs) => some (.rop cs)
  | _ => none
 | .binOp op xt x y _ => match evY m x, evY m y with
  | some vx, some vy => binA T op xt vx vy
  | _, _ => none
 | .unOp op _ x => match evY m x with
  | none => none
  | some vx => unA op vx
 | .makeFunc (.func f) first caps => if first.size ≠ 0 then none else bif Nat.ble yb f then none else
  match evsY m caps.toList with
  | none => none
  | some vs => some (.fn f vs)
 | .field st x f => match T st with
  | some { sh := .struct fs, .. } => match fs[f]?, evY m x with
   | some (off, sz, ag), some (.agg cs) =>
    if off + sz ≤ cs.length ∧ (ag = false → sz = 1) then ofCells ag ((cs.drop off).take sz) else none
   | _, _ => none
  | _ => none
 | .build tt parts => match T tt with
  | none => none
  | some i => match evPartsY m parts.toList with
   | none => none
   | some ps =>
    match (match i.sh with
      | .struct fs => fillA (fun n => (fs[n]?).map fun f => (f.1, f.2.1)) i.zero ps
      | .array _ e => match T e with
        | none => none
        | some ie => fillA (fun n => some (n * ie.size, ie.size)) i.zero ps
      | _ => none) with
    | none => none
    | some cs => some (.agg cs)
 | .extract x i => match evY m x with
  | some (.tup vs) => vs[i]?
  | _ => none
 | _ => none
theorem op_pure {o : Op} {v : AV} (h : pureY T m o = some v) : ∀ t, Has t nt m → evOp T o t s = some (.val v, s) := by
 intro t ht
 unfold pureY at h
 split at h
 ·simp only [evOp, evY_ok ht h]
 ·simp only [evOp, evY_ok ht h]
 ·split at h
  ·rename_i hq
   split at h
   ·rename_i hb
    simp only [evOp, evY_ok ht hq, evY_ok ht h, evY_ok ht hb, if_true]
   ·cases h
  ·rename_i hq
   split at h
   ·rename_i ha
    simp only [evOp, evY_ok ht hq, evY_ok ht h, evY_ok ht ha, Bool.false_eq_true, if_false]
   ·cases h
  ·cases h
 ·split at h
  ·rename_i hq
   cases h
   simp only [evOp, evY_ok ht hq]
  ·rename_i hq
   cases h
   simp only [evOp, evY_ok ht hq]
  ·cases h
 ·split at h
  ·rename_i ha hb
   simp only [evOp, evY_ok ht ha, evY_ok ht hb, h]
  ·cases h
 ·split at h
  ·cases h
  ·rename_i ha
   simp only [evOp, evY_ok ht ha, h]
 ·split at h
  ·cases h
  ·rename_i f _ _ hf
   cases hb : Nat.ble yb f with
   | true => rw [hb, cond_true] at h; cases h
   | false =>
    rw [hb, cond_false] at h
    have hlt : f < yb := Nat.lt_of_not_le fun h => by rw [Nat.ble_eq_true_of_le h] at hb; cases hb
    split at h
    ·cases h
    ·rename_i hv
     cases h
     simp only [evOp, hf, if_false, evsY_ok ht hv, hlt, if_true]
 ·split at h
  ·rename_i hT
   split at h
   ·rename_i hf hx
    split at h
    ·rename_i hc
     obtain ⟨c1, c2⟩ := hc
     simp only [evOp, hT, hf, evY_ok ht hx]
     rw [if_pos ⟨c1, c2⟩, h]
    ·cases h
   ·cases h
  ·cases h
 ·split at h
  ·cases h
  ·rename_i hT
   split at h
   ·cases h
   ·rename_i hp
    split at h
    ·cases h
    ·rename_i hc
     cases h
     simp only [evOp, hT, evPartsY_ok ht hp]
     rename_i i _ _ _ _
     cases hsh : i.sh with
     | array n e =>
      rw [hsh] at hc
      cases hTe : T e with
      | none => simp only [hTe] at hc; cases hc
      | some ie => simp only [hTe] at hc ⊢; rw [hc]
     | _ => rw [hsh] at hc <;> simp_all
 ·split at h
  ·rename_i hx
   simp only [evOp, evY_ok ht hx, h]
  ·cases h
 ·cases h
theorem op_int {op : BinOp} {xt yt : TypeId} {x y : Operand} {k : IntKind} {a b : Int} {v : AV} (hx : evY m x = some (.int k a)) (hy : evY m y = some (.int k b)) (hn : op ≠ .shl ∧ op ≠ .shr) (h : intA op k a b = some v) :
  ∀ t, Has t nt m → evOp T (.binOp op xt x y yt) t s = some (.val v, s) := by
 intro t ht
 have : binA T op xt (.int k a) (.int k b) = some v := by
  unfold binA
  cases op <;> simp_all
 simp only [evOp, evY_ok ht hx, evY_ok ht hy, this]
def In64 (a : Int) : Prop := -9223372036854775808 ≤ a ∧ a < 9223372036854775808
theorem wrap64 {a : Int} (h : In64 a) : IntKind.i64.wrap a = a := by
 obtain ⟨h1, h2⟩ := h
 simp only [IntKind.wrap, IntKind.signed, IntKind.bits, Bool.true_and, dtt, ge_iff_le, show (2 : Int) ^ 64 = 18446744073709551616 from rfl, show (2 : Int) ^ (64 - 1) = 9223372036854775808 from rfl]
 by_cases hc : (9223372036854775808 : Int) ≤ a % 18446744073709551616
 ·rw [if_pos hc]; omega
 ·rw [if_neg hc]; omega
theorem op_add {xt yt : TypeId} {x y : Operand} {a b : Int} (hx : evY m x = some (.int .i64 a)) (hy : evY m y = some (.int .i64 b)) (h : In64 (a + b)) :
  ∀ t, Has t nt m → evOp T (.binOp .add xt x y yt) t s = some (.val (.int .i64 (a + b)), s) :=
 op_int hx hy (by decide) (by unfold intA; rw [wrap64 h])
theorem op_sub {xt yt : TypeId} {x y : Operand} {a b : Int} (hx : evY m x = some (.int .i64 a)) (hy : evY m y = some (.int .i64 b)) (h : In64 (a - b)) :
  ∀ t, Has t nt m → evOp T (.binOp .sub xt x y yt) t s = some (.val (.int .i64 (a - b)), s) :=
 op_int hx hy (by decide) (by unfold intA; rw [wrap64 h])
theorem op_len {tt : TypeId} {x : Operand} {v : AV} {i : TI} {e : TypeId} {n : Nat} {args : Array Operand} {tys : Array TypeId} (ha : args.toList = [x]) (hb : tys.toList = [tt]) (hx : evY m x = some v) (hT : T tt = some i) (hs : i.sh = .slice e) (hn : v.slen = some n) :
  ∀ t, Has t nt m → evOp T (.call ⟨.builtin .len, args, tys⟩) t s = some (.val (.int .i64 n), s) := by
 intro t ht
 have h1 : evsY m [x] = some [v] := by simp only [evsY, hx]
 simp only [evOp, ha, hb, evsY_ok ht h1, callA, lenA, hT, hs, hn]
theorem op_fld {st : TypeId} {x : Operand} {f : Nat} {i : TI} {fs : List (Nat × Nat × Bool)} {off sz : Nat} {ag : Bool} {p : AV} {cs : List AV} (hx : evY m x = some p) (hT : T st = some i) (hs : i.sh = .struct fs) (hf : fs[f]? = some (off, sz, ag)) (hz : sz ≠ 0) (hp : Pt s.h p cs) (ho : off ≤ cs.length) :
  ∀ t, Has t nt m → evOp T (.fieldAddr st x f) t s = some (.val (fldA p off), s) := by
 intro t ht
 obtain ⟨sh, size, bytes, zero, flat⟩ := i
 cases hs
 cases p with
 | ptr g j o => simp only [evOp, hT, hf, evY_ok ht hx, hz, if_false, fldA]
 | rop xs =>
  have : off ≤ xs.length := by
   have := congrArg List.length hp.1
   rw [List.length_take] at this
   omega
  simp only [evOp, hT, hf, evY_ok ht hx, hz, if_false, fldA, this, if_true]
 | _ => exact hp.elim
def loadC (i : TI) (cs : List AV) : Option AV := if i.cnt ≤ cs.length then ofCells i.sh.isAgg (cs.take i.cnt) else none
theorem op_load {tt : TypeId} {a : Operand} {i : TI} {p v : AV} {cs : List AV} (hx : evY m a = some p) (hT : T tt = some i) (hp : Pt s.h p cs) (hc : loadC i cs = some v) :
  ∀ t, Has t nt m → evOp T (.load tt a) t s = some (.val v, s) := by
 intro t ht
 unfold loadC at hc
 split at hc
 ·rename_i hl
  cases p with
  | ptr g j o =>
   have := rdH_part hp 0 i.cnt (by omega)
   rw [Nat.add_zero, List.drop_zero] at this
   have h9 := readL_of ((read_rd ..).trans this)
   simp only [evOp, hT, evY_ok ht hx, h9, hc]
  | rop xs =>
   obtain ⟨h1, h2⟩ := hp
   have h3 := congrArg List.length h1
   rw [List.length_take] at h3
   have h4 : xs.take i.cnt = cs.take i.cnt := by rw [← h1, List.take_take, Nat.min_eq_left hl]
   have h5 : i.cnt ≤ xs.length := by omega
   simp only [evOp, hT, evY_ok ht hx, h2, h4, h5, and_self, if_true, hc]
  | _ => exact hp.elim
 ·cases hc
theorem op_idx {tt : TypeId} {x ix : Operand} {i ie : TI} {e : TypeId} {v vi : AV} {n : Nat} {cs : List (List AV)} (hx : evY m x = some v) (hi : evY m ix = some vi) (hn : natA vi = some n) (hT : T tt = some i) (hs : i.sh = .slice e) (he : T e = some ie) {sz : Nat} (hz : ie.size = sz) (hr : Row s.h sz v cs) (hl : n < cs.length) :
  ∀ t, Has t nt m → evOp T (.indexAddr tt x ix) t s = some (.val (elemA v n), s) := by
 intro t ht
 obtain ⟨sh, size, bytes, zero, flat⟩ := i
 cases hs
 have : idxA T tt v n = some (elemA v n) := by
  cases v with
  | nils => cases hr; simp at hl
  | ro nl xs =>
   obtain ⟨rfl, h2⟩ := hr
   rw [lmm] at hl
   have hx : xs[n]? = some xs[n] := gee hl
   have h3 := (h2 xs[n].cells (List.mem_map_of_mem (List.getElem_mem hl))).1
   unfold idxA elemA
   simp only [hT, he, hx, h3, hz, if_true]
  | slc g j off sz' len lo ex =>
   obtain ⟨rfl, h2, rfl, h4, h5, h6⟩ := hr
   unfold idxA elemA
   simp only [hT, he, hz, hl, and_self, if_true]
  | _ => exact hr.elim
 simp only [evOp, evY_ok ht hx, evY_ok ht hi, hn, this]
theorem Row.slenF {h : Tr Grp} {sz : Nat} {v : AV} {α : Type} {f : α → List AV} {xs : List α} (k : Row h sz v (xs.map f)) : v.slen = some xs.length := by rw [k.slen, lmm]
theorem natA_cast (k : IntKind) (n : Nat) : natA (.int k (n : Int)) = some n := by simp [natA]
theorem op_idxF {tt : TypeId} {x ix : Operand} {i ie : TI} {e : TypeId} {v vi : AV} {n : Nat} {α : Type} {f : α → List AV} {xs : List α} (hx : evY m x = some v) (hi : evY m ix = some vi) (hn : natA vi = some n) (hT : T tt = some i) (hs : i.sh = .slice e) (he : T e = some ie) {sz : Nat} (hz : ie.size = sz) (hr : Row s.h sz v (xs.map f)) (hl : n < xs.length) :
  ∀ t, Has t nt m → evOp T (.indexAddr tt x ix) t s = some (.val (elemA v n), s) :=
 op_idx hx hi hn hT hs he hz hr (by rwa [lmm])
theorem natA_toNat {k : IntKind} {a : Int} (h : 0 ≤ a) : natA (.int k a) = some a.toNat := by simp [natA, h]
end
end Go.Ab
namespace Go.Ab
theorem over_len {l : List AV} {k : Nat} {c : List AV} (h : k + c.length ≤ l.length) : (over l k c).length = l.length := by
 unfold over; simp; omega
theorem over_part (A B C : List AV) (k : Nat) (c : List AV) (h : k + c.length ≤ B.length) : over (A ++ B ++ C) (A.length + k) c = A ++ over B k c ++ C := by
 unfold over
 have h1 : (A ++ B ++ C).take (A.length + k) = A ++ B.take k := by
  rw [aas, List.take_length_add_append, List.take_append_of_le_length (by omega)]
 have h2 : (A ++ B ++ C).drop (A.length + k + c.length) = B.drop (k + c.length) ++ C := by
  rw [aas, Nat.add_assoc, List.drop_length_add_append, List.drop_append_of_le_length (by omega)]
 rw [h1, h2]
 simp [aas]
theorem over_read {l : List AV} {off n k : Nat} {c : List AV} (h : off + n ≤ l.length) (hk : k + c.length ≤ n) : ((over l (off + k) c).drop off).take n = over ((l.drop off).take n) k c := by
 have e : l = l.take off ++ (l.drop off).take n ++ (l.drop off).drop n := by
  rw [aas, List.take_append_drop, List.take_append_drop]
 have hA : (l.take off).length = off := by rw [List.length_take]; omega
 have hB : ((l.drop off).take n).length = n := by rw [List.length_take, List.length_drop]; omega
 generalize hAe : l.take off = A at *
 generalize hBe : (l.drop off).take n = B at *
 generalize hCe : (l.drop off).drop n = C at *
 have h3 : over l (off + k) c = A ++ over B k c ++ C := by
  conv => lhs; rw [e, ← hA]
  exact over_part A B C k c (by omega)
 rw [h3, ← hA, aas, List.drop_left]
 have hov : (over B k c).length = n := by rw [over_len (by omega), hB]
 rw [List.take_append_of_le_length (by omega)]
 exact List.take_of_length_le (by omega)
theorem write_over {s : St} {g j off n k : Nat} {old c : List AV} (hok : s.Ok) (h : rdH s.h g j off n = some old) (hk : k + c.length ≤ n) (hl : c.all AV.leaf = true) :
  ∃ s', s.write g j (off + k) c = some s' ∧ rdH s'.h g j off n = some (over old k c) ∧ Keep [g] s s' ∧ s'.ctr = s.ctr := by
 obtain ⟨G, hG⟩ := rdH_has h
 have h' : G.read j off n = some old := by unfold rdH at h; rw [hG] at h; exact h
 obtain ⟨V, h1, h2, h3, h4⟩ := Grp.read_eq h'
 have hw : G.write j (off + k) c = some ⟨G.vers.mapIdx fun i U => if i = j then { V with cells := over V.cells (off + k) c } else U.poke (V.delta + (off + k)) c.length⟩ := by
  unfold Grp.write
  rw [h1]
  have : V.mp.isNone = true ∧ off + k + c.length ≤ V.cells.length := ⟨by rw [h2]; rfl, by omega⟩
  simp only [this, and_self, if_true]
 have hws : s.write g j (off + k) c = some (s.setG g ⟨G.vers.mapIdx fun i U => if i = j then { V with cells := over V.cells (off + k) c } else U.poke (V.delta + (off + k)) c.length⟩) := by
  unfold St.write; simp only [hl, if_true, St.get, hG, hw]
 refine ⟨_, hws, ?_, ⟨hok, ?_, nlr _, ?_, ?_⟩, rfl⟩
 ·unfold rdH
  simp only [St.setG, Tr.get_set, if_true]
  rw [Grp.read_mk (V := { V with cells := over V.cells (off + k) c }) (by simp [h1]) h2 (by simp only; rw [over_len (by omega)]; exact h3)]
  simp only
  rw [over_read h3 hk, h4]
 ·intro g' hg'
  simp only [St.setG, Tr.get_set] at hg' ⊢
  split
  ·rename_i e; subst e; rw [hok _ hg'] at hG; cases hG
  ·exact hok g' hg'
 ·intro g' hg' G' hG'
  simp only [St.setG, Tr.get_set]
  rw [if_neg (fun e => hg' (by rw [e]; exact mcs ..)), hG']
 ·intro g' hg'
  rcases List.mem_cons.1 hg' with rfl | hg'
  ·exact .inr (.inl (mcs ..))
  ·exact .inl hg'
theorem newG_keep {s : St} (hok : s.Ok) (G : Grp) : Keep [] s (s.newG G) ∧ Tr.get (s.newG G).h s.ctr = some G ∧ (s.newG G).ctr = s.ctr + 1 := by
 refine ⟨⟨hok, fun g hg => ?_, Nat.le_succ _, fun g _ G' hG' => ?_, fun g hg => ?_⟩, ?_, rfl⟩
 ·simp only [St.newG, Tr.get_set] at hg ⊢
  rw [if_neg (by omega)]
  exact hok g (by omega)
 ·simp only [St.newG, Tr.get_set]
  split
  ·rename_i e; subst e; rw [hok _ (nlr _)] at hG'; cases hG'
  ·exact hG'
 ·rcases List.mem_cons.1 hg with rfl | hg
  ·exact .inr (.inr (nlr _))
  ·exact .inl hg
 ·simp only [St.newG, Tr.get_set, if_true]
theorem rd_new {s : St} {cs : List AV} (hok : s.Ok) : rdH (s.newG ⟨[⟨cs, 0, none⟩]⟩).h s.ctr 0 0 cs.length = some cs := by
 unfold rdH
 rw [(newG_keep hok _).2.1]
 exact (Grp.read_mk (V := ⟨cs, 0, none⟩) rfl rfl (by simp)).trans (by simp)

theorem app_row {s : St} {sz bytes : Nat} {a : AV} {cs ns : List (List AV)} (hok : s.Ok) (hsz : sz ≠ 0) (hr : Row s.h sz a cs) (hro : a.gs = [] → a = .nils) (hn : ∀ c ∈ ns, c.length = sz ∧ c.all AV.leaf = true)
  (hb : (cs.length + ns.length) * bytes ≤ maxBytes) (hb' : cs.length + ns.length ≤ maxBytes) :
  ∃ v s', s.app sz bytes a ns.length ns.flatten = some (v, s') ∧ Row s'.h sz v (cs ++ ns) ∧ Keep a.gs s s' ∧ s'.ctr ≤ s.ctr + 1 ∧ (v.gs = a.gs ∨ v.gs = [s.ctr]) ∧ (v.gs = [] → v = .nils) ∧ (ns ≠ [] → v.gs ≠ []) := by
 have hnl : ns.flatten.length = ns.length * sz := flat_len fun c hc => (hn c hc).1
 have hleaf : ns.flatten.all AV.leaf = true := by
  rw [aet]
  intro x hx
  obtain ⟨c, hc, hxc⟩ := List.mem_flatten.1 hx
  exact aet.1 (hn c hc).2 x hxc
 have hcells : ∀ c ∈ cs ++ ns, c.length = sz ∧ c.all AV.leaf = true := fun c hc => (List.mem_append.1 hc).elim (hr.cells c) (hn c)
 have hguard : ¬ (¬ ns.flatten.all AV.leaf = true ∨ sz = 0 ∨ ns.flatten.length ≠ ns.length * sz) := by
  rintro (h | h | h)
  ·exact h hleaf
  ·exact hsz h
  ·exact h hnl
 have hnn : ns.length = 0 → ns = [] := fun h => List.eq_nil_of_length_eq_zero h
 unfold St.app
 rw [if_neg hguard]
 cases a with
 | nils =>
  cases hr
  simp only
  by_cases h0 : ns.length = 0
  ·rw [if_pos h0]
   rw [hnn h0]
   exact ⟨_, _, rfl, rfl, Keep.refl hok, Nat.le_succ _, .inl rfl, fun _ => rfl, fun h => (h rfl).elim⟩
  ·rw [if_neg h0, if_pos (by simp only [lnn, Nat.zero_add] at hb hb'; exact ⟨hb, hb'⟩)]
   refine ⟨_, _, rfl, ⟨rfl, hsz, by simp, nlr _, by simpa using hn, [], ?_⟩, (newG_keep hok _).1, nlr _, .inr rfl, (fun h => by cases h), fun _ h => by cases h⟩
   rw [List.append_nil, List.nil_append, ← hnl]
   exact rd_new hok
 | ro nl xs => exact absurd (hro rfl) (by simp)
 | slc g j off sz' len lo ex =>
  have h6 := hr.rd
  obtain ⟨rfl, -, rfl, h4, h5, rest, h7⟩ := hr
  obtain ⟨G, hG⟩ := rdH_has h6
  have h' : G.read j off (cs.length * sz') = some cs.flatten := by unfold rdH at h6; rw [hG] at h6; exact h6
  obtain ⟨V, k1, k2, k3, k4⟩ := Grp.read_eq h'
  have hfl : cs.flatten.length = cs.length * sz' := flat_len fun c hc => (h5 c hc).1
  simp only [ne_eq, not_true_eq_false, if_false]
  by_cases hroom : cs.length + ns.length ≤ lo
  ·rw [if_pos hroom]
   by_cases h0 : ns.length = 0
   ·rw [if_pos h0]
    rw [hnn h0, List.append_nil]
    exact ⟨_, _, rfl, ⟨rfl, hsz, rfl, h4, h5, rest, h7⟩, (Keep.refl hok).more (fun g hg => by cases hg), Nat.le_succ _, .inl rfl, (fun h => by cases h), fun h => (h rfl).elim⟩
   ·rw [if_neg h0]
    have hm : cs.length * sz' + ns.length * sz' ≤ lo * sz' := by rw [← Nat.add_mul]; exact Nat.mul_le_mul_right _ hroom
    obtain ⟨s', e1, e2, e3, e4⟩ := write_over hok h7 (k := cs.length * sz') (c := ns.flatten) (by omega) hleaf
    rw [e1]
    refine ⟨_, _, rfl, ⟨rfl, hsz, by simp, hroom, hcells, rest.drop (ns.length * sz'), ?_⟩, e3, by omega, .inl rfl, (fun h => by cases h), fun _ h => by cases h⟩
    rw [e2, flat_app]
    unfold over
    rw [List.take_append_of_le_length (by omega), List.take_of_length_le (by omega), ← hfl, hnl, List.drop_length_add_append]
  ·rw [if_neg hroom, if_pos ⟨hb, hb'⟩]
   simp only [St.get, hG, h']
   cases ex with
   | true =>
    simp only [if_true]
    refine ⟨_, _, rfl, ⟨rfl, hsz, by simp, nlr _, hcells, [], ?_⟩, (newG_keep hok _).1.more (fun g hg => by cases hg), nlr _, .inr rfl, (fun h => by cases h), fun _ h => by cases h⟩
    rw [List.append_nil, flat_app]
    have : (cs.flatten ++ ns.flatten).length = (cs.length + ns.length) * sz' := by rw [laa, hfl, hnl, Nat.add_mul]
    rw [← this]
    exact rd_new hok
   | false =>
    simp only [k1, Bool.false_eq_true, if_false]
    refine ⟨_, _, rfl, ⟨rfl, hsz, by simp, nlr _, hcells, [], ?_⟩, ⟨hok, ?_, nlr _, ?_, ?_⟩, Nat.le_succ _, .inl rfl, (fun h => by cases h), fun _ h => by cases h⟩
    ·rw [List.append_nil, flat_app]
     have hlen : (cs.flatten ++ ns.flatten).length = (cs.length + ns.length) * sz' := by rw [laa, hfl, hnl, Nat.add_mul]
     unfold rdH
     simp only [St.setG, Tr.get_set, if_true]
     rw [Grp.read_mk (V := ⟨cs.flatten ++ ns.flatten, V.delta + off, none⟩) (by simp) rfl (by simp only; omega)]
     simp only [List.drop_zero]
     rw [List.take_of_length_le (by omega)]
    ·intro g' hg'
     simp only [St.setG, Tr.get_set] at hg' ⊢
     split
     ·rename_i e; subst e; rw [hok _ hg'] at hG; cases hG
     ·exact hok g' hg'
    ·intro g' hg' G' hG'
     simp only [St.setG, Tr.get_set]
     rw [if_neg (fun e => hg' (by rw [e]; exact mcs ..)), hG']
    ·intro g' hg'
     rcases List.mem_cons.1 hg' with rfl | hg'
     ·exact .inr (.inl (mcs ..))
     ·exact .inl hg'
 | _ => exact hr.elim
end Go.Ab
namespace Go.Ab
def cutA (v : AV) (l h : Nat) : AV := match v with
 | .slc g j off sz _ lo ex => .slc g j (off + l * sz) sz (h - l) (lo - l) ex
 | .ro nl xs => .ro nl ((xs.drop l).take (h - l))
 | v => v
theorem cutA_gs (v : AV) (l h : Nat) : (cutA v l h).gs = v.gs := by cases v <;> rfl
theorem Row.cut {H : Tr Grp} {sz : Nat} {v : AV} {cs : List (List AV)} (k : Row H sz v cs) {l h : Nat} (hl : l ≤ h) (hh : h ≤ cs.length) : Row H sz (cutA v l h) ((cs.drop l).take (h - l)) := by
 have hcells : ∀ c ∈ (cs.drop l).take (h - l), c.length = sz ∧ c.all AV.leaf = true := fun c hc => k.cells c (List.mem_of_mem_drop (List.mem_of_mem_take hc))
 cases v with
 | nils => cases k; simp [cutA, Row]
 | ro nl xs =>
  obtain ⟨rfl, -⟩ := k
  refine ⟨?_, hcells⟩
  rw [List.map_take, List.map_drop]
 | slc g j off sz' len lo ex =>
  obtain ⟨rfl, h2, rfl, h4, h5, rest, h6⟩ := k
  refine ⟨rfl, h2, by simp; omega, by omega, hcells, ((cs.drop l).drop (h - l)).flatten ++ rest, ?_⟩
  have e : cs = cs.take l ++ ((cs.drop l).take (h - l) ++ (cs.drop l).drop (h - l)) := by rw [List.take_append_drop, List.take_append_drop]
  have hA : (cs.take l).flatten.length = l * sz' := by
   rw [flat_len (sz := sz') fun c hc => (h5 c (List.mem_of_mem_take hc)).1, List.length_take, Nat.min_eq_left (by omega)]
  have hm : l * sz' + (lo - l) * sz' = lo * sz' := by rw [← Nat.add_mul]; congr 1; omega
  have := rdH_part h6 (l * sz') ((lo - l) * sz') (by omega)
  rw [this]
  congr 1
  have hlen := rdH_len h6
  have e2 : cs.flatten ++ rest = (cs.take l).flatten ++ (((cs.drop l).take (h - l)).flatten ++ (((cs.drop l).drop (h - l)).flatten ++ rest)) := by
   conv => lhs; rw [e, List.flatten_append, List.flatten_append]
   simp [aas]
  rw [e2, ← hA, List.drop_left]
  apply List.take_of_length_le
  rw [e2, laa, hA] at hlen
  omega
 | _ => exact k.elim
theorem Row.cutF {H : Tr Grp} {sz : Nat} {v : AV} {α : Type} {f : α → List AV} {xs : List α} (k : Row H sz v (xs.map f)) {h : Nat} (hh : h ≤ xs.length) : Row H sz (cutA v 0 h) ((xs.take h).map f) := by
 have := k.cut (Nat.zero_le h) (by rwa [lmm])
 rw [List.drop_zero, Nat.sub_zero, ← List.map_take] at this
 exact this

section
variable {P : Program} {T : Tab} {K : Kn} {nt : NT} {ops : Array Oper} {rest : List Oper} {m : Sy} {s : St} {Q : Sy → St → Prop} {d ty : Nat} {pos : String} {af : Array Edge} {g : Option (Nat × Bool)}
theorem w_alloc {e : TypeId} {i : TI} (hg : guardY ops m g = some true) (hd : Nat.ble (d + 1) nt.n = true) (hT : T e = some i) (hz : i.zero.all AV.leaf = true) (hok : s.Ok)
  (k : ∀ s', Pt s'.h (.ptr s.ctr 0 0) i.zero → Keep [] s s' → s'.ctr = s.ctr + 1 → W P T K nt ops rest ((d, .ptr s.ctr 0 0) :: m) s' Q) : W P T K nt ops (⟨some d, .alloc e, ty, pos, af, g⟩ :: rest) m s Q :=
 w_val hg hd (s' := s.newG ⟨[⟨i.zero, 0, none⟩]⟩) (fun t _ => by simp only [evOp, hT, hz, if_true]) (k _ (rd_new hok) (newG_keep hok _).1 rfl)
theorem w_box {e : TypeId} {x : Operand} {v : AV} (hg : guardY ops m g = some true) (hd : Nat.ble (d + 1) nt.n = true) (hx : evY m x = some v) (hz : v.cells.all AV.leaf = true) (hok : s.Ok)
  (k : ∀ s', Pt s'.h (.ptr s.ctr 0 0) v.cells → Keep [] s s' → s'.ctr = s.ctr + 1 → W P T K nt ops rest ((d, .ptr s.ctr 0 0) :: m) s' Q) : W P T K nt ops (⟨some d, .box e x, ty, pos, af, g⟩ :: rest) m s Q :=
 w_val hg hd (s' := s.newG ⟨[⟨v.cells, 0, none⟩]⟩) (fun t ht => by simp only [evOp, evY_ok ht hx, hz, if_true]) (k _ (rd_new hok) (newG_keep hok _).1 rfl)
theorem w_store_all {tt : TypeId} {a x : Operand} {i : TI} {p u : AV} {old : List AV} (hg : guardY ops m g = some true) (ha : evY m a = some p) (hx : evY m x = some u) (hT : T tt = some i) (hl : u.cells.length = i.size) (hlo : u.cells.length = old.length)
  (hz : u.cells.all AV.leaf = true) (hok : s.Ok) (hp : Pt s.h p old) (hpg : p.gs ≠ [])
  (k : ∀ s', Pt s'.h p u.cells → Keep p.gs s s' → s'.ctr = s.ctr → W P T K nt ops rest m s' Q) : W P T K nt ops (⟨none, .store tt a x, ty, pos, af, g⟩ :: rest) m s Q := by
 cases p with
 | ptr g' j off =>
  obtain ⟨s', e1, e2, e3, e4⟩ := write_over hok hp (k := 0) (c := u.cells) (by omega) hz
  rw [Nat.add_zero] at e1
  refine w_eff hg (s' := s') (fun t ht => ?_) (k s' ?_ e3 e4)
  ·have hnl : ¬ (u.cells.length ≠ i.size) := fun h => h hl
   simp only [evOp, hT, evY_ok ht ha, evY_ok ht hx, if_neg hnl, e1]
  ·show rdH s'.h g' j off u.cells.length = some u.cells
   rw [hlo, e2]
   unfold over
   simp [hlo]
 | rop xs => exact (hpg rfl).elim
 | _ => exact hp.elim
theorem w_store_fld {tt : TypeId} {a x : Operand} {i : TI} {p u : AV} {o : Nat} {old : List AV} (hg : guardY ops m g = some true) (ha : evY m a = some (fldA p o)) (hx : evY m x = some u) (hT : T tt = some i) (hl : u.cells.length = i.size)
  (hz : u.cells.all AV.leaf = true) (hok : s.Ok) (hp : Pt s.h p old) (hpg : p.gs ≠ []) (hlo : o + u.cells.length ≤ old.length)
  (k : ∀ s', Pt s'.h p (over old o u.cells) → Keep p.gs s s' → s'.ctr = s.ctr → W P T K nt ops rest m s' Q) : W P T K nt ops (⟨none, .store tt a x, ty, pos, af, g⟩ :: rest) m s Q := by
 cases p with
 | ptr g' j off =>
  obtain ⟨s', e1, e2, e3, e4⟩ := write_over hok hp (k := o) (c := u.cells) hlo hz
  refine w_eff hg (s' := s') (fun t ht => ?_) (k s' ?_ e3 e4)
  ·have hnl : ¬ (u.cells.length ≠ i.size) := fun h => h hl
   have ha' := evY_ok ht ha
   simp only [fldA] at ha'
   simp only [evOp, hT, ha', evY_ok ht hx, if_neg hnl, e1]
  ·show rdH s'.h g' j off (over old o u.cells).length = some _
   rw [over_len hlo]
   exact e2
 | rop xs => exact (hpg rfl).elim
 | _ => exact hp.elim
theorem w_store_row {tt : TypeId} {a x : Operand} {i : TI} {r u : AV} {n sz : Nat} {cs : List (List AV)} (hg : guardY ops m g = some true) (ha : evY m a = some (elemA r n)) (hx : evY m x = some u) (hT : T tt = some i) (hl : u.cells.length = i.size) (hsz : i.size = sz)
  (hz : u.cells.all AV.leaf = true) (hok : s.Ok) (hr : Row s.h sz r cs) (hrg : r.gs ≠ []) (hn : n < cs.length)
  (k : ∀ s', Row s'.h sz r (cs.set n u.cells) → Keep r.gs s s' → s'.ctr = s.ctr → W P T K nt ops rest m s' Q) : W P T K nt ops (⟨none, .store tt a x, ty, pos, af, g⟩ :: rest) m s Q := by
 cases r with
 | slc g' j off sz' len lo ex =>
  obtain ⟨rfl, h2, rfl, h4, h5, rest', h6⟩ := hr
  have hul : u.cells.length = sz' := by rw [hl, hsz]
  have hb : n * sz' + u.cells.length ≤ cs.length * sz' := by rw [hul, ← Nat.succ_mul]; exact Nat.mul_le_mul_right _ hn
  have hb2 := Nat.mul_le_mul_right sz' h4
  obtain ⟨s', e1, e2, e3, e4⟩ := write_over hok h6 (k := n * sz') (c := u.cells) (by omega) hz
  refine w_eff hg (s' := s') (fun t ht => ?_) (k s' ?_ e3 e4)
  ·have hnl : ¬ (u.cells.length ≠ i.size) := fun h => h hl
   have ha' := evY_ok ht ha
   simp only [elemA] at ha'
   simp only [evOp, hT, ha', evY_ok ht hx, if_neg hnl, e1]
  ·refine ⟨rfl, h2, by simp, h4, ?_, rest', ?_⟩
   ·intro c hc
    rcases List.mem_or_eq_of_mem_set hc with hc | rfl
    ·exact h5 c hc
    ·exact ⟨hul, hz⟩
   ·rw [e2]
    have hfl : cs.flatten.length = cs.length * sz' := flat_len fun c hc => (h5 c hc).1
    rw [← flat_set (fun c hc => (h5 c hc).1) hn hul]
    unfold over
    rw [List.take_append_of_le_length (by omega), List.drop_append_of_le_length (by omega)]
    simp [aas]
 | nils => exact (hrg rfl).elim
 | ro nl xs => exact (hrg rfl).elim
 | _ => exact hr.elim
theorem w_lit1 {tt e : TypeId} {parts : Array (Nat × Operand)} {i ie : TI} {ps : List (Nat × AV)} {c : List AV} (hg : guardY ops m g = some true) (hd : Nat.ble (d + 1) nt.n = true) (hT : T tt = some i) (hs : i.sh = .slice e) (he : T e = some ie) (hp : evPartsY m parts.toList = some ps)
  (hz : ie.zero.length = ie.size) (h0 : ie.size ≠ 0) (h24 : ie.size ≤ 2 ^ 24) (hf : fillA (fun n => some (n * ie.size, ie.size)) ie.zero ps = some c) (hl : c.all AV.leaf = true) (hcl : c.length = ie.size) (hok : s.Ok)
  (k : ∀ v s', Row s'.h ie.size v [c] → Keep [] s s' → s'.ctr = s.ctr + 1 → v.gs = [s.ctr] → W P T K nt ops rest ((d, v) :: m) s' Q) : W P T K nt ops (⟨some d, .buildSlice tt 1 parts, ty, pos, af, g⟩ :: rest) m s Q := by
 obtain ⟨sh, size, bytes, zero, flat⟩ := i
 cases hs
 refine w_val hg hd (v := .slc s.ctr 0 0 ie.size 1 1 true) (s' := s.newG ⟨[⟨c, 0, none⟩]⟩) (fun t ht => ?_) (k _ _ ⟨rfl, h0, rfl, nlr _, ?_, [], ?_⟩ (newG_keep hok _).1 rfl rfl)
 ·have hcond : ¬ (1 * ie.size > 2 ^ 24 ∨ ie.zero.length ≠ ie.size ∨ ie.size = 0) := by
   rintro (h | h | h)
   ·omega
   ·exact h hz
   ·exact h0 h
  have hfl : (List.replicate 1 ie.zero).flatten = ie.zero := by simp [List.replicate]
  simp only [evOp, hT, he, evPartsY_ok ht hp, if_neg hcond, hfl, hf, hl, if_true]
 ·intro c' hc'
  rw [msi.1 hc']
  exact ⟨hcl, hl⟩
 ·rw [Nat.one_mul, ← hcl]
  simpa using rd_new (s := s) (cs := c) hok
theorem w_make {tt e : TypeId} {x y : Operand} {i ie : TI} {n : Nat} (hg : guardY ops m g = some true) (hd : Nat.ble (d + 1) nt.n = true) (hT : T tt = some i) (hs : i.sh = .slice e) (he : T e = some ie) (hx : evY m x = some (.int .i64 n)) (hy : evY m y = some (.int .i64 n))
  (hz : ie.zero.length = ie.size) (h0 : ie.size ≠ 0) (hl : ie.zero.all AV.leaf = true) (hb : n * ie.bytes ≤ maxBytes) (hb' : n ≤ 140737488355328) (hok : s.Ok)
  (k : ∀ v s', Row s'.h ie.size v (List.replicate n ie.zero) → Keep [] s s' → s'.ctr = s.ctr + 1 → v.gs = [s.ctr] → W P T K nt ops rest ((d, v) :: m) s' Q) : W P T K nt ops (⟨some d, .makeSlice tt x y, ty, pos, af, g⟩ :: rest) m s Q := by
 obtain ⟨sh, size, bytes, zero, flat⟩ := i
 cases hs
 refine w_val hg hd (v := .slc s.ctr 0 0 ie.size n n true) (s' := s.newG ⟨[⟨(List.replicate n ie.zero).flatten, 0, none⟩]⟩) (fun t ht => ?_) (k _ _ ⟨rfl, h0, by simp, nlr _, ?_, [], ?_⟩ (newG_keep hok _).1 rfl rfl)
 ·have hcond : 0 ≤ (n : Int) ∧ True ∧ (n : Int).toNat * ie.bytes ≤ maxBytes ∧ (n : Int) ≤ 140737488355328 ∧ ie.zero.length = ie.size ∧ ie.size ≠ 0 ∧ ie.zero.all AV.leaf = true :=
   ⟨by omega, trivial, by simpa using hb, by omega, hz, h0, hl⟩
  simp only [evOp, hT, he, evY_ok ht hx, evY_ok ht hy]
  rw [if_pos hcond]
  rfl
 ·intro c hc
  rw [List.eq_of_mem_replicate hc]
  exact ⟨hz, hl⟩
 ·have : (List.replicate n ie.zero).flatten.length = n * ie.size := by
   rw [flat_len (sz := ie.size) fun c hc => by rw [List.eq_of_mem_replicate hc]; exact hz]
   simp
  rw [List.append_nil, ← this]
  exact rd_new hok
theorem w_append {tt e : TypeId} {x y : Operand} {args : Array Operand} {tys : Array TypeId} {i ie : TI} {a b : AV} {cs ns : List (List AV)} (hg : guardY ops m g = some true) (hd : Nat.ble (d + 1) nt.n = true) (h1 : args.toList = [x, y]) (h2 : tys.toList = [tt, tt])
  (hx : evY m x = some a) (hy : evY m y = some b) (hT : T tt = some i) (hs : i.sh = .slice e) (he : T e = some ie) (h0 : ie.size ≠ 0) (hok : s.Ok) (ha : Row s.h ie.size a cs) (hro : a.gs = [] → a = .nils) (hb : Row s.h ie.size b ns)
  (hb1 : (cs.length + ns.length) * ie.bytes ≤ maxBytes) (hb2 : cs.length + ns.length ≤ maxBytes)
  (k : ∀ v s', Row s'.h ie.size v (cs ++ ns) → Keep a.gs s s' → s'.ctr ≤ s.ctr + 1 → (v.gs = a.gs ∨ v.gs = [s.ctr]) → (v.gs = [] → v = .nils) → (ns ≠ [] → v.gs ≠ []) → W P T K nt ops rest ((d, v) :: m) s' Q) :
  W P T K nt ops (⟨some d, .call ⟨.builtin .append, args, tys⟩, ty, pos, af, g⟩ :: rest) m s Q := by
 obtain ⟨sh, size, bytes, zero, flat⟩ := i
 cases hs
 obtain ⟨v, s', e1, e2, e3, e4, e5, e6, e7⟩ := app_row hok h0 ha hro hb.cells hb1 hb2
 refine w_val hg hd (v := v) (s' := s') (fun t ht => ?_) (k v s' e2 e3 e4 e5 e6 e7)
 have hev : evsY m [x, y] = some [a, b] := by simp only [evsY, hx, hy]
 simp only [evOp, h1, h2, evsY_ok ht hev, callA, ne_eq, not_true_eq_false, if_false, hT, he, hb.slen, hb.elems, e1]
def optY (m : Sy) : Option Operand → Option (Option Nat)
 | none => some none
 | some x => match evY m x with
  | none => none
  | some v => match natA v with
   | none => none
   | some n => some (some n)
theorem optY_ok {t : TL} (h : Has t nt m) {x : Option Operand} {r : Option Nat} (e : optY m x = some r) : optNat t x = some r := by
 cases x with
 | none => exact e
 | some x =>
  simp only [optY] at e
  simp only [optNat]
  cases hx : evY m x with
  | none => rw [hx] at e; cases e
  | some v => rw [hx] at e; rw [evY_ok h hx]; exact e
theorem optY_some {x : Operand} {v : AV} {n : Nat} (hx : evY m x = some v) (hn : natA v = some n) : optY m (some x) = some (some n) := by
 unfold optY; simp only [hx, hn]
theorem op_cut {tt e : TypeId} {x : Operand} {lo hi : Option Operand} {i ie : TI} {v : AV} {cs : List (List AV)} {l h : Option Nat} {sz l' h' : Nat} (hx : evY m x = some v) (hlo : optY m lo = some l) (hhi : optY m hi = some h) (hT : T tt = some i) (hs : i.sh = .slice e) (he : T e = some ie) (hz : ie.size = sz)
  (hr : Row s.h sz v cs) (el : l.getD 0 = l') (eh : h.getD cs.length = h') (h1 : l' ≤ h') (h2 : h' ≤ cs.length) : ∀ t, Has t nt m → evOp T (.slice tt x lo hi none) t s = some (.val (cutA v l' h'), s) := by
 intro t ht
 subst el eh
 obtain ⟨sh, size, bytes, zero, flat⟩ := i
 cases hs
 have ho : optNat t none = some none := rfl
 have hao : arrOk T tt v s = true := by unfold arrOk; simp only [hT]
 have : sliceA T tt v l h none = some (cutA v (l.getD 0) (h.getD cs.length)) := by
  cases v with
  | nils =>
   cases hr
   have e1 : l.getD 0 = 0 := by simp at h1 h2; omega
   have e2 : h.getD 0 = 0 := by simpa using h2
   have hcond : l.getD 0 = 0 ∧ h.getD 0 = 0 ∧ (none : Option Nat).getD 0 = 0 ∧ ((none : Option Nat).isSome = true → h.isSome = true) := ⟨e1, e2, rfl, fun h => by cases h⟩
   unfold sliceA
   simp only [hT, he, if_pos hcond, cutA]
  | ro nl xs =>
   obtain ⟨rfl, hc⟩ := hr
   rw [lmm] at h1 h2 ⊢
   have hall : (xs.all fun x => x.cells.length == ie.size) = true := by
    rw [aet]
    intro y hy
    rw [(hc y.cells (List.mem_map_of_mem hy)).1, hz]
    exact beq_self_eq_true _
   have hcond : l.getD 0 ≤ h.getD xs.length ∧ h.getD xs.length ≤ xs.length ∧ (xs.all fun x => x.cells.length == ie.size) = true := ⟨h1, h2, hall⟩
   unfold sliceA
   simp only [hT, he, if_pos hcond, cutA]
  | slc g j off sz' len lo' ex =>
   obtain ⟨rfl, k2, rfl, k4, -⟩ := hr
   have hn : ¬ (ie.size ≠ sz') := fun h => h hz
   have hcond : l.getD 0 ≤ h.getD cs.length ∧ h.getD cs.length ≤ lo' := ⟨h1, by omega⟩
   unfold sliceA
   simp only [hT, he, if_neg hn, if_pos hcond, cutA]
  | _ => exact hr.elim
 simp only [evOp, evY_ok ht hx, optY_ok ht hlo, optY_ok ht hhi, ho, hao, if_true, this]
theorem op_convert {a b : TypeId} {x : Operand} {i i' : TI} {k k' k'' : IntKind} {n : Int} (hx : evY m x = some (.int k n)) (ha : T a = some i) (hb : T b = some i') (h1 : i.sh = .num k'') (h2 : i'.sh = .num k') :
  ∀ t, Has t nt m → evOp T (.convert a b x) t s = some (.val (.int k' (k'.wrap n)), s) := by
 intro t ht
 obtain ⟨sh, size, bytes, zero, flat⟩ := i
 obtain ⟨sh', size', bytes', zero', flat'⟩ := i'
 cases h1
 cases h2
 simp only [evOp, ha, hb, evY_ok ht hx]
end
end Go.Ab
namespace Go.Ab
def Lent {α : Type} (h : Tr Grp) (sz : Nat) (f : α → List AV) (mk : List AV) (v : AV) (xs : List α) : Prop :=
 ∃ u, v = cutA u 0 xs.length ∧ u.gs ≠ [] ∧ Row h sz u (xs.map f ++ [mk])
theorem Lent.row {α : Type} {h : Tr Grp} {sz : Nat} {f : α → List AV} {mk : List AV} {v : AV} {xs : List α} (k : Lent h sz f mk v xs) : Row h sz v (xs.map f) := by
 obtain ⟨u, rfl, -, hr⟩ := k
 have := hr.cut (Nat.zero_le xs.length) (by simp)
 rw [List.drop_zero, Nat.sub_zero, List.take_append_of_le_length (by simp), List.take_of_length_le (by simp)] at this
 exact this
theorem Lent.keep {α : Type} {X : List Nat} {s s' : St} {sz : Nat} {f : α → List AV} {mk : List AV} {v : AV} {xs : List α} (k : Lent s.h sz f mk v xs) (h : Keep X s s') (hg : ∀ g ∈ v.gs, g ∉ X) : Lent s'.h sz f mk v xs := by
 obtain ⟨u, rfl, hu, hr⟩ := k
 exact ⟨u, rfl, hu, hr.keep h (by rw [cutA_gs] at hg; exact hg)⟩
theorem row_nils (h : Tr Grp) (sz : Nat) : Row h sz .nils [] := rfl
theorem Keep.two {s s' s'' : St} (h : Keep [] s s') (k : Keep [] s' s'') : Keep [] s s'' := h.trans k fun g hg => by cases hg
theorem Keep.fresh {X : List Nat} {s s' s'' : St} (h : Keep [] s s') (k : Keep X s' s'') (hX : ∀ g ∈ X, s.ctr ≤ g) : Keep [] s s'' := h.trans k fun g hg => .inr (hX g hg)
theorem Row.less {h : Tr Grp} {sz : Nat} {mk : List AV} {u : AV} {cs : List (List AV)} {n : Nat} (hn : cs.length = n) (hr : Row h sz u (cs ++ [mk])) : Row h sz (cutA u 0 n) cs := by
 subst hn
 have := hr.cut (Nat.zero_le cs.length) (by simp)
 rw [List.drop_zero, Nat.sub_zero, List.take_append_of_le_length (by simp), List.take_of_length_le (by simp)] at this
 exact this
def RowR {α : Type} (h : Tr Grp) (sz : Nat) (R : Tr Grp → α → List AV → Prop) (v : AV) (xs : List α) : Prop :=
 ∃ css, Row h sz v css ∧ css.length = xs.length ∧ ∀ (i : Nat) (x : α) (c : List AV), xs[i]? = some x → css[i]? = some c → R h x c
theorem mem_none (s : St) : ∀ g ∈ [s.ctr], s.ctr ≤ g := fun g hg => by rw [msi.1 hg]; exact nlr _
end Go.Ab
namespace Go.Ab
def Fr (a b : Nat) (X : List Nat) (g : Nat) : Prop := a ≤ g ∧ g < b ∧ g ∉ X
theorem Row.lt {s : St} {sz : Nat} {v : AV} {cs : List (List AV)} (k : Row s.h sz v cs) (hok : s.Ok) : ∀ g ∈ v.gs, g < s.ctr := by
 intro g hg
 obtain ⟨G, hG⟩ := k.has g hg
 rcases Nat.lt_or_ge g s.ctr with h | h
 ·exact h
 ·rw [hok g h] at hG; cases hG
theorem Row.leaf {h : Tr Grp} {sz : Nat} {v : AV} {cs : List (List AV)} (k : Row h sz v cs) : v.leaf = true := by
 cases v <;> first | rfl | exact k.elim
theorem Lent.leaf {α : Type} {h : Tr Grp} {sz : Nat} {f : α → List AV} {mk : List AV} {v : AV} {xs : List α} (k : Lent h sz f mk v xs) : v.leaf = true := k.row.leaf
theorem take_snoc {α : Type} {xs : List α} {i : Nat} {x : α} (h : xs[i]? = some x) : xs.take i ++ [x] = xs.take (i + 1) := by
 rw [List.take_add_one, h]; rfl
theorem RowR.keep0 {α : Type} {R : Tr Grp → α → List AV → Prop} (hR : ∀ {s s' : St} {x : α} {c : List AV}, R s.h x c → Keep [] s s' → R s'.h x c) {s s' : St} {sz : Nat} {v : AV} {xs : List α} (k : RowR s.h sz R v xs) (h : Keep [] s s') : RowR s'.h sz R v xs := by
 obtain ⟨css, hr, hl, hx⟩ := k
 exact ⟨css, hr.keep h fun g _ hg => (by cases hg), hl, fun i x c h1 h2 => hR (hx i x c h1 h2) h⟩
theorem Row.keep0 {s s' : St} {sz : Nat} {v : AV} {cs : List (List AV)} (k : Row s.h sz v cs) (h : Keep [] s s') : Row s'.h sz v cs := k.keep h fun g _ hg => (by cases hg)
abbrev RP (α : Type) := Tr Grp → (Nat → Prop) → α → List AV → Prop
structure Good {α : Type} (R : RP α) : Prop where
 keep : ∀ {Y : List Nat} {s s' : St} {F : Nat → Prop} {x : α} {c : List AV}, R s.h F x c → Keep Y s s' → (∀ g ∈ Y, ¬ F g) → R s'.h F x c
 mono : ∀ {h : Tr Grp} {F F' : Nat → Prop} {x : α} {c : List AV}, R h F x c → (∀ g, F g → F' g) → R h F' x c
def LentF {α : Type} (h : Tr Grp) (F : Nat → Prop) (sz : Nat) (f : α → List AV) (mk : List AV) (v : AV) (xs : List α) : Prop := Lent h sz f mk v xs ∧ ∀ g ∈ v.gs, F g
def LentRF {α : Type} (h : Tr Grp) (F : Nat → Prop) (sz : Nat) (R : RP α) (mk : List AV) (v : AV) (xs : List α) : Prop :=
 ∃ u css, v = cutA u 0 xs.length ∧ u.gs ≠ [] ∧ (∀ g ∈ u.gs, F g) ∧ Row h sz u (css ++ [mk]) ∧ css.length = xs.length ∧ ∀ (i : Nat) (x : α) (c : List AV), xs[i]? = some x → css[i]? = some c → R h F x c
section
variable {α : Type} {R : RP α} {c0 hi : Nat} {s s' : St} {sz : Nat} {f : AV} {xs : List α}
theorem LentF.keep {Y : List Nat} {F : Nat → Prop} {f : α → List AV} {mk : List AV} {v : AV} (k : LentF s.h F sz f mk v xs) (h : Keep Y s s') (hY : ∀ g ∈ Y, ¬ F g) : LentF s'.h F sz f mk v xs :=
 ⟨k.1.keep h fun g hg hy => hY g hy (k.2 g hg), k.2⟩
theorem LentF.mono {h : Tr Grp} {F F' : Nat → Prop} {f : α → List AV} {mk : List AV} {v : AV} (k : LentF h F sz f mk v xs) (hF : ∀ g, F g → F' g) : LentF h F' sz f mk v xs := ⟨k.1, fun g hg => hF g (k.2 g hg)⟩
theorem LentRF.keep (hG : Good R) {Y : List Nat} {F : Nat → Prop} {mk : List AV} {v : AV} (k : LentRF s.h F sz R mk v xs) (h : Keep Y s s') (hY : ∀ g ∈ Y, ¬ F g) : LentRF s'.h F sz R mk v xs := by
 obtain ⟨u, css, rfl, hu, hF, hr, hl, hx⟩ := k
 exact ⟨u, css, rfl, hu, hF, hr.keep h fun g hg hy => hY g hy (hF g hg), hl, fun i x c h1 h2 => hG.keep (hx i x c h1 h2) h hY⟩
theorem LentRF.mono (hG : Good R) {h : Tr Grp} {F F' : Nat → Prop} {mk : List AV} {v : AV} (k : LentRF h F sz R mk v xs) (hF : ∀ g, F g → F' g) : LentRF h F' sz R mk v xs := by
 obtain ⟨u, css, rfl, hu, hF1, hr, hl, hx⟩ := k
 exact ⟨u, css, rfl, hu, fun g hg => hF g (hF1 g hg), hr, hl, fun i x c h1 h2 => hG.mono (hx i x c h1 h2) hF⟩
def Bld (c0 hi : Nat) (s : St) (sz : Nat) (R : RP α) (f : AV) (xs : List α) : Prop :=
 ∃ css, Row s.h sz f css ∧ (f.gs = [] → f = .nils) ∧ (∀ g ∈ f.gs, c0 ≤ g ∧ g < hi) ∧ css.length = xs.length ∧ ∀ (i : Nat) (x : α) (c : List AV), xs[i]? = some x → css[i]? = some c → R s.h (Fr c0 hi f.gs) x c
theorem Bld.nil : Bld c0 hi s sz R .nils [] := ⟨[], rfl, fun _ => rfl, (fun g hg => by cases hg), rfl, (fun i x c h => by simp at h)⟩
theorem Bld.keep (hG : Good R) (k : Bld c0 hi s sz R f xs) {Y : List Nat} (h : Keep Y s s') (hY : ∀ g ∈ Y, hi ≤ g) : Bld c0 hi s' sz R f xs := by
 obtain ⟨css, hr, hn, hf, hl, hx⟩ := k
 exact ⟨css, hr.keep h fun g hg hy => by have := hY g hy; have := (hf g hg).2; omega, hn, hf, hl, fun i x c h1 h2 => hG.keep (hx i x c h1 h2) h fun g hg hF => by have := hY g hg; have := hF.2.1; omega⟩
section
variable {P : Program} {T : Tab} {K : Kn} {nt : NT} {ops : Array Oper} {rest : List Oper} {m : Sy} {Q : Sy → St → Prop} {d ty : Nat} {pos : String} {af : Array Edge} {g : Option (Nat × Bool)}
theorem w_app_bld (hG : Good R) {tt e : TypeId} {x y : Operand} {args : Array Operand} {tys : Array TypeId} {i ie : TI} {b : AV} {c : List AV} {z : α} (hg : guardY ops m g = some true) (hd : Nat.ble (d + 1) nt.n = true) (h1 : args.toList = [x, y]) (h2 : tys.toList = [tt, tt])
  (hx : evY m x = some f) (hy : evY m y = some b) (hT : T tt = some i) (hs : i.sh = .slice e) (he : T e = some ie) (h0 : ie.size ≠ 0) (hz : ie.size = sz) (hok : s.Ok) (hB : Bld c0 hi s sz R f xs) (hhi : hi ≤ s.ctr) (hc0 : c0 ≤ s.ctr) (hb : Row s.h sz b [c]) (hc : R s.h (Fr c0 s.ctr f.gs) z c)
  (hb1 : (xs.length + 1) * ie.bytes ≤ maxBytes) (hb2 : xs.length + 1 ≤ maxBytes)
  (k : ∀ v s', Bld c0 s'.ctr s' sz R v (xs ++ [z]) → Keep f.gs s s' → (v.gs = f.gs ∨ v.gs = [s.ctr]) → W P T K nt ops rest ((d, v) :: m) s' Q) :
  W P T K nt ops (⟨some d, .call ⟨.builtin .append, args, tys⟩, ty, pos, af, g⟩ :: rest) m s Q := by
 subst hz
 obtain ⟨css, hr, hn, hf, hl, hX⟩ := hB
 refine w_append hg hd h1 h2 hx hy hT hs he h0 hok hr hn hb (by rw [hl]; exact hb1) (by rw [hl]; exact hb2) ?_
 intro v s' hv hk hle hvg hvn hne
 have hctr : s.ctr < s'.ctr ∨ v.gs = f.gs := by
  rcases hvg with h | h
  ·exact .inr h
  ·left
   have := hv.has s.ctr (by rw [h]; exact mcs ..)
   obtain ⟨G, hG'⟩ := this
   rcases Nat.lt_or_ge s.ctr s'.ctr with h' | h'
   ·exact h'
   ·rw [hk.ok s.ctr h'] at hG'; cases hG'
 refine k v s' ⟨css ++ [c], hv, hvn, ?_, by simp [hl], ?_⟩ hk hvg
 ·intro g hg'
  have := hk.ctr
  rcases hvg with h | h
  ·rw [h] at hg'; have := hf g hg'; exact ⟨this.1, by omega⟩
  ·rw [h] at hg'; rw [msi.1 hg']
   refine ⟨hc0, ?_⟩
   rcases hctr with h' | h'
   ·exact h'
   ·rw [h'] at h
    have := hf s.ctr (by rw [h]; exact mcs ..)
    omega
 ·have hF : ∀ g, Fr c0 s.ctr f.gs g → Fr c0 s'.ctr v.gs g := by
   intro g ⟨k1, k2, k3⟩
   refine ⟨k1, by have := hk.ctr; omega, ?_⟩
   rcases hvg with h | h
   ·rw [h]; exact k3
   ·rw [h]; intro hm; rw [msi.1 hm] at k2; omega
  intro i x c' h1' h2'
  by_cases hi' : i < xs.length
  ·rw [gal hi'] at h1'
   rw [gal (by omega)] at h2'
   have := hX i x c' h1' h2'
   have := hG.mono this (F' := Fr c0 s.ctr f.gs) fun g ⟨k1, k2, k3⟩ => ⟨k1, by omega, k3⟩
   exact hG.mono (hG.keep this hk fun g hg' hF' => hF'.2.2 hg') hF
  ·have hlt := (ges.1 h1').1
   rw [laa, List.length_singleton] at hlt
   have e : i = xs.length := by omega
   subst e
   rw [gar (nlr _)] at h1'
   rw [gar (by omega)] at h2'
   simp at h1'
   rw [hl] at h2'
   simp at h2'
   subst h1' h2'
   exact hG.mono (hG.keep hc hk fun g hg' hF' => hF'.2.2 hg') hF
theorem w_app_mark (hG : Good R) {tt e : TypeId} {x y : Operand} {args : Array Operand} {tys : Array TypeId} {i ie : TI} {b : AV} {mk : List AV} (hg : guardY ops m g = some true) (hd : Nat.ble (d + 1) nt.n = true) (h1 : args.toList = [x, y]) (h2 : tys.toList = [tt, tt])
  (hx : evY m x = some f) (hy : evY m y = some b) (hT : T tt = some i) (hs : i.sh = .slice e) (he : T e = some ie) (h0 : ie.size ≠ 0) (hz : ie.size = sz) (hok : s.Ok) (hB : Bld c0 hi s sz R f xs) (hhi : hi ≤ s.ctr) (hc0 : c0 ≤ s.ctr) (hb : Row s.h sz b [mk])
  (hb1 : (xs.length + 1) * ie.bytes ≤ maxBytes) (hb2 : xs.length + 1 ≤ maxBytes)
  (k : ∀ v s' css, Row s'.h sz v (css ++ [mk]) → css.length = xs.length → LentRF s'.h (Fr c0 s'.ctr []) sz R mk (cutA v 0 xs.length) xs → Keep f.gs s s' → W P T K nt ops rest ((d, v) :: m) s' Q) :
  W P T K nt ops (⟨some d, .call ⟨.builtin .append, args, tys⟩, ty, pos, af, g⟩ :: rest) m s Q := by
 subst hz
 obtain ⟨css, hr, hn, hf, hl, hX⟩ := hB
 refine w_append hg hd h1 h2 hx hy hT hs he h0 hok hr hn hb (by rw [hl]; exact hb1) (by rw [hl]; exact hb2) ?_
 intro v s' hv hk hle hvg hvn hne
 refine k v s' css hv hl ⟨v, css, rfl, hne (by simp), ?_, hv, hl, ?_⟩ hk
 ·intro g hg'
  obtain ⟨G, hG'⟩ := hv.has g hg'
  have hlt : g < s'.ctr := by
   rcases Nat.lt_or_ge g s'.ctr with h' | h'
   ·exact h'
   ·rw [hk.ok g h'] at hG'; cases hG'
  refine ⟨?_, hlt, fun h => by cases h⟩
  rcases hvg with h | h
  ·rw [h] at hg'; exact (hf g hg').1
  ·rw [h] at hg'; rw [msi.1 hg']; exact hc0
 ·intro i x c' h1' h2'
  have := hX i x c' h1' h2'
  exact hG.mono (hG.keep this hk fun g hg' hF' => hF'.2.2 hg') fun g ⟨k1, k2, k3⟩ => ⟨k1, by have := hk.ctr; omega, fun h => by cases h⟩
end
end
end Go.Ab
namespace Go.Ab
theorem wrapU64 {a : Int} (h1 : 0 ≤ a) (h2 : a < 18446744073709551616) : IntKind.u64.wrap a = a := by
 simp only [IntKind.wrap, IntKind.signed, IntKind.bits, Bool.false_and, Bool.false_eq_true, if_false, show (2 : Int) ^ 64 = 18446744073709551616 from rfl]
 omega
theorem flat_take {cs : List (List AV)} {sz : Nat} (h : ∀ c ∈ cs, c.length = sz) (k : Nat) : cs.flatten.take (k * sz) = (cs.take k).flatten := by
 induction cs generalizing k with
 | nil => simp
 | cons c cs ih =>
  cases k with
  | zero => simp
  | succ k =>
   have hc := h c (mcs ..)
   rw [List.flatten_cons, List.take_succ_cons, List.flatten_cons, Nat.succ_mul, Nat.add_comm, ← hc, List.take_length_add_append, hc, ih (fun x hx => h x (List.mem_cons_of_mem _ hx))]
theorem copy_core {s : St} {g j off sz len lo : Nat} {ex : Bool} {cs ns : List (List AV)} (hok : s.Ok) (hr : Row s.h sz (.slc g j off sz len lo ex) cs) (hn : ∀ c ∈ ns, c.length = sz ∧ c.all AV.leaf = true) (l n' : Nat) (hl : l + n' ≤ cs.length) :
  ∃ s', s.write g j (off + l * sz) (ns.flatten.take (min ns.length n' * sz)) = some s' ∧ Row s'.h sz (.slc g j off sz len lo ex) (cs.take l ++ ns.take (min ns.length n') ++ cs.drop (l + min ns.length n')) ∧ Keep [g] s s' ∧ s'.ctr = s.ctr := by
 obtain ⟨-, h2, rfl, h4, h5, rest, h6⟩ := hr
 have hk : min ns.length n' ≤ n' := Nat.min_le_right _ _
 have hk2 : min ns.length n' ≤ ns.length := Nat.min_le_left _ _
 generalize min ns.length n' = k at hk hk2 ⊢
 rw [flat_take (fun c hc => (hn c hc).1)]
 have hcl : ((ns.take k).flatten).length = k * sz := by
  rw [flat_len (sz := sz) fun c hc => (hn c (List.mem_of_mem_take hc)).1, List.length_take, Nat.min_eq_left hk2]
 have hb1 : l * sz + k * sz ≤ cs.length * sz := by rw [← Nat.add_mul]; exact Nat.mul_le_mul_right _ (by omega)
 have hb2 := Nat.mul_le_mul_right sz h4
 have hleaf : ((ns.take k).flatten).all AV.leaf = true := by
  rw [aet]
  intro x hx
  obtain ⟨c, hc, hxc⟩ := List.mem_flatten.1 hx
  exact aet.1 (hn c (List.mem_of_mem_take hc)).2 x hxc
 obtain ⟨s', e1, e2, e3, e4⟩ := write_over hok h6 (k := l * sz) (c := (ns.take k).flatten) (by omega) hleaf
 refine ⟨s', e1, ⟨rfl, h2, by simp; omega, h4, ?_, rest, ?_⟩, e3, e4⟩
 ·intro c hc
  rcases List.mem_append.1 hc with hc | hc
  ·rcases List.mem_append.1 hc with hc | hc
   ·exact h5 c (List.mem_of_mem_take hc)
   ·exact hn c (List.mem_of_mem_take hc)
  ·exact h5 c (List.mem_of_mem_drop hc)
 ·rw [e2]
  have hA : (cs.take l).flatten.length = l * sz := by
   rw [flat_len (sz := sz) fun c hc => (h5 c (List.mem_of_mem_take hc)).1, List.length_take, Nat.min_eq_left (by omega)]
  have hB : (cs.take (l + k)).flatten.length = l * sz + k * sz := by
   rw [flat_len (sz := sz) fun c hc => (h5 c (List.mem_of_mem_take hc)).1, List.length_take, Nat.min_eq_left (by omega), Nat.add_mul]
  have e5 : cs.flatten = (cs.take l).flatten ++ (cs.drop l).flatten := by rw [← List.flatten_append, List.take_append_drop]
  have e6 : cs.flatten = (cs.take (l + k)).flatten ++ (cs.drop (l + k)).flatten := by rw [← List.flatten_append, List.take_append_drop]
  have t1 : (cs.flatten ++ rest).take (l * sz) = (cs.take l).flatten := by rw [e5, aas, ← hA, List.take_left]
  have t2 : (cs.flatten ++ rest).drop (l * sz + ((ns.take k).flatten).length) = (cs.drop (l + k)).flatten ++ rest := by rw [hcl, e6, aas, ← hB, List.drop_left]
  unfold over
  rw [t1, t2]
  simp [aas]
section
variable {P : Program} {T : Tab} {K : Kn} {nt : NT} {ops : Array Oper} {rest : List Oper} {m : Sy} {s : St} {Q : Sy → St → Prop} {d ty : Nat} {pos : String} {af : Array Edge} {g : Option (Nat × Bool)} {op : Op} {v : AV}
theorem op_bin {o : BinOp} {xt yt : TypeId} {x y : Operand} {a b v : AV} (hx : evY m x = some a) (hy : evY m y = some b) (h : binA T o xt a b = some v) : ∀ t, Has t nt m → evOp T (.binOp o xt x y yt) t s = some (.val v, s) := by
 intro t ht
 simp only [evOp, evY_ok ht hx, evY_ok ht hy, h]
theorem op_cv {a b : TypeId} {x : Operand} {i i' : TI} {k k' k'' : IntKind} {n r : Int} (hx : evY m x = some (.int k n)) (ha : T a = some i) (hb : T b = some i') (h1 : i.sh = .num k'') (h2 : i'.sh = .num k') (hr : k'.wrap n = r) :
  ∀ t, Has t nt m → evOp T (.convert a b x) t s = some (.val (.int k' r), s) := hr ▸ op_convert hx ha hb h1 h2
theorem w_store_rowF {tt : TypeId} {a x : Operand} {i : TI} {r u : AV} {n sz : Nat} {α : Type} {f : α → List AV} {xs : List α} {y : α} (hg : guardY ops m g = some true) (ha : evY m a = some (elemA r n)) (hx : evY m x = some u) (hT : T tt = some i) (hu : u.cells = f y) (hl : u.cells.length = i.size) (hsz : i.size = sz)
  (hz : u.cells.all AV.leaf = true) (hok : s.Ok) (hr : Row s.h sz r (xs.map f)) (hrg : r.gs ≠ []) (hn : n < xs.length)
  (k : ∀ s', Row s'.h sz r ((xs.set n y).map f) → Keep r.gs s s' → s'.ctr = s.ctr → W P T K nt ops rest m s' Q) : W P T K nt ops (⟨none, .store tt a x, ty, pos, af, g⟩ :: rest) m s Q :=
 w_store_row hg ha hx hT hl hsz hz hok hr hrg (by rwa [lmm]) fun s' h1 h2 h3 => k s' (by rw [hu, ← List.map_set] at h1; exact h1) h2 h3
def St.join (s1 s : St) : St := { s1 with wr := s1.wr ++ s.wr }
theorem Keep.joined {X : List Nat} {s s1 : St} (h : Keep X s.bare s1) : Keep X s (s1.join s) := ⟨h.ok0, h.ok, h.ctr, h.keep, fun g hg => by
  rcases List.mem_append.1 hg with hg | hg
  · rcases h.wr g hg with h1 | h1 | h1
    · cases h1
    · exact .inr (.inl h1)
    · exact .inr (.inr h1)
  · exact .inl hg⟩
theorem wdn_nil (h : Q m s) : WD P T K nt ops [] m s (fun _ => False) Q := wd_nil h
theorem wdn_val (hr : ∀ t, Has t nt m → readsA t op = none) (hg : guardY ops m g = some true) (hd : Nat.ble (d + 1) nt.n = true) (h : ∀ t, Has t nt m → evOp T op t s.bare = some (.val v, s.bare)) (k : WD P T K nt ops rest ((d, v) :: m) s (fun _ => False) Q) :
  WD P T K nt ops (⟨some d, op, ty, pos, af, g⟩ :: rest) m s (fun _ => False) Q := wd_cons (fun t ht g hg => by rw [hr t ht] at hg; cases hg) (w1_val hg hd h ⟨fun _ _ h => h, k⟩)
theorem wdn_mem {s1 : St} (hr : ∀ t, Has t nt m → readsA t op = none) (hg : guardY ops m g = some true) (hd : Nat.ble (d + 1) nt.n = true) (h : ∀ t, Has t nt m → evOp T op t s.bare = some (.val v, s1)) (k : WD P T K nt ops rest ((d, v) :: m) (s1.join s) (fun _ => False) Q) :
  WD P T K nt ops (⟨some d, op, ty, pos, af, g⟩ :: rest) m s (fun _ => False) Q := wd_cons (fun t ht g hg => by rw [hr t ht] at hg; cases hg) (w1_val hg hd h ⟨fun _ _ h => h, k⟩)
theorem rd_slice {tt : TypeId} {x : Operand} {lo hi mx : Option Operand} {v : AV} (hx : evY m x = some v) (hv : ∀ g j o, v ≠ .ptr g j o) : ∀ t, Has t nt m → readsA t (.slice tt x lo hi mx) = none := by
 intro t ht
 simp only [readsA, evY_ok ht hx]
 cases v <;> first | rfl | exact absurd rfl (hv _ _ _)
theorem op_copy {x y : Operand} {args : Array Operand} {tys : Array TypeId} {tt e : TypeId} {i ie : TI} {r dv b : AV} {cs ns : List (List AV)} {l n' sz : Nat} (h1 : args.toList = [x, y]) (h2 : tys.toList = [tt, tt]) (hx : evY m x = some dv) (hy : evY m y = some b) (hT : T tt = some i) (hs : i.sh = .slice e) (he : T e = some ie) (hz : ie.size = sz)
  (hdv : (dv = r ∧ l = 0 ∧ n' = cs.length) ∨ dv = cutA r l (l + n')) (hok : s.Ok) (hr : Row s.h sz r cs) (hrg : r.gs ≠ []) (hb : Row s.h sz b ns) (hl : l + n' ≤ cs.length) :
  ∃ s', (∀ t, Has t nt m → evOp T (.call ⟨.builtin .copy, args, tys⟩) t s = some (.val (.int .i64 (min ns.length n' : Nat)), s')) ∧ Row s'.h sz r (cs.take l ++ ns.take (min ns.length n') ++ cs.drop (l + min ns.length n')) ∧ Keep r.gs s s' ∧ s'.ctr = s.ctr := by
 obtain ⟨sh, size, bytes, zero, flat⟩ := i
 cases hs
 subst hz
 cases r with
 | slc g j off sz' len lo ex =>
  have hsz : sz' = ie.size ∧ ie.size ≠ 0 := ⟨hr.1, hr.2.1⟩
  obtain ⟨rfl, h0⟩ := hsz
  have hlen : len = cs.length := hr.2.2.1
  obtain ⟨s', e1, e2, e3, e4⟩ := copy_core hok hr hb.cells l n' hl
  refine ⟨s', fun t ht => ?_, e2, e3, e4⟩
  have hev : evsY m [x, y] = some [dv, b] := by simp only [evsY, hx, hy]
  have hdv' : ∃ len' lo' ex', dv = .slc g j (off + l * ie.size) ie.size len' lo' ex' ∧ len' = n' := by
   rcases hdv with ⟨rfl, rfl, rfl⟩ | rfl
   ·exact ⟨_, _, _, by rw [Nat.zero_mul, Nat.add_zero], hlen⟩
   ·exact ⟨_, _, _, rfl, by omega⟩
  obtain ⟨len', lo', ex', rfl, rfl⟩ := hdv'
  simp only [evOp, h1, h2, evsY_ok ht hev, callA, ne_eq, not_true_eq_false, if_false, hT, he, hb.slen, hb.elems, h0, not_false_eq_true, and_self, if_true, e1]
 | nils => exact (hrg rfl).elim
 | ro nl xs => exact (hrg rfl).elim
 | _ => exact hr.elim
end
end Go.Ab
namespace Go.Ab
theorem Pt.lt {s : St} {p : AV} {cs : List AV} (h : Pt s.h p cs) (hok : s.Ok) : ∀ g ∈ p.gs, g < s.ctr := by
 intro g hg
 cases p with
 | ptr g' j off =>
  rw [msi.1 hg]
  obtain ⟨G, hG⟩ := rdH_has h
  rcases Nat.lt_or_ge g' s.ctr with k | k
  ·exact k
  ·rw [hok g' k] at hG; cases hG
 | rop xs => cases hg
 | _ => exact h.elim
theorem Pt.keep0 {s s' : St} {p : AV} {cs : List AV} (k : Pt s.h p cs) (h : Keep [] s s') : Pt s'.h p cs := k.keep h (by intro g _ h; cases h)
theorem Pt.bare {s : St} {p : AV} {cs : List AV} (k : Pt s.h p cs) : Pt s.bare.h p cs := k
theorem rd_load {t : TL} {nt : NT} {m : Sy} (ht : Has t nt m) {tt : TypeId} {a : Operand} {p : AV} (ha : evY m a = some p) : ∀ g, readsA t (.load tt a) = some g → g ∈ p.gs := by
 intro g hg
 simp only [readsA, evY_ok ht ha] at hg
 cases p <;> first | (cases hg; exact mcs ..) | cases hg
section
variable {P : Program} {T : Tab} {K : Kn} {nt : NT} {ops : Array Oper} {rest : List Oper} {m : Sy} {s s0 : St} {Q : Sy → St → Prop} {d ty : Nat} {pos : String} {af : Array Edge} {g : Option (Nat × Bool)} {op : Op} {v : AV} {X : List Nat}
def Old (s : St) (X : List Nat) (g : Nat) : Prop := g < s.ctr ∧ g ∉ X
theorem wo_val (hr : ∀ t, readsA t op = none) (hg : guardY ops m g = some true) (hd : Nat.ble (d + 1) nt.n = true) (h : ∀ t, Has t nt m → evOp T op t s.bare = some (.val v, s.bare)) (k : WD P T K nt ops rest ((d, v) :: m) s (Old s0 X) Q) :
  WD P T K nt ops (⟨some d, op, ty, pos, af, g⟩ :: rest) m s (Old s0 X) Q := wd_cons (fun t _ g hg => by rw [hr t] at hg; cases hg) (w1_val hg hd h ⟨fun _ h => (by cases h), k⟩)
theorem wo_slice {tt : TypeId} {x : Operand} {lo hi mx : Option Operand} {u : AV} (hx : evY m x = some u) (hu : ∀ g j o, u ≠ .ptr g j o) (hg : guardY ops m g = some true) (hd : Nat.ble (d + 1) nt.n = true) (h : ∀ t, Has t nt m → evOp T (.slice tt x lo hi mx) t s.bare = some (.val v, s.bare))
  (k : WD P T K nt ops rest ((d, v) :: m) s (Old s0 X) Q) : WD P T K nt ops (⟨some d, .slice tt x lo hi mx, ty, pos, af, g⟩ :: rest) m s (Old s0 X) Q :=
 wd_cons (fun t ht g hg => by rw [rd_slice hx hu t ht] at hg; cases hg) (w1_val hg hd h ⟨fun _ h => (by cases h), k⟩)
theorem wo_off (hg : guardY ops m g = some false) (hd : Nat.ble (d + 1) nt.n = true) (k : WD P T K nt ops rest ((d, .undef) :: m) s (Old s0 X) Q) :
  WD P T K nt ops (⟨some d, op, ty, pos, af, g⟩ :: rest) m s (Old s0 X) Q := wd_offG hg hd k
theorem wo_load {tt : TypeId} {a : Operand} {i : TI} {p : AV} {cs : List AV} (hK : Keep [] s0 s) (hx : evY m a = some p) (hT : T tt = some i) (hp : Pt s0.h p cs) (hc : loadC i cs = some v) (hX : ∀ g ∈ p.gs, g ∉ X) (hg : guardY ops m g = some true) (hd : Nat.ble (d + 1) nt.n = true)
  (k : WD P T K nt ops rest ((d, v) :: m) s (Old s0 X) Q) : WD P T K nt ops (⟨some d, .load tt a, ty, pos, af, g⟩ :: rest) m s (Old s0 X) Q :=
 have hp' : Pt s.h p cs := hp.keep hK (by intro g _ h; cases h)
 wd_cons (fun t ht g hg => by
   have := rd_load ht hx g hg
   exact ⟨hp.lt hK.ok0 g this, hX g this⟩) (w1_val (s' := s.bare) hg hd (op_load (s := s.bare) hx hT (show Pt s.bare.h p cs from hp') hc) ⟨fun _ h => (by cases h), k⟩)
theorem wo_loadO {tt : TypeId} {a : Operand} {i : TI} {p : AV} {cs : List AV} (hx : evY m a = some p) (hT : T tt = some i) (hp : Pt s.h p cs) (hc : loadC i cs = some v) (hg : guardY ops m g = some true) (hd : Nat.ble (d + 1) nt.n = true)
  (k : WD P T K nt ops rest ((d, v) :: m) s (Old s0 X) Q) (hf : rdAt ops rest.length = true := by kernel_rfl) : WD P T K nt ops (⟨some d, .load tt a, ty, pos, af, g⟩ :: rest) m s (Old s0 X) Q :=
 wd_consG (.inr hf) (w1_val (s' := s.bare) hg hd (op_load (s := s.bare) hx hT (show Pt s.bare.h p cs from hp) hc) ⟨fun _ h => (by cases h), k⟩)
theorem wo_call {f : FuncId} {args : List AV} {R : AV → St → Prop} (hK : Keep [] s0 s) (hg : guardY ops m g = some true) (hd : Nat.ble (d + 1) nt.n = true) (hr : ∀ t, readsA t op = none) (h : ∀ t, Has t nt m → evOp T op t s.bare = some (.call f args, s.bare)) (hc : CallS P T K f args s.bare R)
  (hw : ∀ v s', R v s' → Keep [] s.bare s') (k : ∀ v s', R v s' → Keep [] s0 (s'.join s) → WD P T K nt ops rest ((d, v) :: m) (s'.join s) (Old s0 X) Q) (hf : fzAt ops rest.length = true := by kernel_rfl) : WD P T K nt ops (⟨some d, op, ty, pos, af, g⟩ :: rest) m s (Old s0 X) Q :=
 wd_cons (fun t _ g hg => by rw [hr t] at hg; cases hg) (w1_call hg hd h hc (fun v s' hr' => by
   have hk := hw v s' hr'
   refine ⟨fun g hg ho => ?_, k v s' hr' (hK.trans hk.joined (by intro g hg; cases hg))⟩
   rcases hk.wr g hg with h1 | h1 | h1
   · cases h1
   · cases h1
   · have h2 : s.ctr ≤ g := h1
     have := hK.ctr
     have := ho.1
     omega) hf)
theorem wo_callX {f : FuncId} {args : List AV} {R : AV → St → Prop} {Y : List Nat} (hK : Keep [] s0 s) (hY : ∀ g ∈ Y, g ∈ X) (hg : guardY ops m g = some true) (hd : Nat.ble (d + 1) nt.n = true) (hr : ∀ t, readsA t op = none) (h : ∀ t, Has t nt m → evOp T op t s.bare = some (.call f args, s.bare)) (hc : CallS P T K f args s.bare R)
  (hw : ∀ v s', R v s' → Keep Y s.bare s') (k : ∀ v s', R v s' → Keep Y s (s'.join s) → WD P T K nt ops rest ((d, v) :: m) (s'.join s) (Old s0 X) Q) (hf : fzAt ops rest.length = true := by kernel_rfl) : WD P T K nt ops (⟨some d, op, ty, pos, af, g⟩ :: rest) m s (Old s0 X) Q :=
 wd_cons (fun t _ g hg => by rw [hr t] at hg; cases hg) (w1_call hg hd h hc (fun v s' hr' => by
   have hk := hw v s' hr'
   refine ⟨fun g hg ho => ?_, k v s' hr' hk.joined⟩
   rcases hk.wr g hg with h1 | h1 | h1
   · cases h1
   · exact ho.2 (hY g h1)
   · have h2 : s.ctr ≤ g := h1
     have := hK.ctr
     have := ho.1
     omega) hf)
theorem wo_call0 {f : FuncId} {args : List AV} {R : AV → St → Prop} (hK : Keep [] s0 s) (hg : guardY ops m g = some true) (hd : Nat.ble (d + 1) nt.n = true) (hr : ∀ t, readsA t op = none) (h : ∀ t, Has t nt m → evOp T op t s.bare = some (.call f args, s.bare)) (hc : CallS P T K f args s.bare R)
  (hw : ∀ v s', R v s' → Keep [] s.bare s') (hp : ∀ v s', R v s' → v.pl = true) (k : ∀ v s', R v s' → Keep [] s0 ⟨s'.ctr, s.h, s'.wr ++ s.wr⟩ → WD P T K nt ops rest ((d, v) :: m) ⟨s'.ctr, s.h, s'.wr ++ s.wr⟩ (Old s0 X) Q) : WD P T K nt ops (⟨some d, op, ty, pos, af, g⟩ :: rest) m s (Old s0 X) Q :=
 wd_cons (fun t _ g hg => by rw [hr t] at hg; cases hg) (w1_call0 rfl hg hd h hc (fun v s' hr' => ⟨hp v s' hr', fun g hg => by
   have hk := hw v s' hr'
   rcases hk.wr g hg with h1 | h1 | h1
   · cases h1
   · cases h1
   · exact hK.ok g h1⟩) fun v s' hr' => by
   have hk := hw v s' hr'
   have hc := hk.ctr
   have hc : s.ctr ≤ s'.ctr := hc
   have h2 : ∀ g ∈ s'.wr, s.ctr ≤ g := fun g hg => by
     rcases hk.wr g hg with h1 | h1 | h1
     · cases h1
     · cases h1
     · exact h1
   refine ⟨fun g hg ho => ?_, k v s' hr' ⟨hK.ok0, fun g hg => hK.ok g (Nat.le_trans hc hg), Nat.le_trans hK.ctr hc, hK.keep, fun g hg => ?_⟩⟩
   · have := h2 g hg
     have := hK.ctr
     have := ho.1
     omega
   · rcases List.mem_append.1 hg with h1 | h1
     · exact .inr (.inr (Nat.le_trans hK.ctr (h2 g h1)))
     · exact hK.wr g h1)
theorem wo_split {i : Nat} {x : Bool} {l : List Oper} (h : m.at i = some (.bool x)) (ht : x = true → WD P T K nt ops l ((i, .bool true) :: m) s (Old s0 X) Q) (hf : x = false → WD P T K nt ops l ((i, .bool false) :: m) s (Old s0 X) Q) : WD P T K nt ops l m s (Old s0 X) Q := wd_split h ht hf
theorem res_cell {a : Nat} {tt : TypeId} {i : TI} {g' j off : Nat} {cs : List AV} (hm : m.at a = some (.ptr g' j off)) (hT : T tt = some i) (hp : Pt s.h (.ptr g' j off) cs) (hc : loadC i cs = some v) : resY T m s [.cell a tt] = some [v] := by
 unfold loadC at hc
 split at hc
 ·rename_i hl
  have := rdH_part hp 0 i.cnt (by omega)
  rw [Nat.add_zero, List.drop_zero] at this
  unfold resY
  simp only [hT, hm, read_rd, this, hc, resY]
 ·cases hc
end
end Go.Ab
namespace Go.Ab
section
variable {P : Program} {T : Tab} {K : Kn} {nt : NT} {m : Sy} {s : St} {b : Code} {R : Ex → Sy → St → Prop}
theorem op_max {x y : Operand} {args : Array Operand} {tys : Array TypeId} {a c : Int} (ha : args.toList = [x, y]) (hx : evY m x = some (.int .i64 a)) (hy : evY m y = some (.int .i64 c)) :
  ∀ t, Has t nt m → evOp T (.call ⟨.builtin .max, args, tys⟩) t s = some (.val (.int .i64 (if a < c then c else a)), s) := by
 intro t ht
 have h1 : evsY m [x, y] = some [.int .i64 a, .int .i64 c] := by simp only [evsY, hx, hy]
 simp only [evOp, ha, evsY_ok ht h1, callA, if_true]
end
end Go.Ab
namespace Go.Ab
end Go.Ab
namespace Go.Ab
section
variable {P : Program} {T : Tab} {K : Kn} {nt : NT} {ops : Array Oper} {rest : List Oper} {m : Sy} {s : St} {Q : Sy → St → Prop} {d ty : Nat} {pos : String} {af : Array Edge} {g : Option (Nat × Bool)}
noncomputable def finA (h : Tr Grp) (v : AV) : Nat := match v with
 | .slc g j off sz len _ _ => match Tr.get h g with
  | some G => match G.vers[j]? with
   | some V => V.delta + off + len * sz
   | none => 0
  | none => 0
 | _ => 0
end
end Go.Ab
namespace Go.Ab
end Go.Ab
namespace Go.Ab
def MapAt (h : Tr Grp) (g : Nat) (es : List (AV × AV)) : Prop := Tr.get h g = some ⟨[⟨[], 0, some (.mp es)⟩]⟩
theorem MapAt.keep {X : List Nat} {s s' : St} {g : Nat} {es : List (AV × AV)} (k : MapAt s.h g es) (h : Keep X s s') (hg : g ∉ X) : MapAt s'.h g es := h.keep g hg _ k
theorem MapAt.entries {s : St} {g : Nat} {es : List (AV × AV)} (k : MapAt s.h g es) : s.entries (.mp g) = some es := by
 have k' : Tr.get s.h g = some ⟨[⟨[], 0, some (.mp es)⟩]⟩ := k
 simp only [St.entries, St.get, k']
theorem setG_keep {s : St} (hok : s.Ok) {g : Nat} {G0 : Grp} (hG : Tr.get s.h g = some G0) (G : Grp) : Keep [g] s (s.setG g G) := by
 refine ⟨hok, fun g' hg' => ?_, nlr _, fun g' hg' G' hG' => ?_, fun g' hg' => ?_⟩
 ·simp only [St.setG, Tr.get_set] at hg' ⊢
  split
  ·rename_i e; subst e; rw [hok _ hg'] at hG; cases hG
  ·exact hok g' hg'
 ·simp only [St.setG, Tr.get_set]
  rw [if_neg (fun e => hg' (by rw [e]; exact mcs ..)), hG']
 ·rcases List.mem_cons.1 hg' with rfl | hg'
  ·exact .inr (.inl (mcs ..))
  ·exact .inl hg'
def lookV (ie : TI) (es : List (AV × AV)) (k : AV) : Option AV := match mpFind k es 0 with
 | some (some (_, v)) => some v
 | some none => ofCells ie.sh.isAgg ie.zero
 | none => none
section
variable {P : Program} {T : Tab} {K : Kn} {nt : NT} {ops : Array Oper} {rest : List Oper} {m : Sy} {s : St} {Q : Sy → St → Prop} {d ty : Nat} {pos : String} {af : Array Edge} {g : Option (Nat × Bool)}
theorem w_makeMap {tt kt et : TypeId} {i : TI} (hg : guardY ops m g = some true) (hd : Nat.ble (d + 1) nt.n = true) (hT : T tt = some i) (hs : i.sh = .map kt et) (hok : s.Ok)
  (k : ∀ s', MapAt s'.h s.ctr [] → Keep [] s s' → s'.ctr = s.ctr + 1 → W P T K nt ops rest ((d, .mp s.ctr) :: m) s' Q) : W P T K nt ops (⟨some d, .makeMap tt none, ty, pos, af, g⟩ :: rest) m s Q := by
 obtain ⟨sh, size, bytes, zero, flat⟩ := i
 cases hs
 exact w_val hg hd (s' := s.newG ⟨[⟨[], 0, some (.mp [])⟩]⟩) (fun t _ => by simp only [evOp, hT]) (k _ (newG_keep hok _).2.1 (newG_keep hok _).1 rfl)
theorem op_lookup {tt kt et : TypeId} {i ie : TI} {x y : Operand} {vm vk v : AV} {es : List (AV × AV)} (hx : evY m x = some vm) (hy : evY m y = some vk) (hT : T tt = some i) (hs : i.sh = .map kt et) (he : T et = some ie) (hes : s.entries vm = some es) (hko : keyOk T kt vk = true) (hv : lookV ie es vk = some v) :
  ∀ t, Has t nt m → evOp T (.lookup tt x y false) t s = some (.val v, s) := by
 intro t ht
 obtain ⟨sh, size, bytes, zero, flat⟩ := i
 cases hs
 unfold lookV at hv
 cases hf : mpFind vk es 0 with
 | none => rw [hf] at hv; cases hv
 | some o =>
  rw [hf] at hv
  cases o with
  | none =>
   simp only at hv
   simp only [evOp, hT, he, evY_ok ht hx, evY_ok ht hy, hes, hko, hf, hv]
   simp
  | some p =>
   obtain ⟨n, u⟩ := p
   cases hv
   simp only [evOp, hT, he, evY_ok ht hx, evY_ok ht hy, hes, hko, hf]
   simp
end
end Go.Ab
namespace Go.Ab
end Go.Ab
namespace Go.Ab
section
variable {P : Program} {T : Tab} {K : Kn} {nt : NT} {ops : Array Oper} {rest : List Oper} {m : Sy} {s : St} {Q : Sy → St → Prop} {d ty : Nat} {pos : String} {af : Array Edge} {g : Option (Nat × Bool)}
theorem op_cap_nil {tt : TypeId} {x : Operand} {args : Array Operand} {tys : Array TypeId} {i : TI} {e : TypeId} (ha : args.toList = [x]) (hb : tys.toList = [tt]) (hx : evY m x = some .nils) (hT : T tt = some i) (hs : i.sh = .slice e) :
  ∀ t, Has t nt m → evOp T (.call ⟨.builtin .cap, args, tys⟩) t s = some (.val (.int .i64 0), s) := by
 intro t ht
 obtain ⟨sh, size, bytes, zero, flat⟩ := i
 cases hs
 have h1 : evsY m [x] = some [.nils] := by simp only [evsY, hx]
 simp only [evOp, ha, hb, evsY_ok ht h1, callA, hT]
theorem w_appz {tt t' e : TypeId} {x y : Operand} {args : Array Operand} {tys : Array TypeId} {i i' ie : TI} {k' : IntKind} {n : Nat} (hg : guardY ops m g = some true) (hd : Nat.ble (d + 1) nt.n = true) (h1 : args.toList = [x, y]) (h2 : tys.toList = [tt, t']) (hne : tt ≠ t')
  (hx : evY m x = some .nils) (hy : evY m y = some (.int .i64 n)) (hT : T tt = some i) (hs : i.sh = .slice e) (hT' : T t' = some i') (hs' : i'.sh = .num k') (he : T e = some ie) (h0 : 0 < n) (hb : n * ie.bytes ≤ maxBytes) (hb' : n ≤ 140737488355328) (hz : ie.zero.length = ie.size) (hsz : ie.size ≠ 0) (hl : ie.zero.all AV.leaf = true) (hok : s.Ok)
  (k : ∀ v s', Row s'.h ie.size v (List.replicate n ie.zero) → Keep [] s s' → s'.ctr = s.ctr + 1 → v.gs = [s.ctr] → W P T K nt ops rest ((d, v) :: m) s' Q) : W P T K nt ops (⟨some d, .call ⟨.builtin .append, args, tys⟩, ty, pos, af, g⟩ :: rest) m s Q := by
 obtain ⟨sh, size, bytes, zero, flat⟩ := i
 obtain ⟨sh', size', bytes', zero', flat'⟩ := i'
 cases hs
 cases hs'
 refine w_val hg hd (v := .slc s.ctr 0 0 ie.size n n false) (s' := s.newG ⟨[⟨(List.replicate n ie.zero).flatten, 0, none⟩]⟩) (fun t ht => ?_) (k _ _ ⟨rfl, hsz, by simp, nlr _, ?_, [], ?_⟩ (newG_keep hok _).1 rfl rfl)
 ·have hev : evsY m [x, y] = some [.nils, .int .i64 n] := by simp only [evsY, hx, hy]
  have hcond : 0 < (n : Int) ∧ (n : Int).toNat * ie.bytes ≤ maxBytes ∧ (n : Int) ≤ 140737488355328 ∧ ie.zero.length = ie.size ∧ ie.size ≠ 0 ∧ ie.zero.all AV.leaf = true := ⟨by omega, by simpa using hb, by omega, hz, hsz, hl⟩
  simp only [evOp, h1, h2, evsY_ok ht hev, callA, if_pos hne, appZeros, hT, hT', he]
  rw [if_pos hcond]
  rfl
 ·intro c hc
  rw [List.eq_of_mem_replicate hc]
  exact ⟨hz, hl⟩
 ·have : (List.replicate n ie.zero).flatten.length = n * ie.size := by
   rw [flat_len (sz := ie.size) fun c hc => by rw [List.eq_of_mem_replicate hc]; exact hz]
   simp
  rw [List.append_nil, ← this]
  exact rd_new hok
end
end Go.Ab
namespace Go.Ab
section
variable {P : Program} {T : Tab} {K : Kn} {nt : NT} {ops : Array Oper} {rest : List Oper} {m : Sy} {s s0 : St} {Q : Sy → St → Prop} {d ty : Nat} {pos : String} {af : Array Edge} {g : Option (Nat × Bool)} {op : Op} {v : AV} {X : List Nat}
theorem op_lit {tt e : TypeId} {n : Nat} {parts : Array (Nat × Operand)} {i ie : TI} {ps : List (Nat × AV)} {c : List AV} (hT : T tt = some i) (hs : i.sh = .slice e) (he : T e = some ie) (hp : evPartsY m parts.toList = some ps) (hz : ie.zero.length = ie.size) (h0 : ie.size ≠ 0) (h24 : n * ie.size ≤ 2 ^ 24)
  (hf : fillA (fun n => some (n * ie.size, ie.size)) (List.replicate n ie.zero).flatten ps = some c) (hl : c.all AV.leaf = true) : ∀ t, Has t nt m → evOp T (.buildSlice tt n parts) t s = some (.val (.slc s.ctr 0 0 ie.size n n true), s.newG ⟨[⟨c, 0, none⟩]⟩) := by
 intro t ht
 obtain ⟨sh, size, bytes, zero, flat⟩ := i
 cases hs
 have hcond : ¬ (n * ie.size > 2 ^ 24 ∨ ie.zero.length ≠ ie.size ∨ ie.size = 0) := by
  rintro (h | h | h)
  ·omega
  ·exact h hz
  ·exact h0 h
 simp only [evOp, hT, he, evPartsY_ok ht hp, if_neg hcond, hf, hl, if_true]
theorem lit_row {n sz : Nat} {cs : List (List AV)} {c : List AV} (hok : s.Ok) (hc : c = cs.flatten) (hcs : ∀ x ∈ cs, x.length = sz ∧ x.all AV.leaf = true) (hn : n = cs.length) (h0 : sz ≠ 0) : Row (s.newG ⟨[⟨c, 0, none⟩]⟩).h sz (.slc s.ctr 0 0 sz n n true) cs := by
 subst hc hn
 refine ⟨rfl, h0, rfl, nlr _, hcs, [], ?_⟩
 rw [List.append_nil, ← flat_len fun c hc => (hcs c hc).1]
 exact rd_new hok
theorem w_lit {tt e : TypeId} {n : Nat} {parts : Array (Nat × Operand)} {i ie : TI} {ps : List (Nat × AV)} {c : List AV} (cs : List (List AV)) (hg : guardY ops m g = some true) (hd : Nat.ble (d + 1) nt.n = true) (hT : T tt = some i) (hs : i.sh = .slice e) (he : T e = some ie) (hp : evPartsY m parts.toList = some ps) (hz : ie.zero.length = ie.size) (h0 : ie.size ≠ 0) (h24 : n * ie.size ≤ 2 ^ 24)
  (hf : fillA (fun n => some (n * ie.size, ie.size)) (List.replicate n ie.zero).flatten ps = some c) (hl : c.all AV.leaf = true) (hc : c = cs.flatten) (hcs : ∀ x ∈ cs, x.length = ie.size ∧ x.all AV.leaf = true) (hn : n = cs.length) (hok : s.Ok)
  (k : ∀ v s', Row s'.h ie.size v cs → Keep [] s s' → s'.ctr = s.ctr + 1 → v.gs = [s.ctr] → W P T K nt ops rest ((d, v) :: m) s' Q) : W P T K nt ops (⟨some d, .buildSlice tt n parts, ty, pos, af, g⟩ :: rest) m s Q :=
 w_val hg hd (op_lit hT hs he hp hz h0 h24 hf hl) (k _ _ (lit_row hok hc hcs hn h0) (newG_keep hok _).1 rfl rfl)
theorem wo_lit {tt e : TypeId} {n : Nat} {parts : Array (Nat × Operand)} {i ie : TI} {ps : List (Nat × AV)} {c : List AV} (cs : List (List AV)) (hK : Keep [] s0 s) (hg : guardY ops m g = some true) (hd : Nat.ble (d + 1) nt.n = true) (hT : T tt = some i) (hs : i.sh = .slice e) (he : T e = some ie) (hp : evPartsY m parts.toList = some ps) (hz : ie.zero.length = ie.size) (h0 : ie.size ≠ 0) (h24 : n * ie.size ≤ 2 ^ 24)
  (hf : fillA (fun n => some (n * ie.size, ie.size)) (List.replicate n ie.zero).flatten ps = some c) (hl : c.all AV.leaf = true) (hc : c = cs.flatten) (hcs : ∀ x ∈ cs, x.length = ie.size ∧ x.all AV.leaf = true) (hn : n = cs.length)
  (k : ∀ v s', Row s'.h ie.size v cs → Keep [] s s' → s'.ctr = s.ctr + 1 → v.gs = [s.ctr] → WD P T K nt ops rest ((d, v) :: m) s' (Old s0 X) Q) : WD P T K nt ops (⟨some d, .buildSlice tt n parts, ty, pos, af, g⟩ :: rest) m s (Old s0 X) Q := by
 have hokb : s.bare.Ok := hK.ok
 refine wd_cons (fun t _ g hg => by cases hg) (w1_val hg hd (op_lit (s := s.bare) hT hs he hp hz h0 h24 hf hl) ⟨fun g hg ho => ?_, k _ ((s.bare.newG ⟨[⟨c, 0, none⟩]⟩).join s) (lit_row hokb hc hcs hn h0) (newG_keep hokb _).1.joined rfl rfl⟩)
 have h1 : g = s.ctr := msi.1 hg
 have := ho.1
 have := hK.ctr
 omega
end
end Go.Ab
namespace Go.Ab
section
variable {P : Program} {T : Tab} {K : Kn} {nt : NT} {ops : Array Oper} {b : Bool} {rest : List Oper} {o : Oper} {s s' : St} {gs : List (List AV)} {l : List (Option (Nat × List AV))} {cs : List AV} {hs : List (Option (Nat × List AV))} {m : Sy} {g : Option (Nat × Bool)} {ty : Nat} {pos : String} {af : Array Edge}
end
end Go.Ab
namespace Go.Ab
theorem AV.cells_leaf {v : AV} (h : v.leaf = true) : v.cells = [v] := by cases v <;> first | rfl | cases h
def Dis (u v : AV) : Prop := ∀ g ∈ u.gs, g ∉ v.gs
end Go.Ab
namespace Go.Ab
structure Chunk where
 F : Nat → Prop
 P : Tr Grp → Prop
 kp : ∀ {Y : List Nat} {s s' : St}, P s.h → Keep Y s s' → (∀ g ∈ Y, ¬ F g) → P s'.h
def ptC (p : AV) (cs : List AV) : Chunk := ⟨fun g => g ∈ p.gs, fun h => Pt h p cs, fun k h hY => k.keep h fun g hg hy => hY g hy hg⟩
def rowC (v : AV) (sz : Nat) (css : List (List AV)) : Chunk := ⟨fun g => g ∈ v.gs, fun h => Row h sz v css ∧ (v.gs = [] → v = .nils), fun k h hY => ⟨k.1.keep h fun g hg hy => hY g hy hg, k.2⟩⟩
def emC : Chunk := ⟨fun _ => False, fun _ => True, fun _ _ _ => trivial⟩
def mapC (g : Nat) (es : List (AV × AV)) : Chunk := ⟨fun x => x = g, fun h => MapAt h g es, fun k h hY => k.keep h fun hy => hY g hy rfl⟩
def bldC {α : Type} (R : RP α) (hG : Good R) (F : Nat → Prop) (sz : Nat) (v : AV) (xs : List α) : Chunk :=
 ⟨F, fun h => ∃ css, Row h sz v css ∧ (v.gs = [] → v = .nils) ∧ (∀ g ∈ v.gs, F g) ∧ css.length = xs.length ∧ ∀ (i : Nat) (x : α) (c : List AV), xs[i]? = some x → css[i]? = some c → R h (fun g => F g ∧ g ∉ v.gs) x c,
  fun ⟨css, h1, h2, h3, h4, h5⟩ h hY => ⟨css, h1.keep h fun g hg hy => hY g hy (h3 g hg), h2, h3, h4, fun i x c k1 k2 => hG.keep (h5 i x c k1 k2) h fun g hy hF => hY g hy hF.1⟩⟩
structure SH (s0 : St) (L : List Chunk) (s : St) (X : List Nat := []) : Prop where
 K : Keep X s0 s
 own : ∀ (i : Nat) (c : Chunk), L[i]? = some c → c.P s.h ∧ ∀ g, c.F g → (s0.ctr ≤ g ∨ g ∈ X) ∧ g < s.ctr
 dis : ∀ (i j : Nat) (c d : Chunk), i ≠ j → L[i]? = some c → L[j]? = some d → ∀ g, c.F g → ¬ d.F g
section
variable {s0 s s' : St} {L : List Chunk} {c c' d : Chunk} {i j : Nat} {X Y : List Nat}
theorem SH.ok (h : SH s0 L s X) : s.Ok := h.K.ok
theorem SH.start (hok : s.Ok) : SH s [] s := ⟨Keep.refl hok, fun i c h => by simp at h, fun i j c d _ h => by simp at h⟩
theorem SH.get (h : SH s0 L s X) (i : Nat) (hi : L[i]? = some c) : c.P s.h := (h.own i c hi).1
theorem SH.bdX (h : SH s0 L s X) (i : Nat) (hi : L[i]? = some c) : ∀ g, c.F g → (s0.ctr ≤ g ∨ g ∈ X) ∧ g < s.ctr := (h.own i c hi).2
theorem SH.bd (h : SH s0 L s) (i : Nat) (hi : L[i]? = some c) : ∀ g, c.F g → s0.ctr ≤ g ∧ g < s.ctr := fun g hg => ⟨((h.own i c hi).2 g hg).1.elim id fun h => (by cases h), ((h.own i c hi).2 g hg).2⟩
theorem SH.row {v : AV} {sz : Nat} {css : List (List AV)} (h : SH s0 L s X) (i : Nat) (hi : L[i]? = some (rowC v sz css)) : Row s.h sz v css := (h.get i hi).1
theorem SH.nls {v : AV} {sz : Nat} {css : List (List AV)} (h : SH s0 L s X) (i : Nat) (hi : L[i]? = some (rowC v sz css)) : v.gs = [] → v = .nils := (h.get i hi).2
theorem SH.pt {p : AV} {cs : List AV} (h : SH s0 L s X) (i : Nat) (hi : L[i]? = some (ptC p cs)) : Pt s.h p cs := h.get i hi
theorem SH.mov (h : SH s0 L s X) (k : Keep [] s s') : SH s0 L s' X :=
 ⟨h.K.trans k (fun g hg => by cases hg), fun i c hi => ⟨c.kp (h.own i c hi).1 k (fun g hg => by cases hg), fun g hg => ⟨((h.own i c hi).2 g hg).1, Nat.lt_of_lt_of_le ((h.own i c hi).2 g hg).2 k.ctr⟩⟩, h.dis⟩
theorem SH.add (h : SH s0 L s X) (k : Keep [] s s') (c : Chunk) (hP : c.P s'.h) (hF : ∀ g, c.F g → s.ctr ≤ g ∧ g < s'.ctr) : SH s0 (L ++ [c]) s' X := by
 have hm := h.mov k
 have hc := h.K.ctr
 have key : ∀ (i : Nat) (x : Chunk), (L ++ [c])[i]? = some x → (i < L.length ∧ L[i]? = some x) ∨ (i = L.length ∧ x = c) := by
  intro i x hi
  by_cases hl : i < L.length
  ·rw [gal hl] at hi; exact .inl ⟨hl, hi⟩
  ·have h1 := (ges.1 hi).1
   rw [laa, List.length_singleton] at h1
   have e : i = L.length := by omega
   subst e
   rw [gar (nlr _), Nat.sub_self] at hi
   simp at hi
   exact .inr ⟨rfl, hi.symm⟩
 refine ⟨hm.K, fun i x hi => ?_, fun i j x y hij hi hj g hx hy => ?_⟩
 ·rcases key i x hi with ⟨-, h1⟩ | ⟨-, rfl⟩
  ·exact hm.own i x h1
  ·exact ⟨hP, fun g hg => ⟨.inl (Nat.le_trans hc (hF g hg).1), (hF g hg).2⟩⟩
 ·rcases key i x hi with ⟨h0, h1⟩ | ⟨h1, rfl⟩ <;> rcases key j y hj with ⟨k0, k1⟩ | ⟨k1, rfl⟩
  ·exact h.dis i j x y hij h1 k1 g hx hy
  ·have := ((h.own i x h1).2 g hx).2; have := hF g hy; omega
  ·have := ((h.own j y k1).2 g hy).2; have := hF g hx; omega
  ·omega
theorem getElem?_set_cases {α : Type} {L : List α} {i j : Nat} {c x : α} (h : (L.set i c)[j]? = some x) : (j = i ∧ x = c ∧ i < L.length) ∨ (j ≠ i ∧ L[j]? = some x) := by
 rw [List.getElem?_set] at h
 split at h
 ·rename_i e
  split at h
  ·cases h; exact .inl ⟨e.symm, rfl, by omega⟩
  ·cases h
 ·exact .inr ⟨by omega, h⟩
theorem SH.upd (h : SH s0 L s X) (i : Nat) (hi : L[i]? = some c) (k : Keep Y s s') (hY : ∀ g ∈ Y, c.F g) (c' : Chunk) (hP : c'.P s'.h) (hF : ∀ g, c'.F g → c.F g ∨ (s.ctr ≤ g ∧ g < s'.ctr)) : SH s0 (L.set i c') s' X := by
 have hc := h.K.ctr
 have hk := k.ctr
 refine ⟨h.K.trans k fun g hg => ((h.own i c hi).2 g (hY g hg)).1.symm, fun j x hj => ?_, fun a b x y hab ha hb g hx hy => ?_⟩
 ·rcases getElem?_set_cases hj with ⟨-, rfl, -⟩ | ⟨hne, hj⟩
  ·refine ⟨hP, fun g hg => ?_⟩
   rcases hF g hg with h1 | h1
   ·have := (h.own i c hi).2 g h1; exact ⟨this.1, by have := this.2; omega⟩
   ·exact ⟨.inl (by omega), by omega⟩
  ·obtain ⟨k1, k2⟩ := h.own j x hj
   refine ⟨x.kp k1 k fun g hg hx => h.dis j i x c hne hj hi g hx (hY g hg), fun g hg => ?_⟩
   have := k2 g hg; exact ⟨this.1, by have := this.2; omega⟩
 ·rcases getElem?_set_cases ha with ⟨e1, e1', -⟩ | ⟨hne, ha'⟩ <;> rcases getElem?_set_cases hb with ⟨e2, e2', -⟩ | ⟨hne2, hb'⟩
  ·omega
  ·rw [e1'] at hx
   rcases hF g hx with h1 | h1
   ·exact h.dis i b c y (by omega) hi hb' g h1 hy
   ·have := ((h.own b y hb').2 g hy).2; omega
  ·rw [e2'] at hy
   rcases hF g hy with h1 | h1
   ·exact h.dis a i x c (by omega) ha' hi g hx h1
   ·have := ((h.own a x ha').2 g hx).2; omega
  ·exact h.dis a b x y hab ha' hb' g hx hy
theorem SH.mrg (h : SH s0 L s X) (i j : Nat) (_hij : i ≠ j) (hi : L[i]? = some c) (hj : L[j]? = some d) (c' : Chunk) (hP : c'.P s.h) (hF : ∀ g, c'.F g → c.F g ∨ d.F g) : SH s0 ((L.set j emC).set i c') s X := by
 refine ⟨h.K, fun a x ha => ?_, fun a b x y hab ha hb g hx hy => ?_⟩
 ·rcases getElem?_set_cases ha with ⟨-, rfl, -⟩ | ⟨-, ha⟩
  ·exact ⟨hP, fun g hg => (hF g hg).elim ((h.own i c hi).2 g) ((h.own j d hj).2 g)⟩
  ·rcases getElem?_set_cases ha with ⟨-, rfl, -⟩ | ⟨-, ha⟩
   ·exact ⟨trivial, fun g hg => hg.elim⟩
   ·exact h.own a x ha
 ·rcases getElem?_set_cases ha with ⟨e1, e1', -⟩ | ⟨n1, ha'⟩ <;> rcases getElem?_set_cases hb with ⟨e2, e2', -⟩ | ⟨n2, hb'⟩
  ·omega
  ·rw [e1'] at hx
   rcases getElem?_set_cases hb' with ⟨-, e3, -⟩ | ⟨n3, hb''⟩
   ·rw [e3] at hy; exact hy
   ·rcases hF g hx with h1 | h1
    ·exact h.dis i b c y (by omega) hi hb'' g h1 hy
    ·exact h.dis j b d y (by omega) hj hb'' g h1 hy
  ·rw [e2'] at hy
   rcases getElem?_set_cases ha' with ⟨-, e3, -⟩ | ⟨n3, ha''⟩
   ·rw [e3] at hx; exact hx
   ·rcases hF g hy with h1 | h1
    ·exact h.dis a i x c (by omega) ha'' hi g hx h1
    ·exact h.dis a j x d (by omega) ha'' hj g hx h1
  ·rcases getElem?_set_cases ha' with ⟨-, e3, -⟩ | ⟨n3, ha''⟩
   ·rw [e3] at hx; exact hx
   ·rcases getElem?_set_cases hb' with ⟨-, e4, -⟩ | ⟨n4, hb''⟩
    ·rw [e4] at hy; exact hy
    ·exact h.dis a b x y hab ha'' hb'' g hx hy
def pickL (L : List Chunk) : List Nat → Option (List Chunk)
 | [] => some []
 | j :: r => match L[j]?, pickL L r with
  | some c, some l => some (c :: l)
  | _, _ => none
theorem pickL_get : ∀ {js : List Nat} {L L' : List Chunk}, pickL L js = some L' → ∀ (i : Nat) (c : Chunk), L'[i]? = some c → ∃ j, js[i]? = some j ∧ L[j]? = some c
 | [], L, L', h, i, c, hi => by cases h; simp at hi
 | j :: r, L, L', h, i, c, hi => by
  unfold pickL at h
  split at h
  ·rename_i x l hx hl
   cases h
   cases i with
   | zero => simp at hi; subst hi; exact ⟨j, rfl, hx⟩
   | succ i =>
    obtain ⟨k, h1, h2⟩ := pickL_get hl i c (by simpa using hi)
    exact ⟨k, by simpa using h1, h2⟩
  ·cases h
theorem SH.sel {L' : List Chunk} (h : SH s0 L s X) (js : List Nat) (hL : pickL L js = some L') (hn : js.Nodup) : SH s0 L' s X := by
 refine ⟨h.K, fun i c hi => ?_, fun a b x y hab ha hb => ?_⟩
 ·obtain ⟨k, -, h2⟩ := pickL_get hL i c hi
  exact h.own k c h2
 ·obtain ⟨p, p1, p2⟩ := pickL_get hL a x ha
  obtain ⟨q, q1, q2⟩ := pickL_get hL b y hb
  refine h.dis p q x y (fun e => hab ?_) p2 q2
  subst e
  exact (List.getElem?_inj (ges.1 p1).1 hn).1 (p1.trans q1.symm)
theorem SH.nil (h : SH s0 L s X) (sz : Nat) : SH s0 (L ++ [rowC .nils sz []]) s X := h.add (Keep.refl h.ok) _ ⟨rfl, fun _ => rfl⟩ fun g hg => by cases hg
end
theorem row_newb {s s' : St} {sz : Nat} {v : AV} {css : List (List AV)} (_k : Keep [] s s') (_h : Row s'.h sz v css) (hv : v.gs = [s.ctr]) (hc : s'.ctr = s.ctr + 1) : ∀ g ∈ v.gs, s.ctr ≤ g ∧ g < s'.ctr := fun g hg => by
 rw [hv] at hg; rw [msi.1 hg]; omega
section
variable {P : Program} {T : Tab} {K : Kn} {nt : NT} {ops : Array Oper} {rest : List Oper} {m : Sy} {s s0 : St} {Q : Sy → St → Prop} {d ty : Nat} {pos : String} {af : Array Edge} {g : Option (Nat × Bool)} {L : List Chunk} {X : List Nat}
theorem ws_alloc {e : TypeId} {i : TI} (hS : SH s0 L s X) (hg : guardY ops m g = some true) (hd : Nat.ble (d + 1) nt.n = true) (hT : T e = some i) (hz : i.zero.all AV.leaf = true)
  (k : ∀ c s', SH s0 (L ++ [ptC (.ptr c 0 0) i.zero]) s' X → Keep [] s s' → W P T K nt ops rest ((d, .ptr c 0 0) :: m) s' Q) : W P T K nt ops (⟨some d, .alloc e, ty, pos, af, g⟩ :: rest) m s Q := by
 refine w_alloc hg hd hT hz hS.ok fun s' hp hk hc => k _ s' (hS.add hk _ hp fun g hg => ?_) hk
 rw [msi.1 hg]; omega
theorem ws_box {e : TypeId} {x : Operand} {v : AV} (hS : SH s0 L s X) (hg : guardY ops m g = some true) (hd : Nat.ble (d + 1) nt.n = true) (hx : evY m x = some v) (hz : v.cells.all AV.leaf = true)
  (k : ∀ c s', SH s0 (L ++ [ptC (.ptr c 0 0) v.cells]) s' X → Keep [] s s' → W P T K nt ops rest ((d, .ptr c 0 0) :: m) s' Q) : W P T K nt ops (⟨some d, .box e x, ty, pos, af, g⟩ :: rest) m s Q := by
 refine w_box hg hd hx hz hS.ok fun s' hp hk hc => k _ s' (hS.add hk _ hp fun g hg => ?_) hk
 rw [msi.1 hg]; omega
theorem ws_store {tt : TypeId} {a x : Operand} {i : TI} {u : AV} {c o : Nat} {cs : List AV} (n : Nat) (hS : SH s0 L s X) (hn : L[n]? = some (ptC (.ptr c 0 0) cs)) (hg : guardY ops m g = some true) (ha : evY m a = some (.ptr c 0 o)) (hx : evY m x = some u) (hT : T tt = some i) (hl : u.cells.length = i.size)
  (hz : u.cells.all AV.leaf = true) (hlo : o + u.cells.length ≤ cs.length)
  (k : ∀ s', SH s0 (L.set n (ptC (.ptr c 0 0) (over cs o u.cells))) s' X → W P T K nt ops rest m s' Q) : W P T K nt ops (⟨none, .store tt a x, ty, pos, af, g⟩ :: rest) m s Q := by
 refine w_store_fld (o := o) hg (p := .ptr c 0 0) (by rw [ha]; simp only [fldA, Nat.zero_add]) hx hT hl hz hS.ok (hS.pt n hn) (by simp [AV.gs]) hlo fun s' hp hk hc => k s' (hS.upd n hn hk (fun g hg => hg) _ hp fun g hg => .inl hg)
theorem ws_storeL {tt : TypeId} {a x : Operand} {i : TI} {u : AV} {c o : Nat} {cs : List AV} (n : Nat) (hS : SH s0 L s X) (hn : L[n]? = some (ptC (.ptr c 0 0) cs)) (hg : guardY ops m g = some true) (ha : evY m a = some (.ptr c 0 o)) (hx : evY m x = some u) (hT : T tt = some i) (h1 : i.size = 1)
  (hu : u.leaf = true) (hlo : o < cs.length)
  (k : ∀ s', SH s0 (L.set n (ptC (.ptr c 0 0) (cs.set o u))) s' X → W P T K nt ops rest m s' Q) : W P T K nt ops (⟨none, .store tt a x, ty, pos, af, g⟩ :: rest) m s Q := by
 have hc : u.cells = [u] := AV.cells_leaf hu
 refine ws_store n hS hn hg ha hx hT (by rw [hc, h1]; rfl) (by rw [hc]; simp [hu]) (by rw [hc]; exact hlo) fun s' h => k s' ?_
 have : over cs o u.cells = cs.set o u := by
  rw [hc]; unfold over
  rw [List.set_eq_take_append_cons_drop, if_pos hlo]
  simp
 rwa [this] at h
theorem op_fldP {st : TypeId} {x : Operand} {f : Nat} {i : TI} {fs : List (Nat × Nat × Bool)} {off sz : Nat} {ag : Bool} {c j o : Nat} (hx : evY m x = some (.ptr c j o)) (hT : T st = some i) (hs : i.sh = .struct fs) (hf : fs[f]? = some (off, sz, ag)) (hz : sz ≠ 0) :
  ∀ t, Has t nt m → evOp T (.fieldAddr st x f) t s = some (.val (.ptr c j (o + off)), s) := by
 intro t ht
 obtain ⟨sh, size, bytes, zero, flat⟩ := i
 cases hs
 simp only [evOp, hT, hf, evY_ok ht hx, hz, if_false]
theorem Pt.at {h : Tr Grp} {c o : Nat} {cs : List AV} (k : Pt h (.ptr c 0 0) cs) (ho : o ≤ cs.length) : Pt h (.ptr c 0 o) (cs.drop o) := by
 have := k.fld o ho
 rwa [fldA, Nat.zero_add] at this
theorem op_loadC {tt : TypeId} {a : Operand} {i : TI} {c o : Nat} {v : AV} {cs : List AV} (n : Nat) (hS : SH s0 L s X) (hn : L[n]? = some (ptC (.ptr c 0 0) cs)) (hx : evY m a = some (.ptr c 0 o)) (hT : T tt = some i) (ho : o ≤ cs.length) (hc : loadC i (cs.drop o) = some v) :
  ∀ t, Has t nt m → evOp T (.load tt a) t s = some (.val v, s) := op_load hx hT ((hS.pt n hn).at ho) hc
theorem ws_append {tt e : TypeId} {x y : Operand} {args : Array Operand} {tys : Array TypeId} {i ie : TI} {a b : AV} {sz : Nat} {cs ns : List (List AV)} (n : Nat) (hS : SH s0 L s X) (hn : L[n]? = some (rowC a sz cs)) (hg : guardY ops m g = some true) (hd : Nat.ble (d + 1) nt.n = true) (h1 : args.toList = [x, y]) (h2 : tys.toList = [tt, tt])
  (hx : evY m x = some a) (hy : evY m y = some b) (hT : T tt = some i) (hs : i.sh = .slice e) (he : T e = some ie) (hsz : ie.size = sz) (h0 : sz ≠ 0) (hb : Row s.h sz b ns)
  (hb1 : (cs.length + ns.length) * ie.bytes ≤ maxBytes) (hb2 : cs.length + ns.length ≤ maxBytes)
  (k : ∀ v s', SH s0 (L.set n (rowC v sz (cs ++ ns))) s' X → W P T K nt ops rest ((d, v) :: m) s' Q) :
  W P T K nt ops (⟨some d, .call ⟨.builtin .append, args, tys⟩, ty, pos, af, g⟩ :: rest) m s Q := by
 subst hsz
 refine w_append hg hd h1 h2 hx hy hT hs he h0 hS.ok (hS.row n hn) (hS.nls n hn) hb hb1 hb2 fun v s' hv hk hle hvg hvn _ => k v s' (hS.upd n hn hk (fun g hg => hg) _ ⟨hv, hvn⟩ fun g hg => ?_)
 rcases hvg with h | h
 ·exact .inl (by have hg : _ ∈ v.gs := hg; rwa [h] at hg)
 ·have hg : _ ∈ v.gs := hg
  exact .inr ⟨by rw [h] at hg; rw [msi.1 hg]; exact nlr _, hv.lt hk.ok _ hg⟩
theorem ws_lit1 {tt e : TypeId} {parts : Array (Nat × Operand)} {i ie : TI} {ps : List (Nat × AV)} {c : List AV} {sz : Nat} (hS : SH s0 L s X) (hg : guardY ops m g = some true) (hd : Nat.ble (d + 1) nt.n = true) (hT : T tt = some i) (hs : i.sh = .slice e) (he : T e = some ie) (hp : evPartsY m parts.toList = some ps)
  (hsz : ie.size = sz) (hz : ie.zero.length = ie.size) (h0 : ie.size ≠ 0) (h24 : ie.size ≤ 2 ^ 24) (hf : fillA (fun n => some (n * ie.size, ie.size)) ie.zero ps = some c) (hl : c.all AV.leaf = true) (hcl : c.length = ie.size)
  (k : ∀ v s', SH s0 L s' X → Keep [] s s' → Row s'.h sz v [c] → W P T K nt ops rest ((d, v) :: m) s' Q) : W P T K nt ops (⟨some d, .buildSlice tt 1 parts, ty, pos, af, g⟩ :: rest) m s Q := by
 subst hsz
 exact w_lit1 hg hd hT hs he hp hz h0 h24 hf hl hcl hS.ok fun v s' hv hk hc hvg => k v s' (hS.mov hk) hk hv
end
end Go.Ab
namespace Go.Ab
structure AppK (a v : AV) (s s' : St) (k : Nat) : Prop where
 fin : v.gs = a.gs → a.gs ≠ [] → finA s'.h v = finA s.h a + k
 rows : ∀ {sz' : Nat} {r : AV} {rs : List (List AV)}, Row s.h sz' r rs → (∀ g ∈ r.gs, g ∈ a.gs → finA s.h r ≤ finA s.h a) → Row s'.h sz' r rs ∧ finA s'.h r = finA s.h r
section
variable {P : Program} {T : Tab} {K : Kn} {nt : NT} {ops : Array Oper} {rest : List Oper} {m : Sy} {s s0 : St} {Q : Sy → St → Prop} {d ty : Nat} {pos : String} {af : Array Edge} {g : Option (Nat × Bool)} {L : List Chunk}
end
def RowsI {α : Type} (h : Tr Grp) (sz : Nat) (f : α → List AV) (data : List (AV × List α)) (G : Nat → List α → Prop) : Prop :=
 ∀ (q : Nat) (p : AV × List α), data[q]? = some p → ∃ xs : List α, xs.length = p.2.length ∧ Row h sz p.1 (xs.map f) ∧ G q xs
section
variable {α : Type} {sz : Nat} {f : α → List AV} {data : List (AV × List α)} {G G' : Nat → List α → Prop} {s s' : St}
def fullM (mk : Nat → Nat → α) (i n : Nat) : List α := (List.range n).map (mk i)
def FullG (mk : Nat → Nat → α) (q : Nat) (xs : List α) : Prop := xs = fullM mk q xs.length
end
end Go.Ab
namespace Go.Ab
section
variable {α : Type} {s : St} {sz : Nat} {f : α → List AV} {data : List (AV × List α)} {mk tl : Nat → Nat → α} {i cut : Nat} {ms : List AV} {F : AV} {z z' : St} {p : AV × List α}
structure Ap2 (s : St) (sz : Nat) (f : α → List AV) (data : List (AV × List α)) (mk tl : Nat → Nat → α) (i cut : Nat) (ms : List AV) (F : AV) (z : St) : Prop where
 K : Keep (data.flatMap (·.1.gs)) s z
 old : RowsI z.h sz f data (FullG mk)
 len : ms.length = i
 new : ∀ (j : Nat) (w : AV) (p : AV × List α), ms[j]? = some w → data[j]? = some p → Row z.h sz w ((fullM mk j p.2.length ++ fullM tl j 30).map f) ∧ ∀ g ∈ w.gs, g ∈ p.1.gs ∨ (s.ctr ≤ g ∧ g < cut)
 rF : Row z.h 1 F (ms.map fun w => [w])
 Fb : ∀ g ∈ F.gs, s.ctr ≤ g ∧ g < cut
 Fn : F.gs = [] → F = .nils
 dis : ∀ (j : Nat) (w : AV), ms[j]? = some w → Dis w F
 cutb : s.ctr ≤ cut ∧ cut ≤ z.ctr
end
section
variable {T : Tab} {nt : NT} {m : Sy} {s : St}
end
end Go.Ab
namespace Go.Ab
def anyC (F : Nat → Prop) : Chunk := ⟨F, fun _ => True, fun _ _ _ => trivial⟩
end Go.Ab
namespace Go.Ab
section
variable {P : Program} {T : Tab} {K : Kn} {nt : NT} {ops : Array Oper} {rest : List Oper} {m : Sy} {s s0 : St} {Q : Sy → St → Prop} {d ty : Nat} {pos : String} {af : Array Edge} {g : Option (Nat × Bool)} {L : List Chunk} {X : List Nat} {α : Type}
theorem SH.nilB (h : SH s0 L s X) (R : RP α) (hG : Good R) (sz : Nat) : SH s0 (L ++ [bldC R hG (fun _ => False) sz .nils []]) s X :=
 h.add (Keep.refl h.ok) _ ⟨[], rfl, fun _ => rfl, fun g hg => (by cases hg), rfl, fun i x c h1 => (by simp at h1)⟩ fun g hg => hg.elim
theorem SH.bld {R : RP α} {hG : Good R} {F : Nat → Prop} {sz : Nat} {v : AV} {xs : List α} (h : SH s0 L s X) (n : Nat) (hn : L[n]? = some (bldC R hG F sz v xs)) : ∃ css, Row s.h sz v css ∧ (v.gs = [] → v = .nils) ∧ (∀ g ∈ v.gs, F g) ∧ css.length = xs.length ∧ ∀ (i : Nat) (x : α) (c : List AV), xs[i]? = some x → css[i]? = some c → R s.h (fun g => F g ∧ g ∉ v.gs) x c := h.get n hn
theorem ws_app_bld {R : RP α} {hG : Good R} {F : Nat → Prop} {sz : Nat} {f b : AV} {xs : List α} {z : α} {c : List AV} {dc : Chunk} {tt e : TypeId} {x y : Operand} {args : Array Operand} {tys : Array TypeId} {i ie : TI} (n j : Nat) (hnj : n ≠ j) (hS : SH s0 L s X) (hn : L[n]? = some (bldC R hG F sz f xs)) (hj : L[j]? = some dc)
  (hg : guardY ops m g = some true) (hd : Nat.ble (d + 1) nt.n = true) (h1 : args.toList = [x, y]) (h2 : tys.toList = [tt, tt]) (hx : evY m x = some f) (hy : evY m y = some b) (hT : T tt = some i) (hs : i.sh = .slice e) (he : T e = some ie) (hsz : ie.size = sz) (h0 : sz ≠ 0) (hb : Row s.h sz b [c]) (hc : R s.h dc.F z c)
  (hb1 : (xs.length + 1) * ie.bytes ≤ maxBytes) (hb2 : xs.length + 1 ≤ maxBytes)
  (k : ∀ v s' F', SH s0 ((L.set j emC).set n (bldC R hG F' sz v (xs ++ [z]))) s' X → W P T K nt ops rest ((d, v) :: m) s' Q) :
  W P T K nt ops (⟨some d, .call ⟨.builtin .append, args, tys⟩, ty, pos, af, g⟩ :: rest) m s Q := by
 subst hsz
 obtain ⟨css, hr, hnl, hgF, hl, hX⟩ := hS.bld n hn
 refine w_append hg hd h1 h2 hx hy hT hs he h0 hS.ok hr hnl hb (by rw [hl]; exact hb1) (by rw [hl]; exact hb2) ?_
 intro v s' hv hk hle hvg hvn hne
 have hdis := hS.dis n j _ _ hnj hn hj
 have hbn := hS.bdX n hn
 have hbj := hS.bdX j hj
 have hvl := hv.lt hk.ok
 let F' : Nat → Prop := fun g => F g ∨ dc.F g ∨ (s.ctr ≤ g ∧ g < s'.ctr)
 have hvF : ∀ g ∈ v.gs, F' g := fun g hg => by
  rcases hvg with h | h
  ·exact .inl (hgF g (by rwa [h] at hg))
  ·refine .inr (.inr ⟨?_, hvl g hg⟩)
   rw [h] at hg; rw [msi.1 hg]; exact nlr _
 have hnv : ∀ g, g < s.ctr → g ∉ f.gs → g ∉ v.gs := fun g hg hf hv' => by
  rcases hvg with h | h
  ·exact hf (by rwa [h] at hv')
  ·rw [h] at hv'; rw [msi.1 hv'] at hg; omega
 have hP : (bldC R hG F' ie.size v (xs ++ [z])).P s'.h := by
  refine ⟨css ++ [c], hv, hvn, hvF, by simp [hl], fun i x c' h1' h2' => ?_⟩
  by_cases hi : i < xs.length
  ·rw [gal hi] at h1'
   rw [gal (by omega)] at h2'
   exact hG.mono (hG.keep (hX i x c' h1' h2') hk fun g hg hF => hF.2 hg) fun g hF => ⟨.inl hF.1, hnv g (hbn g hF.1).2 hF.2⟩
  ·have hlt := (ges.1 h1').1
   rw [laa, List.length_singleton] at hlt
   have e : i = xs.length := by omega
   subst e
   rw [gar (nlr _)] at h1'
   rw [gar (by omega)] at h2'
   simp at h1'
   rw [hl] at h2'
   simp at h2'
   subst h1' h2'
   exact hG.mono (hG.keep hc hk fun g hg hF => hdis g (hgF g hg) hF) fun g hF => ⟨.inr (.inl hF), hnv g (hbj g hF).2 fun hf => hdis g (hgF g hf) hF⟩
 have hm := hS.mrg n j hnj hn hj (anyC fun g => F g ∨ dc.F g) trivial fun g hg => hg
 have hg' : ((L.set j emC).set n (anyC fun g => F g ∨ dc.F g))[n]? = some (anyC fun g => F g ∨ dc.F g) := by
  rw [List.getElem?_set_self]
  rw [List.length_set]
  exact (ges.1 hn).1
 have := hm.upd n hg' hk (fun g hg => .inl (hgF g hg)) (bldC R hG F' ie.size v (xs ++ [z])) hP fun g hg => by
  rcases hg with h | h | h
  ·exact .inl (.inl h)
  ·exact .inl (.inr h)
  ·exact .inr h
 rw [List.set_set] at this
 exact k v s' F' this
end
end Go.Ab
namespace Go.Ab
section
variable {P : Program} {T : Tab} {K : Kn} {nt : NT} {m : Sy} {s : St} {R : Ex → Sy → St → Prop} {b c X : Code}
end
end Go.Ab
namespace Go.Ab
section
variable {T : Tab} {nt : NT} {m : Sy} {s : St}
end
end Go.Ab
namespace Go.Ab
section
variable {P : Program} {T : Tab} {K : Kn} {nt : NT} {ops : Array Oper} {rest : List Oper} {m : Sy} {s s0 : St} {Q : Sy → St → Prop} {d ty : Nat} {pos : String} {af : Array Edge} {g : Option (Nat × Bool)} {L : List Chunk} {X : List Nat}
end
end Go.Ab
namespace Go.Ab
end Go.Ab
namespace Go.Ab
section
variable {s0 s s' : St} {L : List Chunk} {X : List Nat} {c c' d : Chunk} {i j : Nat} {Y : List Nat}
variable {P : Program} {T : Tab} {K : Kn} {nt : NT} {ops : Array Oper} {rest : List Oper} {m : Sy} {s s0 : St} {Q : Sy → St → Prop} {d ty : Nat} {pos : String} {af : Array Edge} {g : Option (Nat × Bool)} {L : List Chunk} {X : List Nat}
variable {P : Program} {T : Tab} {K : Kn} {nt : NT} {ops : Array Oper} {rest : List Oper} {m : Sy} {s s0 : St} {Q : Sy → St → Prop} {d ty : Nat} {pos : String} {af : Array Edge} {g : Option (Nat × Bool)} {L : List Chunk} {X : List Nat} {α : Type}
end
end Go.Ab
namespace Go.Ab
abbrev RowP (sz : Nat) (v : AV) (css : List (List AV)) : Prop := Row .leaf sz v css
theorem RowP.up {sz : Nat} {v : AV} {css : List (List AV)} (k : RowP sz v css) (h : Tr Grp) : Row h sz v css := by
 cases v with
 | nils => exact k
 | ro nl xs => exact k
 | slc g j off sz' len lo ex =>
  obtain ⟨-, -, -, -, -, rest, h6⟩ := k
  unfold rdH at h6
  rw [Tr.get_leaf] at h6
  cases h6
 | _ => exact k.elim
theorem RowP.gs {sz : Nat} {v : AV} {css : List (List AV)} (k : RowP sz v css) : v.gs = [] := by
 cases v with
 | nils => rfl
 | ro nl xs => rfl
 | slc g j off sz' len lo ex =>
  obtain ⟨-, -, -, -, -, rest, h6⟩ := k
  unfold rdH at h6
  rw [Tr.get_leaf] at h6
  cases h6
 | _ => exact k.elim
theorem RowP.leaf {sz : Nat} {v : AV} {css : List (List AV)} (k : RowP sz v css) : v.leaf = true := Row.leaf k
theorem RowP.slen {sz : Nat} {v : AV} {css : List (List AV)} (k : RowP sz v css) : v.slen = some css.length := Row.slen k
theorem RowP.cells {sz : Nat} {v : AV} {css : List (List AV)} (k : RowP sz v css) : ∀ c ∈ css, c.length = sz ∧ c.all AV.leaf = true := Row.cells k
theorem RowP.nils (sz : Nat) : RowP sz .nils [] := rfl
def packC : List AV → AV
 | [x] => x
 | cs => .agg cs
theorem packC_cells {c : List AV} (h : c.all AV.leaf = true) : (packC c).cells = c := by
 match c, h with
 | [], _ => rfl
 | [x], h =>
  simp only [List.all_cons, List.all_nil, Bool.and_true] at h
  exact AV.cells_leaf h
 | _ :: _ :: _, _ => rfl
def Frz (c : Nat) (z : St) (vs rs : List AV) : Prop := FzL z.h (fun g => c ≤ g ∧ g < z.ctr) vs rs
theorem row_told {h : Tr Grp} {E : Nat → Prop} {sz : Nat} {v : AV} {css : List (List AV)} (hr : Row h sz v css) (hg : ∀ g ∈ v.gs, E g) : ∃ r, FzL h E [v] [r] ∧ RowP sz r css := by
 cases v with
 | nils => exact ⟨.nils, .refl _, hr⟩
 | ro nl xs => exact ⟨.ro nl xs, .refl _, hr⟩
 | slc g j off sz' len lo ex =>
  have h6 := hr.rd
  obtain ⟨rfl, h2, h3, h4, h5, -⟩ := hr
  have hm : (css.map packC).map AV.cells = css := by
   rw [List.map_map]
   conv => rhs; rw [← List.map_id css]
   exact List.map_congr_left fun c hc => packC_cells (h5 c hc).2
  refine ⟨.ro false (css.map packC), .slc (hg g (mcs ..)) h2 (fun x hx => ?_) (cs := css.flatten) (by rw [lmm, ← h3]; exact h6) (by rw [lmm, h3]) h4 (by rw [List.flatMap_def, hm]; exact .refl _) .nil, hm, h5⟩
  obtain ⟨c, hc, rfl⟩ := List.mem_map.1 hx
  rw [packC_cells (h5 c hc).2]
  exact h5 c hc
 | _ => exact hr.elim
theorem Frz.row {c : Nat} {z : St} {sz : Nat} {v : AV} {css : List (List AV)} (hok : z.Ok) (hr : Row z.h sz v css) (hg : ∀ g ∈ v.gs, c ≤ g) : ∃ r, Frz c z [v] [r] ∧ RowP sz r css :=
 row_told hr fun g h => ⟨hg g h, hr.lt hok g h⟩
section
variable {P : Program} {T : Tab} {K : Kn}
theorem CallS.frz {f : FuncId} {args : List AV} {z : St} {Q : AV → Prop} (hok : z.Ok) (h : CallS P T K f args z fun v z' => Keep [] z z' ∧ ∃ r, Frz z.ctr z' [v] [r] ∧ Q r) :
  CallS P T K f args z fun v z' => Keep [] z z' ∧ Q v := by
 obtain ⟨N, v, z', ⟨hk, r, hf, hq⟩, hn⟩ := h
 have hk' : Keep [] z ⟨z'.ctr, z.h, z'.wr⟩ := ⟨hok, fun g hg => hok g (Nat.le_trans hk.ctr hg), hk.ctr, fun _ _ _ h => h, hk.wr⟩
 refine ⟨N, r, ⟨z'.ctr, z.h, z'.wr⟩, ⟨hk', hq⟩, fun n hn' D s args' hst ha => ?_⟩
 obtain ⟨D', v', s', e1, p1, hs', hv⟩ := hn n hn' D s args' hst ha
 have hsub : ∀ g, D' g → D' g ∨ (z.ctr ≤ g ∧ g < z'.ctr) := fun _ h => .inl h
 refine ⟨fun g => D' g ∨ (z.ctr ≤ g ∧ g < z'.ctr), v', s', e1, ⟨fun g hg => .inl (p1.sub g hg), p1.un, p1.wr⟩, ⟨hs'.ctr, hs'.wr, fun g G hG => ?_, fun g hg => hg.elim (hs'.bd g) fun h => by rw [hs'.ctr]; exact h.2⟩, hf.comp hs' hsub (fun _ h => .inr h) hv⟩
 have hG : Tr.get z.h g = some G := hG
 obtain ⟨h1, G', h2, h3⟩ := hs'.get g G (hk.keep g (by simp) G hG)
 refine ⟨fun h => h.elim h1 fun h => ?_, G', h2, h3.mono (fun _ _ => rfl) hsub⟩
 rw [hok g h.1] at hG
 cases hG
theorem CallS.row {f : FuncId} {args : List AV} {z : St} {sz : Nat} {css : List (List AV)} (hok : z.Ok) (h : CallS P T K f args z fun v z' => Keep [] z z' ∧ Row z'.h sz v css ∧ ∀ g ∈ v.gs, z.ctr ≤ g) :
  CallS P T K f args z fun v z' => Keep [] z z' ∧ RowP sz v css :=
 CallS.frz hok (h.mono fun v z' ⟨hk, hr, hg⟩ => ⟨hk, Frz.row hk.ok hr hg⟩)
end
def Tr.del {α : Type} : Tr α → Nat → Tr α
 | .leaf, _ => .leaf
 | .node v l r, k => if k = 0 then .node none l r else if k % 2 = 1 then .node v (Tr.del l (k / 2)) r else .node v l (Tr.del r (k / 2 - 1))
theorem Tr.get_del {α : Type} : ∀ (t : Tr α) (k k' : Nat), (t.del k).get k' = if k' = k then none else t.get k' := by
 intro t
 induction t with
 | leaf => intro k k'; rw [Tr.del, Tr.get_leaf]; simp
 | node v l r ihl ihr =>
  intro k k'
  rw [Tr.del]
  by_cases h0 : k = 0
  ·subst h0
   simp only [if_true, Tr.get_node]
   by_cases hk : k' = 0
   ·subst hk; simp
   ·have : Nat.beq k' 0 = false := nb_f (by omega)
    simp [this, hk]
  ·rw [if_neg h0]
   by_cases h1 : k % 2 = 1
   ·rw [if_pos h1]
    simp only [Tr.get_node]
    by_cases hk : k' = 0
    ·subst hk; simp; omega
    ·have e2 : Nat.beq k' 0 = false := nb_f (by omega)
     rw [e2, cond_false, cond_false]
     by_cases h2 : k' % 2 = 1
     ·have e3 : Nat.beq (k' % 2) 1 = true := nb_t (by omega)
      rw [e3, cond_true, cond_true, ihl]
      by_cases hkk : k' = k
      ·subst hkk; simp
      ·rw [if_neg hkk, if_neg (by omega)]
     ·have e3 : Nat.beq (k' % 2) 1 = false := nb_f (by omega)
      rw [e3, cond_false, cond_false, if_neg (by omega)]
   ·rw [if_neg h1]
    simp only [Tr.get_node]
    by_cases hk : k' = 0
    ·subst hk; simp; omega
    ·have e2 : Nat.beq k' 0 = false := nb_f (by omega)
     rw [e2, cond_false, cond_false]
     by_cases h2 : k' % 2 = 1
     ·have e3 : Nat.beq (k' % 2) 1 = true := nb_t (by omega)
      rw [e3, cond_true, cond_true, if_neg (by omega)]
     ·have e3 : Nat.beq (k' % 2) 1 = false := nb_f (by omega)
      rw [e3, cond_false, cond_false, ihr]
      by_cases hkk : k' = k
      ·subst hkk; simp
      ·rw [if_neg hkk, if_neg (by omega)]
def delL (h : Tr Grp) : List Nat → Tr Grp
 | [] => h
 | g :: r => (delL h r).del g
theorem delL_get (h : Tr Grp) : ∀ (l : List Nat) (g : Nat), Tr.get (delL h l) g = if g ∈ l then none else Tr.get h g
 | [], g => by simp [delL]
 | x :: r, g => by
  rw [delL, Tr.get_del]
  by_cases e : g = x
  ·subst e; simp
  ·rw [if_neg e, delL_get h r g]; simp [e]
def St.drop (z : St) (l : List Nat) : St := ⟨z.ctr, delL z.h l, z.wr⟩
theorem drop_stz {z : St} {l : List Nat} (hl : ∀ g ∈ l, g < z.ctr) : StZ (fun g => g ∈ l) z (z.drop l) := by
 refine ⟨rfl, rfl, fun g G hG => ?_, hl⟩
 have hG : Tr.get (delL z.h l) g = some G := hG
 rw [delL_get] at hG
 split at hG
 ·cases hG
 ·exact ⟨‹_›, G, hG, GZ.refl G⟩
theorem drop_keep {z : St} {l : List Nat} {Y : List Nat} (hok : z.Ok) (hl : ∀ g ∈ l, g ∈ Y) : Keep Y z (z.drop l) := by
 refine ⟨hok, fun g hg => ?_, nlr _, fun g hg G hG => ?_, fun g hg => .inl hg⟩
 ·show Tr.get (delL z.h l) g = none
  rw [delL_get]
  split
  ·rfl
  ·exact hok g hg
 ·show Tr.get (delL z.h l) g = some G
  rw [delL_get, if_neg fun h => hg (hl g h)]
  exact hG
section
variable {P : Program} {T : Tab} {K : Kn} {nt : NT} {ops : Array Oper} {l : List Oper} {m m' : Sy} {z z' : St} {Q : Sy → St → Prop} {R : Ex → Sy → St → Prop} {c : Code} {E : Nat → Prop}
theorem Conc.told2 {D : Nat → Prop} {t : TL} {s : St} (h : Conc D nt m z t s) (k : StZ E z z') (hm : ∀ i r, m'.at i = some r → ∃ v, m.at i = some v ∧ FzL z.h E [v] [r]) : Conc (fun g => D g ∨ E g) nt m' z' t s := by
 refine ⟨h.st.comp k, h.n, h.ds, h.rd, fun i r hi => ?_⟩
 obtain ⟨v, h1, h2⟩ := hm i r hi
 exact h2.comp h.st (fun _ h => .inl h) (fun _ h => .inr h) (h.at_ i v h1)
theorem Pass.less {D D1 D' : Nat → Prop} {s s' : St} (h : Pass D1 s D' s') (hs : ∀ g, D g → D1 g) : Pass D s D' s' := by
 obtain ⟨w, h1, h2⟩ := h.wr
 exact ⟨fun g hg => h.sub g (hs g hg), fun g hg => h.un g (hs g hg), w, h1, fun g hg hd => h2 g hg (hs g hd)⟩
theorem w_told (k : StZ E z z') (hm : ∀ i r, m'.at i = some r → ∃ v, m.at i = some v ∧ FzL z.h E [v] [r]) (h : W P T K nt ops l m' z' Q) : W P T K nt ops l m z Q := by
 obtain ⟨N, m1, z1, hq, hn⟩ := h
 refine ⟨N, m1, z1, hq, fun n hn' D t s ht => ?_⟩
 obtain ⟨D', t', s', e1, p1, h1⟩ := hn n hn' _ t s (ht.told2 k hm)
 exact ⟨D', t', s', e1, p1.less fun _ h => .inl h, h1⟩
theorem wc_told (k : StZ E z z') (hm : ∀ i r, m'.at i = some r → ∃ v, m.at i = some v ∧ FzL z.h E [v] [r]) (h : WC P T K nt c m' z' R) : WC P T K nt c m z R := by
 obtain ⟨N, e, m1, z1, hq, hn⟩ := h
 refine ⟨N, e, m1, z1, hq, fun n k1 hn' hk' D t s ht => ?_⟩
 obtain ⟨D', t', s', e1, p1, h1⟩ := hn n k1 hn' hk' _ t s (ht.told2 k hm)
 exact ⟨D', t', s', e1, p1.less fun _ h => .inl h, h1⟩
theorem told_m {i : Nat} {v r : AV} (hi : m.at i = some v) (hv : FzL z.h E [v] [r]) : ∀ j x, Sy.at ((i, r) :: m) j = some x → ∃ v, m.at j = some v ∧ FzL z.h E [v] [x] := by
 intro j x hj
 unfold Sy.at at hj
 by_cases e : j = i
 ·subst e
  rw [nb_t rfl, cond_true] at hj
  cases hj
  exact ⟨v, hi, hv⟩
 ·rw [nb_f e, cond_false] at hj
  exact ⟨x, hj, .refl _⟩
variable {s0 : St} {L : List Chunk} {X : List Nat}
theorem SH.drop {v : AV} {sz : Nat} {css : List (List AV)} (hS : SH s0 L z X) (n : Nat) (hn : L[n]? = some (rowC v sz css)) : SH s0 (L.set n emC) (z.drop v.gs) X :=
 hS.upd n hn (drop_keep hS.ok fun _ h => h) (fun g hg => hg) emC trivial fun g hg => hg.elim
theorem ws_told (n i : Nat) {v : AV} {sz : Nat} {css : List (List AV)} (hS : SH s0 L z X) (hn : L[n]? = some (rowC v sz css)) (hi : m.at i = some v)
  (k : ∀ r, RowP sz r css → SH s0 (L.set n emC) (z.drop v.gs) X → W P T K nt ops l ((i, r) :: m) (z.drop v.gs) Q) : W P T K nt ops l m z Q := by
 obtain ⟨r, h1, h2⟩ := row_told (E := fun g => g ∈ v.gs) (hS.row n hn) fun _ h => h
 exact w_told (drop_stz fun g hg => (hS.bdX n hn g hg).2) (told_m hi h1) (k r h2 (hS.drop n hn))
theorem wcs_told (n i : Nat) {v : AV} {sz : Nat} {css : List (List AV)} (hS : SH s0 L z X) (hn : L[n]? = some (rowC v sz css)) (hi : m.at i = some v)
  (k : ∀ r, RowP sz r css → SH s0 (L.set n emC) (z.drop v.gs) X → WC P T K nt c ((i, r) :: m) (z.drop v.gs) R) : WC P T K nt c m z R := by
 obtain ⟨r, h1, h2⟩ := row_told (E := fun g => g ∈ v.gs) (hS.row n hn) fun _ h => h
 exact wc_told (drop_stz fun g hg => (hS.bdX n hn g hg).2) (told_m hi h1) (k r h2 (hS.drop n hn))
end
theorem res_cellT {T : Tab} {m : Sy} {s : St} {a b : Nat} {tt : TypeId} {i : TI} {g' j off : Nat} {cs : List AV} {v w : AV} (hm : m.at a = some (.ptr g' j off)) (hT : T tt = some i) (hp : Pt s.h (.ptr g' j off) cs) (hc : loadC i cs = some v) (hb : m.at b = some w) : resY T m s [.cell a tt, .tmp b] = some [v, w] := by
 unfold loadC at hc
 split at hc
 ·rename_i hl
  have := rdH_part hp 0 i.cnt (by omega)
  rw [Nat.add_zero, List.drop_zero] at this
  unfold resY
  simp only [hT, hm, read_rd, this, hc, resY, hb]
 ·cases hc
theorem SH.startX {s : St} {c : Nat} {cs : List AV} (hok : s.Ok) (hp : Pt s.h (.ptr c 0 0) cs) : SH s [ptC (.ptr c 0 0) cs] s [c] where
 K := (Keep.refl hok).more fun g hg => by cases hg
 own := fun i x hi => by
  cases i with
  | zero =>
   simp only [List.getElem?_cons_zero, sjj] at hi
   subst hi
   refine ⟨hp, fun g hg => ⟨.inr hg, hp.lt hok g hg⟩⟩
  | succ i => simp at hi
 dis := fun i j x y hij hi hj => by
  cases i with
  | zero =>
   cases j with
   | zero => exact (hij rfl).elim
   | succ j => simp at hj
  | succ i => simp at hi
def Chunk.Dj (c d : Chunk) : Prop := ∀ g, c.F g → ¬ d.F g
theorem SH.perm {s0 s : St} {X : List Nat} {L L' : List Chunk} (h : SH s0 L s X) (p : L.Perm L') : SH s0 L' s X := by
 have hp : L.Pairwise Chunk.Dj := by
  rw [List.pairwise_iff_getElem]
  intro i j hi hj hij
  exact h.dis i j _ _ (by omega) (gee hi) (gee hj)
 have hp' : L'.Pairwise Chunk.Dj := (p.pairwise_iff fun {c d} hcd g hd hc => hcd g hc hd).1 hp
 refine ⟨h.K, fun i c hi => ?_, fun i j c d hij hi hj => ?_⟩
 ·obtain ⟨k, hk⟩ := List.getElem?_of_mem (p.mem_iff.2 (mog hi))
  exact h.own k c hk
 ·obtain ⟨h1, rfl⟩ := ges.1 hi
  obtain ⟨h2, rfl⟩ := ges.1 hj
  rw [List.pairwise_iff_getElem] at hp'
  rcases Nat.lt_or_gt_of_ne hij with k | k
  ·exact hp' i j h1 h2 k
  ·exact fun g hg hd => hp' j i h2 h1 k g hd hg
end Go.Ab
namespace Go.Ab
theorem nl {a b : Nat} (h : Nat.ble a b = true) : a ≤ b := Nat.le_of_ble_eq_true h
theorem aq0 {A B : Prop} (a : A) (f : A → B := by
  intro a
  repeat
    with_reducible first
      | refine wc_seq ?_
      | refine wc_region ?_
      | refine w_nil ?_
      | refine then_n ?_
      | refine wd_nil ?_
      | refine wc_skip ?_
      | refine out_n ?_
      | refine wc_block ?_
      | refine wc_ret ?_
      | refine wc_exit ?_
      | refine then_r ?_
      | refine out_r ?_
      | refine round_r ?_
      | refine cut_r ?_
      | refine sc_r ?_
      | refine then_x ?_
      | refine round_x ?_
      | refine cut_x ?_
      | refine out_x' (by decide) ?_
      | refine out_x ?_
      | refine sc_n ?_
  exact a) : B := f a
theorem aq1 {A B : Prop} (a : A) (f : A → B := by
  intro a
  repeat
    with_reducible first
      | refine wc_seq ?_
      | refine wc_region ?_
      | refine w_nil ?_
      | refine then_n ?_
      | refine wd_nil ?_
      | refine wc_skip ?_
      | refine out_n ?_
      | refine wc_block ?_
      | refine wc_ret ?_
      | refine wc_exit ?_
      | refine then_r ?_
      | refine out_r ?_
      | refine round_r ?_
      | refine cut_r ?_
      | refine sc_r ?_
      | refine then_x ?_
      | refine round_x ?_
      | refine cut_x ?_
      | refine out_x' (by decide) ?_
      | refine out_x ?_
      | refine sc_n ?_
  first
    | refine w_val rfl rfl (op_pure rfl) ?_
    | refine w_off rfl rfl ?_
    | refine wo_val (fun _ => rfl) rfl rfl (op_pure rfl) ?_
    | refine wd_val (fun _ => trivial) rfl rfl (op_pure rfl) ?_
    | refine wd_off (fun _ => trivial) rfl rfl ?_
    | refine w_val rfl rfl (op_fldP rfl rfl rfl rfl (by decide)) ?_
    | refine wo_val (fun _ => rfl) rfl rfl (op_fldP rfl rfl rfl rfl (by decide)) ?_
  refine aq0 ?_
  exact a) : B := f a
theorem aq2 {A B : Prop} (a : A) (f : A → B := by
  intro a
  iterate 2 (refine aq1 ?_)
  exact a) : B := f a
theorem aq3 {A B : Prop} (a : A) (f : A → B := by
  intro a
  iterate 3 (refine aq1 ?_)
  exact a) : B := f a
theorem aq4 {A B : Prop} (a : A) (f : A → B := by
  intro a
  iterate 4 (refine aq1 ?_)
  exact a) : B := f a
theorem aq5 {A B : Prop} (a : A) (f : A → B := by
  intro a
  iterate 5 (refine aq1 ?_)
  exact a) : B := f a
theorem aq6 {A B : Prop} (a : A) (f : A → B := by
  intro a
  iterate 6 (refine aq1 ?_)
  exact a) : B := f a
theorem aq7 {A B : Prop} (a : A) (f : A → B := by
  intro a
  iterate 7 (refine aq1 ?_)
  exact a) : B := f a
theorem aq8 {A B : Prop} (a : A) (f : A → B := by
  intro a
  iterate 8 (refine aq1 ?_)
  exact a) : B := f a
theorem aq9 {A B : Prop} (a : A) (f : A → B := by
  intro a
  iterate 9 (refine aq1 ?_)
  exact a) : B := f a
theorem aq10 {A B : Prop} (a : A) (f : A → B := by
  intro a
  iterate 10 (refine aq1 ?_)
  exact a) : B := f a
theorem aq11 {A B : Prop} (a : A) (f : A → B := by
  intro a
  iterate 11 (refine aq1 ?_)
  exact a) : B := f a
theorem aq12 {A B : Prop} (a : A) (f : A → B := by
  intro a
  iterate 12 (refine aq1 ?_)
  exact a) : B := f a
section
variable {P : Program} {T : Tab} {K : Kn} {nt : NT} {ops : Array Oper} {rest : List Oper} {m : Sy} {s s' s0 : St} {Q : Sy → St → Prop} {op : Op} {d ty : Nat} {pos : String} {af : Array Edge} {g : Option (Nat × Bool)} {v : AV} {L : List Chunk} {X : List Nat} {D : Nat → Prop}
abbrev scn := @Sub.cons
theorem wvz (h : ∀ t, Has t nt m → evOp T op t s = some (.val v, s')) (k : W P T K nt ops rest ((d, v) :: m) s' Q) (hg : guardY ops m g = some true := by exact rfl) (hd : Nat.ble (d + 1) nt.n = true := by exact rfl) :
  W P T K nt ops (⟨some d, op, ty, pos, af, g⟩ :: rest) m s Q := w_val hg hd h k
theorem wkz {c : Callee} {x : Operand} {as0 : Array Operand} {tys : Array TypeId} {f : FuncId} {caps args args' : List AV} {R : AV → St → Prop} (hc : CallS P T K f args' s R) (k : ∀ v s', R v s' → W P T K nt ops rest ((d, v) :: m) s' Q)
  (h1 : c = .value x := by exact rfl) (hx : evY m x = some (.fn f caps) := by exact rfl) (ha : evsY m as0.toList = some args := by exact rfl) (he : args ++ caps = args' := by exact rfl) (hg : guardY ops m g = some true := by exact rfl) (hd : Nat.ble (d + 1) nt.n = true := by exact rfl) :
  W P T K nt ops (⟨some d, .call ⟨c, as0, tys⟩, ty, pos, af, g⟩ :: rest) m s Q := w_call hg hd (op_call h1 hx ha he) hc k
theorem wov (h : ∀ t, Has t nt m → evOp T op t s.bare = some (.val v, s.bare)) (k : WD P T K nt ops rest ((d, v) :: m) s (Old s0 X) Q) (hr : ∀ t, readsA t op = none := by exact fun _ => rfl) (hg : guardY ops m g = some true := by exact rfl) (hd : Nat.ble (d + 1) nt.n = true := by exact rfl) :
  WD P T K nt ops (⟨some d, op, ty, pos, af, g⟩ :: rest) m s (Old s0 X) Q := wo_val hr hg hd h k
theorem wdv (h : ∀ t, Has t nt m → evOp T op t s.bare = some (.val v, s.bare)) (k : WD P T K nt ops rest ((d, v) :: m) s D Q) (hD : ∀ g, D g := by exact fun _ => trivial) (hg : guardY ops m g = some true := by exact rfl) (hd : Nat.ble (d + 1) nt.n = true := by exact rfl) :
  WD P T K nt ops (⟨some d, op, ty, pos, af, g⟩ :: rest) m s D Q := wd_val hD hg hd h k
theorem wol {tt : TypeId} {a : Operand} {i : TI} {p : AV} {cs : List AV} (hK : Keep [] s0 s) (hp : Pt s0.h p cs) (hX : ∀ g ∈ p.gs, g ∉ X) (k : WD P T K nt ops rest ((d, v) :: m) s (Old s0 X) Q)
  (hx : evY m a = some p := by exact rfl) (hT : T tt = some i := by exact rfl) (hc : loadC i cs = some v := by exact rfl) (hg : guardY ops m g = some true := by exact rfl) (hd : Nat.ble (d + 1) nt.n = true := by exact rfl) :
  WD P T K nt ops (⟨some d, .load tt a, ty, pos, af, g⟩ :: rest) m s (Old s0 X) Q := wo_load hK hx hT hp hc hX hg hd k
theorem woc {c : Callee} {x : Operand} {as0 : Array Operand} {tys : Array TypeId} {f : FuncId} {caps args args' : List AV} {R : AV → St → Prop} (hK : Keep [] s0 s) (hc : CallS P T K f args' s.bare R)
  (k : ∀ v s', R v s' → Keep [] s0 ⟨s'.ctr, s.h, s'.wr ++ s.wr⟩ → WD P T K nt ops rest ((d, v) :: m) ⟨s'.ctr, s.h, s'.wr ++ s.wr⟩ (Old s0 X) Q)
  (h1 : c = .value x := by exact rfl) (hx : evY m x = some (.fn f caps) := by exact rfl) (ha : evsY m as0.toList = some args := by exact rfl) (he : args ++ caps = args' := by exact rfl) (hg : guardY ops m g = some true := by exact rfl) (hd : Nat.ble (d + 1) nt.n = true := by exact rfl)
  (hw : ∀ v s', R v s' → Keep [] s.bare s' := by exact fun _ _ h => h.1) (hp : ∀ v s', R v s' → v.pl = true := by rintro _ _ ⟨-, rfl⟩; rfl) :
  WD P T K nt ops (⟨some d, .call ⟨c, as0, tys⟩, ty, pos, af, g⟩ :: rest) m s (Old s0 X) Q := wo_call0 hK hg hd (fun _ => rfl) (op_call h1 hx ha he) hc hw hp k
theorem wad {xt yt : TypeId} {x y : Operand} {a b : Int} (k : W P T K nt ops rest ((d, .int .i64 (a + b)) :: m) s Q) (hx : evY m x = some (.int .i64 a) := by exact rfl) (hy : evY m y = some (.int .i64 b) := by exact rfl) (h : In64 (a + b) := by unfold In64; omega) (hg : guardY ops m g = some true := by exact rfl) (hd : Nat.ble (d + 1) nt.n = true := by exact rfl) :
  W P T K nt ops (⟨some d, .binOp .add xt x y yt, ty, pos, af, g⟩ :: rest) m s Q := w_val hg hd (op_add hx hy h) k
theorem rn {I : Nat → Sy → St → Prop} {i j : Nat} {m' : Sy} {R : Ex → Sy → St → Prop} (h : I i m' s) (hi : i < j := by omega) (hs : Sub m' m := by repeat (first | exact Sub.nil _ | refine Sub.cons rfl ?_)) : Round I j R .normal m s := round_n i m' hi hs h
theorem oL {tt : TypeId} {a : Operand} {i : TI} {c o : Nat} {cs : List AV} (n : Nat) (hS : SH s0 L s X) (hn : L[n]? = some (ptC (.ptr c 0 0) cs) := by exact rfl) (hx : evY m a = some (.ptr c 0 o) := by exact rfl) (hT : T tt = some i := by exact rfl) (ho : o ≤ cs.length := by exact Nat.le_of_ble_eq_true rfl) (hc : loadC i (cs.drop o) = some v := by exact rfl) :
  ∀ t, Has t nt m → evOp T (.load tt a) t s = some (.val v, s) := op_loadC n hS hn hx hT ho hc
theorem oN {tt : TypeId} {x : Operand} {i : TI} {e : TypeId} {n : Nat} {args : Array Operand} {tys : Array TypeId} (hn : v.slen = some n) (ha : args.toList = [x] := by exact rfl) (hb : tys.toList = [tt] := by exact rfl) (hx : evY m x = some v := by exact rfl) (hT : T tt = some i := by exact rfl) (hs : i.sh = .slice e := by exact rfl) :
  ∀ t, Has t nt m → evOp T (.call ⟨.builtin .len, args, tys⟩) t s = some (.val (.int .i64 n), s) := op_len ha hb hx hT hs hn
theorem oI {tt : TypeId} {x ix : Operand} {i ie : TI} {e : TypeId} {vi : AV} {n sz : Nat} {cs : List (List AV)} (hr : Row s.h sz v cs) (hx : evY m x = some v := by exact rfl) (hi : evY m ix = some vi := by exact rfl) (hn : natA vi = some n := by exact natA_cast _ _) (hT : T tt = some i := by exact rfl) (hs : i.sh = .slice e := by exact rfl) (he : T e = some ie := by exact rfl) (hz : ie.size = sz := by exact rfl) (hl : n < cs.length := by omega) :
  ∀ t, Has t nt m → evOp T (.indexAddr tt x ix) t s = some (.val (elemA v n), s) := op_idx hx hi hn hT hs he hz hr hl
theorem oJ {tt : TypeId} {x ix : Operand} {i ie : TI} {e : TypeId} {vi : AV} {n sz : Nat} {α : Type} {f : α → List AV} {xs : List α} (hr : Row s.h sz v (xs.map f)) (hx : evY m x = some v := by exact rfl) (hi : evY m ix = some vi := by exact rfl) (hn : natA vi = some n := by exact natA_cast _ _) (hT : T tt = some i := by exact rfl) (hs : i.sh = .slice e := by exact rfl) (he : T e = some ie := by exact rfl) (hz : ie.size = sz := by exact rfl) (hl : n < xs.length := by omega) :
  ∀ t, Has t nt m → evOp T (.indexAddr tt x ix) t s = some (.val (elemA v n), s) := op_idxF hx hi hn hT hs he hz hr hl
theorem oF {st : TypeId} {x : Operand} {f : Nat} {i : TI} {fs : List (Nat × Nat × Bool)} {off sz : Nat} {ag : Bool} {p : AV} {cs : List AV} (hp : Pt s.h p cs) (hx : evY m x = some p := by exact rfl) (hT : T st = some i := by exact rfl) (hs : i.sh = .struct fs := by exact rfl) (hf : fs[f]? = some (off, sz, ag) := by exact rfl) (hz : sz ≠ 0 := by decide) (ho : off ≤ cs.length := by exact Nat.le_of_ble_eq_true rfl) :
  ∀ t, Has t nt m → evOp T (.fieldAddr st x f) t s = some (.val (fldA p off), s) := op_fld hx hT hs hf hz hp ho
theorem oM {tt : TypeId} {a : Operand} {i : TI} {p : AV} {cs : List AV} (hp : Pt s.h p cs) (hx : evY m a = some p := by exact rfl) (hT : T tt = some i := by exact rfl) (hc : loadC i cs = some v := by exact rfl) :
  ∀ t, Has t nt m → evOp T (.load tt a) t s = some (.val v, s) := op_load hx hT hp hc
variable {a b : Code} {R : Ex → Sy → St → Prop}
theorem wcd {i : Nat} {p : Prop} [Decidable p] (ha : p → WC P T K nt a ((i, .bool true) :: m) s R) (hb : ¬ p → WC P T K nt b ((i, .bool false) :: m) s R) (hq : m.at i = some (.bool (decide p)) := by exact rfl) : WC P T K nt (.cond (.tmp i) a b) m s R :=
 wc_condT hq (fun h => ha (of_decide_eq_true h)) fun h => hb (of_decide_eq_false h)
theorem wcb {i : Nat} {x y : Int} (ha : x = y → WC P T K nt a ((i, .bool true) :: m) s R) (hb : ¬ x = y → WC P T K nt b ((i, .bool false) :: m) s R) (hq : m.at i = some (.bool (x == y)) := by exact rfl) : WC P T K nt (.cond (.tmp i) a b) m s R :=
 wc_condT hq (fun h => ha (eq_of_beq h)) fun h => hb fun e => by rw [e, beq_self_eq_true] at h; cases h
end
end Go.Ab
namespace Go.Ab
open Go.Proofs
def iC (n : Int) : List AV := [.int .i64 n]
def sC (b : ByteArray) : List AV := [.str b]
structure TermL where
 kind : Int
 value : Int
 name : ByteArray
def tC (t : TermL) : List AV := [.int .i64 t.kind, .int .i64 t.value, .str t.name]
def markB : ByteArray := ⟨#[109, 97, 114, 107]⟩
set_option maxRecDepth 10000 in
theorem lentStrings_ok {s : St} {v : AV} {xs : List ByteArray} (hok : s.Ok) (hl : xs.length ≤ 2097152) (hv : Row s.h 1 v (xs.map sC)) :
  CallS Tryz.prog Tt Kt 33 [v] s (fun r s' => Keep [] s s' ∧ LentF s'.h (Fr s.ctr s'.ctr []) 1 sC [.str markB] r xs) := by
 refine call_of (fn := Tryz.f33) (nt := 14) Tryz.func33 rfl rfl rfl ?_
 refine aq4 ?_
 refine w_append (cs := []) rfl rfl rfl rfl rfl rfl rfl rfl rfl (by decide) hok (row_nils _ _) (fun _ => rfl) hv (by simp only [lmm, lnn, laa, lcc, maxBytes]; omega) (by simp only [lmm, lnn, laa, lcc, maxBytes]; omega) ?_
 rintro v1 s1 hv1 hk1 - hg1 hn1 -
 rw [List.nil_append] at hv1
 refine aq2 ?_
 refine w_lit1 (c := [.str markB]) rfl rfl rfl rfl rfl rfl rfl (by decide) (by decide) rfl rfl rfl hk1.ok ?_
 rintro v2 s2 hv2 hk2 - -
 have hv1' := hv1.keep hk2 (fun _ _ h => by cases h)
 refine w_append rfl rfl rfl rfl rfl rfl rfl rfl rfl (by decide) hk2.ok hv1' hn1 hv2 (by simp only [lmm, lnn, laa, lcc, maxBytes]; omega) (by simp only [lmm, lnn, laa, lcc, maxBytes]; omega) ?_
 rintro v3 s3 hv3 hk3 - hg3 - hne3
 refine aq3 ?_
 refine wvz (op_len rfl rfl rfl rfl rfl (Row.slenF (by assumption))) ?_
 refine wvz (op_cut (l := none) (h := some xs.length) (l' := 0) (h' := xs.length) rfl rfl (optY_some rfl (natA_cast _ _)) rfl rfl rfl rfl hv3 rfl rfl (Nat.zero_le _) (by simp)) ?_
 refine aq1 ?_
 exact ⟨_, rfl, (hk1.two hk2).fresh hk3 (by
     rcases hg1 with e | e
     · rw [e]; exact fun g hg => by cases hg
     · rw [e]; exact mem_none _), ⟨v3, rfl, hne3 (by simp), hv3⟩, by
     show ∀ g ∈ (cutA v3 0 xs.length).gs, _
     rw [cutA_gs]
     intro g hg
     refine ⟨?_, hv3.lt hk3.ok g hg, fun h => by cases h⟩
     have := hk1.ctr
     have := hk2.ctr
     rcases hg3 with e | e
     · rw [e] at hg
       rcases hg1 with e | e
       · rw [e] at hg; cases hg
       · rw [e] at hg; rw [msi.1 hg]; exact nlr _
     · rw [e] at hg; rw [msi.1 hg]; omega⟩
set_option maxRecDepth 10000 in
theorem lentTerms_ok {s : St} {v : AV} {xs : List TermL} (hok : s.Ok) (hl : xs.length ≤ 2097152) (hv : Row s.h 3 v (xs.map tC)) :
  CallS Tryz.prog Tt Kt 73 [v] s (fun r s' => Keep [] s s' ∧ LentF s'.h (Fr s.ctr s'.ctr []) 3 tC [.int .i64 (-71), .int .i64 0, .str ByteArray.empty] r xs) := by
 refine call_of (fn := Tryz.f73) (nt := 15) Tryz.func73 rfl rfl rfl ?_
 refine aq4 ?_
 refine w_append (cs := []) rfl rfl rfl rfl rfl rfl rfl rfl rfl (by decide) hok (row_nils _ _) (fun _ => rfl) hv (by simp only [lmm, lnn, laa, lcc, maxBytes]; omega) (by simp only [lmm, lnn, laa, lcc, maxBytes]; omega) ?_
 rintro v1 s1 hv1 hk1 - hg1 hn1 -
 rw [List.nil_append] at hv1
 refine aq3 ?_
 refine w_lit1 (c := [.int .i64 (-71), .int .i64 0, .str ByteArray.empty]) rfl rfl rfl rfl rfl rfl rfl (by decide) (by decide) rfl rfl rfl hk1.ok ?_
 rintro v2 s2 hv2 hk2 - -
 have hv1' := hv1.keep hk2 (fun _ _ h => by cases h)
 refine w_append rfl rfl rfl rfl rfl rfl rfl rfl rfl (by decide) hk2.ok hv1' hn1 hv2 (by simp only [lmm, lnn, laa, lcc, maxBytes]; omega) (by simp only [lmm, lnn, laa, lcc, maxBytes]; omega) ?_
 rintro v3 s3 hv3 hk3 - hg3 - hne3
 refine aq3 ?_
 refine wvz (op_len rfl rfl rfl rfl rfl (Row.slenF (by assumption))) ?_
 refine wvz (op_cut (l := none) (h := some xs.length) (l' := 0) (h' := xs.length) rfl rfl (optY_some rfl (natA_cast _ _)) rfl rfl rfl rfl hv3 rfl rfl (Nat.zero_le _) (by simp)) ?_
 refine aq1 ?_
 exact ⟨_, rfl, (hk1.two hk2).fresh hk3 (by
     rcases hg1 with e | e
     · rw [e]; exact fun g hg => by cases hg
     · rw [e]; exact mem_none _), ⟨v3, rfl, hne3 (by simp), hv3⟩, by
     show ∀ g ∈ (cutA v3 0 xs.length).gs, _
     rw [cutA_gs]
     intro g hg
     refine ⟨?_, hv3.lt hk3.ok g hg, fun h => by cases h⟩
     have := hk1.ctr
     have := hk2.ctr
     rcases hg3 with e | e
     · rw [e] at hg
       rcases hg1 with e | e
       · rw [e] at hg; cases hg
       · rw [e] at hg; rw [msi.1 hg]; exact nlr _
     · rw [e] at hg; rw [msi.1 hg]; omega⟩
end Go.Ab
namespace Go.Ab
open Go.Proofs
def TermsR (h : Tr Grp) (ts : List TermL) (c : List AV) : Prop := ∃ v, c = [v] ∧ Row h 3 v (ts.map tC)
-- unused hook: ct26.t
-- unused hook: ct26.f
end Go.Ab
namespace Go.Ab
open Go.Proofs
structure StmtL where
 kind : Int
 name : ByteArray
 targets : List ByteArray
 exprs : List (List TermL)
def StmtL.small (x : StmtL) : Prop := x.targets.length ≤ 2097152 ∧ x.exprs.length ≤ 2097152 ∧ ∀ ts ∈ x.exprs, ts.length ≤ 2097152
def StmtR (h : Tr Grp) (x : StmtL) (c : List AV) : Prop := ∃ vt ve, c = [.int .i64 x.kind, .str x.name, vt, ve] ∧ Row h 1 vt (x.targets.map sC) ∧ RowR h 1 TermsR ve x.exprs
end Go.Ab
namespace Go.Ab
open Go.Proofs
def lC (n : Int) : List AV := [.int .u64 n]
structure InstrL where
 op : Int
 a : Int
structure ArrL where
 len : Int
 label : Int
set_option maxRecDepth 10000 in
theorem lentLabels_ok {s : St} {v : AV} {xs : List Int} (hok : s.Ok) (hl : xs.length ≤ 2097152) (hv : Row s.h 1 v (xs.map lC)) :
  CallS Tryz.prog Tt Kt 35 [v] s (fun r s' => Keep [] s s' ∧ LentF s'.h (Fr s.ctr s'.ctr []) 1 lC [.int .u64 7171] r xs) := by
 refine call_of (fn := Tryz.f35) (nt := 14) Tryz.func35 rfl rfl rfl ?_
 refine aq4 ?_
 refine w_append (cs := []) rfl rfl rfl rfl rfl rfl rfl rfl rfl (by decide) hok (row_nils _ _) (fun _ => rfl) hv (by simp only [lmm, lnn, maxBytes]; omega) (by simp only [lmm, lnn, maxBytes]; omega) ?_
 rintro v1 s1 hv1 hk1 - hg1 hn1 -
 rw [List.nil_append] at hv1
 refine aq2 ?_
 refine w_lit1 (c := [.int .u64 7171]) rfl rfl rfl rfl rfl rfl rfl (by decide) (by decide) rfl rfl rfl hk1.ok ?_
 rintro v2 s2 hv2 hk2 - -
 have hv1' := hv1.keep hk2 (fun _ _ h => by cases h)
 refine w_append rfl rfl rfl rfl rfl rfl rfl rfl rfl (by decide) hk2.ok hv1' hn1 hv2 (by simp only [lmm, lnn, lcc, maxBytes]; omega) (by simp only [lmm, lnn, lcc, maxBytes]; omega) ?_
 rintro v3 s3 hv3 hk3 - hg3 - hne3
 refine aq3 ?_
 refine wvz (op_len rfl rfl rfl rfl rfl (Row.slenF (by assumption))) ?_
 refine wvz (op_cut (l := none) (h := some xs.length) (l' := 0) (h' := xs.length) rfl rfl (optY_some rfl (natA_cast _ _)) rfl rfl rfl rfl hv3 rfl rfl (Nat.zero_le _) (by simp)) ?_
 refine aq1 ?_
 exact ⟨_, rfl, (hk1.two hk2).fresh hk3 (by
     rcases hg1 with e | e
     · rw [e]; exact fun g hg => by cases hg
     · rw [e]; exact mem_none _), ⟨v3, rfl, hne3 (by simp), hv3⟩, by
     show ∀ g ∈ (cutA v3 0 xs.length).gs, _
     rw [cutA_gs]
     intro g hg
     refine ⟨?_, hv3.lt hk3.ok g hg, fun h => by cases h⟩
     have := hk1.ctr
     have := hk2.ctr
     rcases hg3 with e | e
     · rw [e] at hg
       rcases hg1 with e | e
       · rw [e] at hg; cases hg
       · rw [e] at hg; rw [msi.1 hg]; exact nlr _
     · rw [e] at hg; rw [msi.1 hg]; omega⟩
end Go.Ab
namespace Go.Ab
open Go.Proofs
structure DeclL where
 name : ByteArray
 label : Int
def dC (d : DeclL) : List AV := [.str d.name, .int .u64 d.label]
set_option maxRecDepth 10000 in
theorem lentDecls_ok {s : St} {v : AV} {xs : List DeclL} (hok : s.Ok) (hl : xs.length ≤ 2097152) (hv : Row s.h 2 v (xs.map dC)) :
  CallS Tryz.prog Tt Kt 34 [v] s (fun r s' => Keep [] s s' ∧ LentF s'.h (Fr s.ctr s'.ctr []) 2 dC [.str markB, .int .u64 0] r xs) := by
 refine call_of (fn := Tryz.f34) (nt := 15) Tryz.func34 rfl rfl rfl ?_
 refine aq4 ?_
 refine w_append (cs := []) rfl rfl rfl rfl rfl rfl rfl rfl rfl (by decide) hok (row_nils _ _) (fun _ => rfl) hv (by simp only [lmm, lnn, laa, lcc, maxBytes]; omega) (by simp only [lmm, lnn, laa, lcc, maxBytes]; omega) ?_
 rintro v1 s1 hv1 hk1 - hg1 hn1 -
 rw [List.nil_append] at hv1
 refine aq3 ?_
 refine w_lit1 (c := [.str markB, .int .u64 0]) rfl rfl rfl rfl rfl rfl rfl (by decide) (by decide) rfl rfl rfl hk1.ok ?_
 rintro v2 s2 hv2 hk2 - -
 have hv1' := hv1.keep hk2 (fun _ _ h => by cases h)
 refine w_append rfl rfl rfl rfl rfl rfl rfl rfl rfl (by decide) hk2.ok hv1' hn1 hv2 (by simp only [lmm, lnn, laa, lcc, maxBytes]; omega) (by simp only [lmm, lnn, laa, lcc, maxBytes]; omega) ?_
 rintro v3 s3 hv3 hk3 - hg3 - hne3
 refine aq3 ?_
 refine wvz (op_len rfl rfl rfl rfl rfl (Row.slenF (by assumption))) ?_
 refine wvz (op_cut (l := none) (h := some xs.length) (l' := 0) (h' := xs.length) rfl rfl (optY_some rfl (natA_cast _ _)) rfl rfl rfl rfl hv3 rfl rfl (Nat.zero_le _) (by simp)) ?_
 refine aq1 ?_
 exact ⟨_, rfl, (hk1.two hk2).fresh hk3 (by
     rcases hg1 with e | e
     · rw [e]; exact fun g hg => by cases hg
     · rw [e]; exact mem_none _), ⟨v3, rfl, hne3 (by simp), hv3⟩, by
     show ∀ g ∈ (cutA v3 0 xs.length).gs, _
     rw [cutA_gs]
     intro g hg
     refine ⟨?_, hv3.lt hk3.ok g hg, fun h => by cases h⟩
     have := hk1.ctr
     have := hk2.ctr
     rcases hg3 with e | e
     · rw [e] at hg
       rcases hg1 with e | e
       · rw [e] at hg; cases hg
       · rw [e] at hg; rw [msi.1 hg]; exact nlr _
     · rw [e] at hg; rw [msi.1 hg]; omega⟩
end Go.Ab
namespace Go.Ab
open Go.Proofs
def TermsLF : RP (List TermL) := fun h F ts c => ∃ v, c = [v] ∧ LentF h F 3 tC [.int .i64 (-71), .int .i64 0, .str ByteArray.empty] v ts
theorem good_terms : Good TermsLF where
 keep := fun ⟨v, e, k⟩ h hY => ⟨v, e, k.keep h hY⟩
 mono := fun ⟨v, e, k⟩ h => ⟨v, e, k.mono h⟩
def StmtLF : RP StmtL := fun h F x c => ∃ vt ve, c = [.int .i64 x.kind, .str x.name, vt, ve] ∧ LentF h F 1 sC [.str markB] vt x.targets ∧ LentRF h F 1 TermsLF [.nils] ve x.exprs
theorem good_stmt : Good StmtLF where
 keep := fun ⟨vt, ve, e, k, l⟩ h hY => ⟨vt, ve, e, k.keep h hY, l.keep good_terms h hY⟩
 mono := fun ⟨vt, ve, e, k, l⟩ h => ⟨vt, ve, e, k.mono h, l.mono good_terms h⟩
theorem Bld.gs {α : Type} {R : RP α} {c0 hi : Nat} {s : St} {sz : Nat} {f : AV} {xs : List α} (k : Bld c0 hi s sz R f xs) : ∀ g ∈ f.gs, c0 ≤ g ∧ g < hi := by
 obtain ⟨css, hr, hn, hf, hl, hx⟩ := k
 exact hf
theorem fill1 {w z : AV} (h : w.leaf = true) : fillA (fun n => some (n * 1, 1)) [z] [(0, w)] = some [w] := by
 simp [fillA, AV.cells_leaf h, over]
set_option maxRecDepth 10000 in
theorem lentStmts_ok {s : St} {v : AV} {xs : List StmtL} (hok : s.Ok) (hl : xs.length ≤ 2097152) (hll : ∀ x ∈ xs, x.small) (hv : RowR s.h 4 StmtR v xs) :
  CallS Tryz.prog Tt Kt 36 [v] s (fun r s' => Keep [] s s' ∧ LentRF s'.h (Fr s.ctr s'.ctr []) 4 StmtLF [.int .i64 (-71), .str ByteArray.empty, .nils, .nils] r xs) := by
 obtain ⟨csv, hrv, hlv, hV⟩ := hv
 refine call_of (fn := Tryz.f36) (nt := 70) Tryz.func36 rfl rfl rfl ?_
 refine aq2 ?_
 have hK := Keep.refl hok
 have hsv : v.slen = some xs.length := hrv.slen.trans (congrArg some hlv)
 refine aq1 ?_
 refine wc_loop_at (fun j m s1 => ∃ (i : Nat) (f : AV), j = xs.length - i ∧ i ≤ xs.length ∧ m = [(0, v), (3, f), (4, .int .i64 (i : Nat))] ∧ Keep [] s s1 ∧ Bld s.ctr s1.ctr s1 4 StmtLF f (xs.take i)) xs.length
  [(0, v), (3, .nils), (4, .int .i64 ((0 : Nat) : Int))] (scn rfl (scn rfl (scn rfl (Sub.nil _)))) ⟨0, .nils, by simp, by simp, rfl, hK, Bld.nil⟩ ?_
 clear hK
 rintro j m s1 ⟨i, f, rfl, hi, rfl, hK, hB⟩
 have hc1 := hK.ctr
 refine aq2 ?_
 refine wvz (op_len rfl rfl rfl rfl rfl (by assumption)) ?_
 refine aq1 ?_
 refine wc_condT rfl (fun h12 => ?_) (fun h12 => ?_)
 ·simp at h12
  refine aq0 ?_
  obtain ⟨x, hx⟩ : ∃ x, xs[i]? = some x := ⟨_, gee h12⟩
  obtain ⟨ca, hca⟩ : ∃ c, csv[i]? = some c := ⟨_, gee (by omega)⟩
  obtain ⟨vt, ve, rfl, hvt, hve0⟩ := hV i x ca hx hca
  obtain ⟨csE, hrE, hlE, hE⟩ := hve0
  have hsE : ve.slen = some x.exprs.length := hrE.slen.trans (congrArg some hlE)
  have hz : ([.int .i64 x.kind, .str x.name, vt, ve] : List AV).all AV.leaf = true := by
   simp only [List.all_cons, List.all_nil, hvt.leaf, hrE.leaf]; rfl
  obtain ⟨hx1, hx2, hx3⟩ := hll x (mog hx)
  refine aq2 ?_
  refine wvz (op_idx rfl rfl (natA_cast _ _) rfl rfl rfl rfl (Row.keep0 (by assumption) hK) (by omega)) ?_
  refine wvz (op_load rfl rfl (Row.pt (Row.keep0 (by assumption) hK) (by assumption)) rfl) ?_
  refine w_alloc rfl rfl rfl rfl hK.ok ?_
  intro s2 hp hk2 hc2
  have hK := hK.two hk2
  have hB := hB.keep good_stmt hk2 (fun g hg => by cases hg)
  refine w_store_all rfl rfl rfl rfl rfl (by rfl) hz hK.ok hp (by simp [AV.gs]) ?_
  intro s3 hp' hk3 hc3
  have hp : Pt s3.h (.ptr s1.ctr 0 0) [.int .i64 x.kind, .str x.name, vt, ve] := hp'
  have hPs : ∀ g ∈ (AV.ptr s1.ctr 0 0).gs, s.ctr ≤ g := fun g hg => by rw [msi.1 hg]; exact hc1
  have hK := hK.fresh hk3 hPs
  have hB := hB.keep good_stmt hk3 (fun g hg => by rw [msi.1 hg]; exact nlr _)
  refine aq0 ?_
  refine wvz (op_fld rfl rfl rfl rfl (by decide) (by assumption) (nl rfl)) ?_
  refine wvz (op_load rfl rfl (Pt.fld (by assumption) _ (nl rfl)) rfl) ?_
  refine wkz (lentStrings_ok hK.ok hx1 (hvt.keep0 hK)) ?_
  rintro vt' s4 ⟨hk4, hvt'⟩
  have hK := hK.two hk4
  have hc4 := hk4.ctr
  have hp := hp.keep hk4 (fun _ _ h => by cases h)
  have hB := hB.keep good_stmt hk4 (fun g hg => by cases hg)
  refine wvz (op_fld rfl rfl rfl rfl (by decide) (by assumption) (nl rfl)) ?_
  refine w_store_fld (o := 2) rfl rfl rfl rfl (by rw [AV.cells_leaf hvt'.1.leaf]; rfl) (by simp only [AV.cells_leaf hvt'.1.leaf, List.all_cons, List.all_nil, hvt'.1.leaf]; rfl) hK.ok hp (by simp [AV.gs]) (by rw [AV.cells_leaf hvt'.1.leaf]; exact nl rfl) ?_
  intro s5 hp' hk5 hc5
  have hp : Pt s5.h (.ptr s1.ctr 0 0) [.int .i64 x.kind, .str x.name, vt', ve] := by rw [AV.cells_leaf hvt'.1.leaf] at hp'; exact hp'
  have hK := hK.fresh hk5 hPs
  have hB := hB.keep good_stmt hk5 (fun g hg => by rw [msi.1 hg]; exact nlr _)
  have hvt' := hvt'.keep hk5 (fun g hg h => by rw [msi.1 hg] at h; have := h.1; omega)
  refine aq2 ?_
  refine wc_loop_at (fun j m s6 => ∃ (k : Nat) (e : AV), j = x.exprs.length - k ∧ k ≤ x.exprs.length ∧ m = [(0, v), (3, f), (4, .int .i64 (i : Nat)), (5, .ptr s1.ctr 0 0), (6, e), (7, .int .i64 (k : Nat))] ∧ Keep [] s s6 ∧ Pt s6.h (.ptr s1.ctr 0 0) [.int .i64 x.kind, .str x.name, vt', ve] ∧
      Bld s.ctr s1.ctr s6 4 StmtLF f (xs.take i) ∧ LentF s6.h (Fr s3.ctr s4.ctr []) 1 sC [.str markB] vt' x.targets ∧ s5.ctr ≤ s6.ctr ∧ Bld s5.ctr s6.ctr s6 1 TermsLF e (x.exprs.take k)) x.exprs.length
   [(0, v), (3, f), (4, .int .i64 (i : Nat)), (5, .ptr s1.ctr 0 0), (6, .nils), (7, .int .i64 ((0 : Nat) : Int))] (scn rfl (scn rfl (scn rfl (scn rfl (scn rfl (scn rfl (Sub.nil _)))))))
   ⟨0, .nils, by simp, by simp, rfl, hK, hp, hB, hvt', nlr _, Bld.nil⟩ ?_
  clear hK hp hB hvt'
  rintro j1 m1 s6 ⟨k, e, rfl, hk, rfl, hK, hp, hB, hvt', hc6, hE6⟩
  refine aq3 ?_
  refine wvz (op_idx rfl rfl (natA_cast _ _) rfl rfl rfl rfl (Row.keep0 (by assumption) hK) (by omega)) ?_
  refine wvz (op_fld rfl rfl rfl rfl (by decide) (Row.pt (Row.keep0 (by assumption) hK) (by assumption)) (nl rfl)) ?_
  refine wvz (op_load rfl rfl (Pt.fld (Row.pt (Row.keep0 (by assumption) hK) (by assumption)) _ (nl rfl)) rfl) ?_
  refine wvz (op_len rfl rfl rfl rfl rfl (by assumption)) ?_
  refine aq1 ?_
  refine wc_condT rfl (fun h30 => ?_) (fun h30 => ?_)
  ·simp at h30
   refine aq0 ?_
   obtain ⟨ts, hts⟩ : ∃ x', x.exprs[k]? = some x' := ⟨_, gee h30⟩
   obtain ⟨ce, hce⟩ : ∃ c, csE[k]? = some c := ⟨_, gee (by omega)⟩
   obtain ⟨w0, rfl, hw0⟩ := hE k ts ce hts hce
   have htl := hx3 ts (mog hts)
   refine aq2 ?_
   refine wvz (op_idx rfl rfl (natA_cast _ _) rfl rfl rfl rfl (Row.keep0 (by assumption) hK) (by omega)) ?_
   refine wvz (op_fld rfl rfl rfl rfl (by decide) (Row.pt (Row.keep0 (by assumption) hK) (by assumption)) (nl rfl)) ?_
   refine wvz (op_load rfl rfl (Pt.fld (Row.pt (Row.keep0 (by assumption) hK) (by assumption)) _ (nl rfl)) rfl) ?_
   refine aq1 ?_
   refine wvz (op_idx rfl rfl (natA_cast _ _) rfl rfl rfl rfl (Row.keep0 (by assumption) hK) (by omega)) ?_
   refine wvz (op_load rfl rfl (Row.pt (Row.keep0 (by assumption) hK) (by assumption)) rfl) ?_
   refine wkz (lentTerms_ok hK.ok htl (hw0.keep0 hK)) ?_
   rintro w s7 ⟨hk7, hw⟩
   have hK := hK.two hk7
   have hc7 := hk7.ctr
   have hp := hp.keep hk7 (fun _ _ h => by cases h)
   have hB := hB.keep good_stmt hk7 (fun g hg => by cases hg)
   have hvt' := hvt'.keep hk7 (fun g hg => by cases hg)
   have hE6 := hE6.keep good_terms hk7 (fun g hg => by cases hg)
   refine aq3 ?_
   refine w_lit1 (c := [w]) rfl rfl rfl rfl rfl rfl rfl (by decide) (by decide) (fill1 hw.1.leaf) (by simp only [List.all_cons, List.all_nil, hw.1.leaf]; rfl) rfl hK.ok ?_
   rintro b8 s8 hb8 hk8 hc8 -
   have hK := hK.two hk8
   have hp := hp.keep hk8 (fun _ _ h => by cases h)
   have hB := hB.keep good_stmt hk8 (fun g hg => by cases hg)
   have hvt' := hvt'.keep hk8 (fun g hg => by cases hg)
   have hE6 := hE6.keep good_terms hk8 (fun g hg => by cases hg)
   have hw := hw.keep hk8 (fun g hg => by cases hg)
   have heg : ∀ g ∈ e.gs, s5.ctr ≤ g ∧ g < s6.ctr := hE6.gs
   refine w_app_bld good_terms (z := ts) (sz := 1) rfl rfl rfl rfl rfl rfl rfl rfl rfl (by decide) rfl hK.ok hE6 (by omega) (by omega) hb8 ⟨w, rfl, hw.mono fun g ⟨q1, q2, _⟩ => ⟨by omega, by omega, fun h => by have := (heg g h).2; omega⟩⟩ (by simp only [List.length_take, maxBytes]; omega) (by simp only [List.length_take, maxBytes]; omega) ?_
   rintro e9 s9 hE9 hk9 -
   have hc9 := hk9.ctr
   rw [take_snoc hts] at hE9
   have hK := hK.fresh hk9 (fun g hg => by have := (heg g hg).1; omega)
   have hp := hp.keep hk9 (fun g hg h => by rw [msi.1 hg] at h; have := (heg _ h).1; omega)
   have hB := hB.keep good_stmt hk9 (fun g hg => by have := (heg g hg).1; omega)
   have hvt' := hvt'.keep hk9 (fun g hg h => by have := (heg g hg).1; have := h.2.1; omega)
   refine aq2 ?_
   refine wad ?_
   refine aq1 ?_
   exact rn ⟨k + 1, e9, rfl, by omega, rfl, hK, hp, hB, hvt', by omega, hE9⟩
  simp at h30
  obtain rfl : k = x.exprs.length := by omega
  rw [List.take_length] at hE6
  refine aq1 ?_
  refine w_lit1 (c := [.nils]) rfl rfl rfl rfl rfl rfl rfl (by decide) (by decide) rfl rfl rfl hK.ok ?_
  rintro b8 s8 hb8 hk8 hc8 -
  have hK := hK.two hk8
  have hp := hp.keep hk8 (fun _ _ h => by cases h)
  have hB := hB.keep good_stmt hk8 (fun g hg => by cases hg)
  have hvt' := hvt'.keep hk8 (fun g hg => by cases hg)
  have hE6 := hE6.keep good_terms hk8 (fun g hg => by cases hg)
  have heg : ∀ g ∈ e.gs, s5.ctr ≤ g ∧ g < s6.ctr := hE6.gs
  refine w_app_mark good_terms (sz := 1) rfl rfl rfl rfl rfl rfl rfl rfl rfl (by decide) rfl hK.ok hE6 (by omega) (by omega) hb8 (by simp only [maxBytes]; omega) (by simp only [maxBytes]; omega) ?_
  rintro e9 s9 cse hr9 hl9 hE9 hk9
  have hc9 := hk9.ctr
  have hK := hK.fresh hk9 (fun g hg => by have := (heg g hg).1; omega)
  have hp := hp.keep hk9 (fun g hg h => by rw [msi.1 hg] at h; have := (heg _ h).1; omega)
  have hB := hB.keep good_stmt hk9 (fun g hg => by have := (heg g hg).1; omega)
  have hvt' := hvt'.keep hk9 (fun g hg h => by have := (heg g hg).1; have := h.2.1; omega)
  refine aq4 ?_
  refine wvz (op_idx rfl rfl (natA_cast _ _) rfl rfl rfl rfl (Row.keep0 (by assumption) hK) (by omega)) ?_
  refine wvz (op_fld rfl rfl rfl rfl (by decide) (Row.pt (Row.keep0 (by assumption) hK) (by assumption)) (nl rfl)) ?_
  refine wvz (op_load rfl rfl (Pt.fld (Row.pt (Row.keep0 (by assumption) hK) (by assumption)) _ (nl rfl)) rfl) ?_
  refine wvz (op_len rfl rfl rfl rfl rfl (by assumption)) ?_
  refine wvz (op_cut (l := none) (h := some x.exprs.length) (l' := 0) (h' := x.exprs.length) rfl rfl (optY_some rfl (natA_cast _ _)) rfl rfl rfl rfl hr9 rfl rfl (Nat.zero_le _) (by simp; omega)) ?_
  have hlf : (cutA e9 0 x.exprs.length).leaf = true := (hr9.less hl9).leaf
  refine wvz (op_fld rfl rfl rfl rfl (by decide) (by assumption) (nl rfl)) ?_
  refine w_store_fld (o := 3) rfl rfl rfl rfl (by rw [AV.cells_leaf hlf]; rfl) (by simp only [AV.cells_leaf hlf, List.all_cons, List.all_nil, hlf]; rfl) hK.ok hp (by simp [AV.gs]) (by rw [AV.cells_leaf hlf]; exact nl rfl) ?_
  intro s10 hp' hk10 hc10
  have hp : Pt s10.h (.ptr s1.ctr 0 0) [.int .i64 x.kind, .str x.name, vt', cutA e9 0 x.exprs.length] := by rw [AV.cells_leaf hlf] at hp'; exact hp'
  have hK := hK.fresh hk10 hPs
  have hB := hB.keep good_stmt hk10 (fun g hg => by rw [msi.1 hg]; exact nlr _)
  have hvt' := hvt'.keep hk10 (fun g hg h => by rw [msi.1 hg] at h; have := h.1; omega)
  have hE9 := hE9.keep good_terms hk10 (fun g hg h => by rw [msi.1 hg] at h; have := h.1; omega)
  refine aq1 ?_
  refine wvz (op_load rfl rfl (by assumption) rfl) ?_
  refine w_lit1 (c := [.int .i64 x.kind, .str x.name, vt', cutA e9 0 x.exprs.length]) rfl rfl rfl rfl rfl rfl rfl (by decide) (by decide) rfl (by simp only [List.all_cons, List.all_nil, hvt'.1.leaf, hlf]; rfl) rfl hK.ok ?_
  rintro b11 s11 hb11 hk11 hc11 -
  have hK := hK.two hk11
  have hB := hB.keep good_stmt hk11 (fun g hg => by cases hg)
  have hvt' := hvt'.keep hk11 (fun g hg => by cases hg)
  have hE9 := hE9.keep good_terms hk11 (fun g hg => by cases hg)
  have hfg : ∀ g ∈ f.gs, s.ctr ≤ g ∧ g < s1.ctr := hB.gs
  refine w_app_bld good_stmt (z := x) (sz := 4) rfl rfl rfl rfl rfl rfl rfl rfl rfl (by decide) rfl hK.ok hB (by omega) (by omega) hb11
   ⟨vt', _, rfl, hvt'.mono fun g ⟨q1, q2, _⟩ => ⟨by omega, by omega, fun h => by have := (hfg g h).2; omega⟩, hE9.mono good_terms fun g ⟨q1, q2, _⟩ => ⟨by omega, by omega, fun h => by have := (hfg g h).2; omega⟩⟩ (by simp only [List.length_take, maxBytes]; omega) (by simp only [List.length_take, maxBytes]; omega) ?_
  rintro f12 s12 hB12 hk12 -
  rw [take_snoc hx] at hB12
  have hK := hK.fresh hk12 (fun g hg => (hfg g hg).1)
  refine aq2 ?_
  refine wad ?_
  refine aq1 ?_
  exact rn ⟨i + 1, f12, rfl, by omega, rfl, hK, hB12⟩
 simp at h12
 obtain rfl : i = xs.length := by omega
 rw [List.take_length] at hB
 refine aq2 ?_
 refine w_lit1 (c := [.int .i64 (-71), .str ByteArray.empty, .nils, .nils]) rfl rfl rfl rfl rfl rfl rfl (by decide) (by decide) rfl rfl rfl hK.ok ?_
 rintro b2 s2 hb2 hk2 hc2 -
 have hK := hK.two hk2
 have hB := hB.keep good_stmt hk2 (fun g hg => by cases hg)
 have hfg : ∀ g ∈ f.gs, s.ctr ≤ g ∧ g < s1.ctr := hB.gs
 refine w_app_mark good_stmt (sz := 4) rfl rfl rfl rfl rfl rfl rfl rfl rfl (by decide) rfl hK.ok hB (by omega) (by omega) hb2 (by simp only [maxBytes]; omega) (by simp only [maxBytes]; omega) ?_
 rintro f3 s3 cs3 hr3 hl3 hL3 hk3
 have hK := hK.fresh hk3 (fun g hg => (hfg g hg).1)
 refine aq3 ?_
 refine wvz (op_len rfl rfl rfl rfl rfl (by assumption)) ?_
 refine wvz (op_cut (l := none) (h := some xs.length) (l' := 0) (h' := xs.length) rfl rfl (optY_some rfl (natA_cast _ _)) rfl rfl rfl rfl hr3 rfl rfl (Nat.zero_le _) (by simp; omega)) ?_
 refine aq1 ?_
 exact ⟨_, rfl, hK, hL3⟩
end Go.Ab
namespace Go.Ab
open Go.Proofs
theorem and32 {n : Nat} (h : n < 4294967296) : binA Tt .and 28 (.int .u64 n) (.int .u64 4294967295) = some (.int .u64 n) := by
 have h1 : (BitVec.ofInt 64 (n : Int) &&& BitVec.ofInt 64 4294967295).toNat = n := by
  rw [BitVec.toNat_and, BitVec.ofInt_natCast, BitVec.toNat_ofNat, show (BitVec.ofInt 64 4294967295).toNat = 2 ^ 32 - 1 from by decide, Nat.and_two_pow_sub_one_eq_mod]
  omega
 show some (AV.int .u64 (IntKind.u64.wrap (BitVec.ofInt IntKind.u64.bits (n : Int) &&& BitVec.ofInt IntKind.u64.bits 4294967295).toNat)) = _
 rw [show IntKind.u64.bits = 64 from rfl, h1, wrapU64 (by omega) (by omega)]
theorem shr32 {n : Nat} (h : n < 4294967296) : binA Tt .shr 28 (.int .u64 n) (.int .u64 32) = some (.int .u64 0) := by
 show some (AV.int .u64 ((n : Int).fdiv (2 ^ (min (32 : Int).toNat IntKind.u64.bits)))) = _
 have : ((n : Int).fdiv (2 ^ (min (32 : Int).toNat IntKind.u64.bits))) = 0 := by
  rw [show (2 : Int) ^ (min (32 : Int).toNat IntKind.u64.bits) = 4294967296 from by decide, Int.fdiv_eq_ediv_of_nonneg _ (by omega)]
  omega
 rw [this]
theorem mul1 {n : Nat} (h : n < 4294967296) : binA Tt .mul 28 (.int .u64 1) (.int .u64 n) = some (.int .u64 n) := by
 show some (AV.int .u64 (IntKind.u64.wrap (1 * (n : Int)))) = _
 rw [Int.one_mul, wrapU64 (by omega) (by omega)]
theorem mul0 (n : Nat) : binA Tt .mul 28 (.int .u64 0) (.int .u64 n) = some (.int .u64 0) := by
 show some (AV.int .u64 (IntKind.u64.wrap (0 * (n : Int)))) = _
 rw [Int.zero_mul, wrapU64 (by omega) (by omega)]
set_option maxRecDepth 10000 in
theorem mul64_ok {s : St} {n : Nat} (hn : n < 4294967296) : CallS Tryz.prog Tt Kt 103 [.int .u64 1, .int .u64 n] s (fun v s' => s' = s ∧ v = .tup [.int .u64 0, .int .u64 n]) := by
 refine call_of (fn := Tryz.f103) (nt := 51) Tryz.func103 rfl rfl rfl ?_
 refine aq3 ?_
 refine wvz (op_bin rfl rfl (v := (.int .u64 1)) (by kernel_rfl)) ?_
 refine aq2 ?_
 refine wvz (op_bin rfl rfl (v := (.int .u64 0)) (by kernel_rfl)) ?_
 refine aq2 ?_
 refine wvz (op_bin rfl rfl (v := (.int .u64 n)) (and32 hn)) ?_
 refine aq2 ?_
 refine wvz (op_bin rfl rfl (v := (.int .u64 0)) (shr32 hn)) ?_
 refine aq3 ?_
 refine wvz (op_bin rfl rfl (v := (.int .u64 n)) (mul1 hn)) ?_
 refine aq3 ?_
 refine wvz (op_bin rfl rfl (v := (.int .u64 0)) (mul0 n)) ?_
 refine aq1 ?_
 refine wvz (op_bin rfl rfl (v := (.int .u64 0)) (shr32 hn)) ?_
 refine wvz (op_bin rfl rfl (v := (.int .u64 0)) (by kernel_rfl)) ?_
 refine aq2 ?_
 refine wvz (op_bin rfl rfl (v := (.int .u64 0)) (by kernel_rfl)) ?_
 refine aq2 ?_
 refine wvz (op_bin rfl rfl (v := (.int .u64 0)) (by kernel_rfl)) ?_
 refine aq4 ?_
 refine wvz (op_bin rfl rfl (v := (.int .u64 0)) (by kernel_rfl)) ?_
 refine wvz (op_bin rfl rfl (v := (.int .u64 0)) (by kernel_rfl)) ?_
 refine aq3 ?_
 refine wvz (op_bin rfl rfl (v := (.int .u64 0)) (by kernel_rfl)) ?_
 refine aq1 ?_
 refine wvz (op_bin rfl rfl (v := (.int .u64 0)) (by kernel_rfl)) ?_
 refine aq1 ?_
 refine wvz (op_bin rfl rfl (v := (.int .u64 0)) (by kernel_rfl)) ?_
 refine wvz (op_bin rfl rfl (v := (.int .u64 0)) (by kernel_rfl)) ?_
 refine aq3 ?_
 refine wvz (op_bin rfl rfl (v := (.int .u64 n)) (mul1 hn)) ?_
 refine aq1 ?_
 exact ⟨_, rfl, rfl, rfl⟩
set_option maxRecDepth 10000 in
theorem mul_ok {s : St} {n : Nat} (hn : n < 4294967296) : CallS Tryz.prog Tt Kt 78 [.int .u64 1, .int .u64 n] s (fun v s' => s' = s ∧ v = .tup [.int .u64 0, .int .u64 n]) := by
 refine call_of (fn := Tryz.f78) (nt := 30) Tryz.func78 rfl rfl rfl ?_
 refine aq2 ?_
 refine wc_cond_f rfl ?_
 refine aq2 ?_
 refine wkz (mul64_ok hn) ?_
 rintro _ sX ⟨eX, rfl⟩
 obtain rfl := eX.symm
 refine aq9 ?_
 exact ⟨_, rfl, rfl, rfl⟩
set_option maxRecDepth 10000 in
theorem repeat_ok {s : St} {x : AV} {n : Nat} (hok : s.Ok) (hn : n < 4294967296) (hx : Row s.h 1 x [[.int .i64 (-1)]]) :
  CallS Tryz.prog Tt Kt 40 [x, .int .i64 n] s (fun v s' => Keep [] s s' ∧ s'.ctr = s.ctr + 1 ∧ v.gs = [s.ctr] ∧ Row s'.h 1 v (List.replicate n [.int .i64 (-1)])) := by
 refine call_of (fn := Tryz.f40) (nt := 48) Tryz.func40 rfl rfl rfl ?_
 refine aq3 ?_
 refine wc_condT rfl (fun h10 => ?_) (fun h10 => ?_)
 ·simp at h10; omega
 refine aq1 ?_
 refine wvz (op_len rfl rfl rfl rfl rfl (by first | assumption | exact Row.slenF (by assumption) | exact Row.slen (by assumption) | rfl)) ?_
 refine wvz (op_cv (r := 1) rfl rfl rfl rfl rfl (by rfl)) ?_
 refine aq1 ?_
 refine wvz (op_cv (r := (n : Nat)) rfl rfl rfl rfl rfl (wrapU64 (by omega) (by omega))) ?_
 refine wkz (mul_ok hn) ?_
 rintro _ sX ⟨eX, rfl⟩
 obtain rfl := eX.symm
 refine aq8 ?_
 refine w_split (i := 23) rfl (fun h23 => ?_) (fun h23 => ?_)
 ·simp at h23
 refine aq3 ?_
 refine wc_condT rfl (fun h26 => ?_) (fun h26 => ?_)
 ·simp at h26; omega
 refine aq1 ?_
 refine wvz (op_cv (r := (n : Nat)) rfl rfl rfl rfl rfl (wrap64 (by unfold In64; omega))) ?_
 refine w_make rfl rfl rfl rfl rfl rfl rfl rfl (by decide) rfl (by simp only [maxBytes]; omega) (by omega) hok ?_
 intro nw s1 hn1 hk1 hc1 hg1
 have hx1 := hx.keep0 hk1
 have hng : nw.gs ≠ [] := by rw [hg1]; exact fun h => by cases h
 refine aq3 ?_
 obtain ⟨s2, e2, hr2, hk2, hc2⟩ := op_copy (args := #[.tmp 31, .tmp 32]) (tys := #[50, 50]) (nt := 48) (m := (32, x) :: (31, nw) :: _) (l := 0) (n' := n) rfl rfl rfl rfl (T := Tt) rfl rfl rfl rfl (.inl ⟨rfl, rfl, by simp⟩) hk1.ok hn1 hng hx1 (by simp)
 refine w_val rfl rfl e2 ?_
 refine aq1 ?_
 refine wc_loop_at (fun j m s' => ∃ (c : Nat) (cs : List (List AV)), j = n - c ∧ c ≤ n ∧ (c = 0 → n = 0) ∧ m = [(7, nw), (8, .int .i64 (c : Nat))] ∧ Keep [] s s' ∧ s'.ctr = s.ctr + 1 ∧ Row s'.h 1 nw cs ∧ cs.length = n ∧ ∀ k, k < c → cs[k]? = some [.int .i64 (-1)]) (n - min 1 n)
  [(7, nw), (8, .int .i64 ((min 1 n : Nat)))] (scn rfl (scn rfl (Sub.nil _))) ⟨min 1 n, _, rfl, by omega, by omega, rfl, hk1.fresh hk2 (by rw [hg1]; exact mem_none _), by omega, hr2, by simp; omega, ?_⟩ ?_
 ·intro k hk
  have : k = 0 := by omega
  subst this
  have : min 1 n = 1 := by omega
  simp [this]
 clear hn1 hk1 hc1 hx1 e2 hr2 hk2 hc2
 rintro j m s3 ⟨c, cs, rfl, hc, hc0, rfl, hK, hctr, hR, hlen, hcs⟩
 have hsn : nw.slen = some n := hR.slen.trans (congrArg some hlen)
 refine aq2 ?_
 refine wvz (op_len rfl rfl rfl rfl rfl (by first | assumption | exact Row.slenF (by assumption) | exact Row.slen (by assumption) | rfl)) ?_
 refine aq1 ?_
 refine wc_condT rfl (fun h37 => ?_) (fun h37 => ?_)
 ·simp at h37
  refine aq0 ?_
  have hcn : cutA nw c n = cutA nw c (c + (n - c)) := by rw [Nat.add_sub_cancel' hc]
  have hRc := hR.cut (Nat.zero_le c) (by omega)
  have hnp : ∀ g j o, nw ≠ .ptr g j o := by
   intro g j o e; rw [e] at hR; exact hR.elim
  refine wc_draw (fun _ => False) (by kernel_rfl) rfl ?_
  refine wdn_val (fun _ _ => rfl) rfl rfl (op_pure rfl) ?_
  refine wdn_val (fun _ _ => rfl) rfl rfl (op_pure rfl) ?_
  refine wdn_val (fun _ _ => rfl) rfl rfl (op_pure rfl) ?_
  refine wdn_val (rd_slice rfl hnp) rfl rfl (op_cut (l := some c) (h := none) (l' := c) (h' := n) rfl (optY_some rfl (natA_cast _ _)) rfl rfl rfl rfl rfl hR rfl hlen hc (by omega)) ?_
  refine wdn_val (fun _ _ => rfl) rfl rfl (op_pure rfl) ?_
  refine wdn_val (fun _ _ => rfl) rfl rfl (op_pure rfl) ?_
  refine wdn_val (rd_slice rfl hnp) rfl rfl (op_cut (l := none) (h := some c) (l' := 0) (h' := c) rfl rfl (optY_some rfl (natA_cast _ _)) rfl rfl rfl rfl hR rfl rfl (Nat.zero_le _) (by omega)) ?_
  obtain ⟨s4, e4, hr4, hk4, hc4⟩ := op_copy (s := s3.bare) (args := #[.tmp 41, .tmp 44]) (tys := #[50, 50]) (nt := 48) (m := (44, cutA nw 0 c) :: (43, .int .i64 (c : Nat)) :: (42, nw) :: (41, cutA nw c n) :: _) (l := c) (n' := n - c) rfl rfl rfl rfl (T := Tt) rfl rfl rfl rfl (.inr hcn) hK.ok hR hng hRc (by omega)
  have hmin : min ((List.drop 0 cs).take (c - 0)).length (n - c) = min c (n - c) := by simp [hlen]
  rw [hmin] at e4 hr4
  refine wdn_mem (fun _ _ => rfl) rfl rfl e4 ?_
  refine wdn_val (fun _ _ => rfl) rfl rfl (op_add rfl rfl (by unfold In64; omega)) ?_
  refine wdn_val (fun _ _ => rfl) rfl rfl (op_pure rfl) ?_
  refine wdn_nil ?_
  refine aq0 ?_
  refine round_n _ [(7, nw), (8, .int .i64 ((c + min c (n - c) : Nat)))] ?_ (scn rfl (scn rfl (Sub.nil _))) ⟨c + min c (n - c), _, rfl, by omega, by omega, rfl, hK.fresh hk4.joined (by rw [hg1]; exact mem_none _), hc4.trans hctr, hr4, by simp; omega, ?_⟩
  ·omega
  ·intro k hk
   by_cases h1 : k < c
   ·rw [gal (by simp; omega), gal (by simp; omega), List.getElem?_take_of_lt h1]
    exact hcs k h1
   ·rw [gal (by simp; omega), gar (by simp; omega)]
    simp only [List.drop_zero, Nat.sub_zero, List.length_take, hlen]
    rw [List.getElem?_take_of_lt (by omega), List.getElem?_take_of_lt (by omega)]
    exact hcs _ (by omega)
 simp at h37
 obtain rfl : c = n := by omega
 refine aq2 ?_
 refine ⟨_, rfl, hK, hctr, hg1, ?_⟩
 have : cs = List.replicate c [.int .i64 (-1)] := by
  refine List.ext_getElem? fun k => ?_
  by_cases h : k < c
  ·rw [hcs k h, List.getElem?_replicate, if_pos h]
  ·rw [List.getElem?_eq_none (by omega), List.getElem?_eq_none (by simp; omega)]
 rw [← this]; exact hR
end Go.Ab
namespace Go.Ab
open Go.Proofs
def nC (n : Nat) : List AV := [.int .i64 n]
structure E1 where
 opn : List Nat
 ends : List Int
 elses : List Int
def step1 (ks : List Int) (i : Nat) (st : E1) : Option E1 :=
 if ks.getD i 0 = 5 ∨ ks.getD i 0 = 7 then some { st with opn := st.opn ++ [i] }
 else if ks.getD i 0 = 6 then match st.opn.getLast? with
  | none => none
  | some o => if ks.getD o 0 ≠ 5 ∨ st.elses.getD o 0 ≥ 0 then none else some { st with elses := st.elses.set o i }
 else if ks.getD i 0 = 8 then match st.opn.getLast? with
  | none => none
  | some o => some { opn := st.opn.dropLast, ends := if st.elses.getD o 0 ≥ 0 then (st.ends.set o i).set (st.elses.getD o 0).toNat i else st.ends.set o i, elses := st.elses }
 else some st
def iter1 (ks : List Int) : Nat → Option E1
 | 0 => some ⟨[], List.replicate ks.length (-1), List.replicate ks.length (-1)⟩
 | i + 1 => (iter1 ks i).bind (step1 ks i)
def ends1 (ks : List Int) : Option (List Int × List Int) := match iter1 ks ks.length with
 | none => none
 | some st => if st.opn = [] then some (st.ends, st.elses) else none
theorem iter1_none {ks : List Int} {i : Nat} (h : iter1 ks i = none) : ∀ j, i ≤ j → iter1 ks j = none := by
 intro j hj
 induction j with
 | zero => rw [show i = 0 by omega] at h; exact h
 | succ j ih =>
  by_cases e : i = j + 1
  ·rw [← e]; exact h
  ·rw [iter1, ih (by omega)]; rfl
theorem ends1_none {ks : List Int} {i : Nat} {st : E1} (h : iter1 ks i = some st) (hi : i < ks.length) (k : step1 ks i st = none) : ends1 ks = none := by
 have : iter1 ks (i + 1) = none := by rw [iter1, h]; exact k
 rw [ends1, iter1_none this ks.length (by omega)]
theorem snoc_of {α : Type} {l : List α} (h : 0 < l.length) : ∃ L x, l = L ++ [x] := by
 rcases List.eq_nil_or_concat l with e | ⟨L, x, e⟩
 ·rw [e] at h; simp at h
 ·exact ⟨L, x, by simpa using e⟩
theorem gD {l : List Int} {i : Nat} {x : Int} (h : l[i]? = some x) : l.getD i 0 = x := by rw [gdd, h]; rfl
section
variable {ks : List Int} {i : Nat} {st : E1} {k : Int} {L0 : List Nat} {o0 : Nat} {k0 x0 : Int}
theorem step1_open (hk : ks[i]? = some k) (h : k = 5 ∨ k = 7) : step1 ks i st = some { st with opn := st.opn ++ [i] } := by
 unfold step1; rw [gD hk, if_pos h]
theorem step1_else_nil (hk : ks[i]? = some k) (h : k = 6) (hn : st.opn = []) : step1 ks i st = none := by
 unfold step1; rw [gD hk, if_neg (by omega), if_pos h, hn]; rfl
theorem step1_else_kind (hk : ks[i]? = some k) (h : k = 6) (ho : st.opn = L0 ++ [o0]) (hk0 : ks[o0]? = some k0) (h5 : ¬ k0 = 5) : step1 ks i st = none := by
 unfold step1; rw [gD hk, if_neg (by omega), if_pos h, ho]; simp [gdd, hk0, h5]
theorem step1_else_two (hk : ks[i]? = some k) (h : k = 6) (ho : st.opn = L0 ++ [o0]) (hx : st.elses[o0]? = some x0) (h0 : 0 ≤ x0) : step1 ks i st = none := by
 unfold step1; rw [gD hk, if_neg (by omega), if_pos h, ho]; simp [gdd, hx, h0]
theorem step1_else (hk : ks[i]? = some k) (h : k = 6) (ho : st.opn = L0 ++ [o0]) (hk0 : ks[o0]? = some 5) (hx : st.elses[o0]? = some x0) (h0 : x0 < 0) : step1 ks i st = some { st with elses := st.elses.set o0 i } := by
 unfold step1; rw [gD hk, if_neg (by omega), if_pos h]
 have : st.opn.getLast? = some o0 := by rw [ho]; simp
 rw [this]; simp only; rw [gD hk0, gD hx, if_neg (by omega)]
theorem step1_end_nil (hk : ks[i]? = some k) (h : k = 8) (hn : st.opn = []) : step1 ks i st = none := by
 unfold step1; rw [gD hk, if_neg (by omega), if_neg (by omega), if_pos h, hn]; rfl
theorem step1_end1 (hk : ks[i]? = some k) (h : k = 8) (ho : st.opn = L0 ++ [o0]) (hx : st.elses[o0]? = some x0) (h0 : x0 < 0) : step1 ks i st = some { opn := L0, ends := st.ends.set o0 i, elses := st.elses } := by
 unfold step1; rw [gD hk, if_neg (by omega), if_neg (by omega), if_pos h]
 have : st.opn.getLast? = some o0 := by rw [ho]; simp
 rw [this]; simp only; rw [gD hx, if_neg (by omega), ho, List.dropLast_concat]
theorem step1_end2 (hk : ks[i]? = some k) (h : k = 8) (ho : st.opn = L0 ++ [o0]) (hx : st.elses[o0]? = some x0) (h0 : 0 ≤ x0) : step1 ks i st = some { opn := L0, ends := (st.ends.set o0 i).set x0.toNat i, elses := st.elses } := by
 unfold step1; rw [gD hk, if_neg (by omega), if_neg (by omega), if_pos h]
 have : st.opn.getLast? = some o0 := by rw [ho]; simp
 rw [this]; simp only; rw [gD hx, if_pos h0, ho, List.dropLast_concat]
theorem step1_else_none (hk : ks[i]? = some k) (h7 : ¬ k = 7) (h6 : ¬ k = 6) (h8 : ¬ k = 8) (h5 : ¬ k = 5) : step1 ks i st = some st := by
 unfold step1; rw [gD hk, if_neg (by omega), if_neg (by omega), if_neg (by omega)]
end
structure EI (s : St) (ga gb n : Nat) (e l o : AV) (st : E1) (i : Nat) (s' : St) : Prop where
 ok0 : s.Ok
 K : Keep [] s s'
 E : Row s'.h 1 e (st.ends.map iC)
 L : Row s'.h 1 l (st.elses.map iC)
 O : Row s'.h 1 o (st.opn.map nC)
 on : o.gs = [] → o = .nils
 og : ∀ g ∈ o.gs, s.ctr ≤ g ∧ g ≠ ga ∧ g ≠ gb
 el : st.ends.length = n
 ll : st.elses.length = n
 ob : ∀ k ∈ st.opn, k < n
 lb : ∀ k ∈ st.elses, k < (n : Int)
 ol : st.opn.length ≤ i
section
variable {s s1 s2 : St} {ga gb n i : Nat} {e l o : AV} {st : E1}
theorem EI.keep0 (h : EI s ga gb n e l o st i s1) (k : Keep [] s1 s2) : EI s ga gb n e l o st i s2 :=
 { h with K := h.K.two k, E := h.E.keep0 k, L := h.L.keep0 k, O := h.O.keep0 k }
theorem EI.next (h : EI s ga gb n e l o st i s1) : EI s ga gb n e l o st (i + 1) s1 := { h with ol := by have := h.ol; omega }
theorem EI.push (h : EI s ga gb n e l o st i s1) {i0 : Nat} (hi : i0 < n) (hii : i ≤ i0 + 1) {o' : AV} (ho : Row s2.h 1 o' ((st.opn ++ [i0]).map nC)) (k : Keep o.gs s1 s2) (hg : o'.gs = o.gs ∨ o'.gs = [s1.ctr]) (hn : o'.gs = [] → o' = .nils) (hga : e.gs = [ga] := by assumption) (hgb : l.gs = [gb] := by assumption) :
  EI s ga gb n e l o' { st with opn := st.opn ++ [i0] } (i + 1) s2 where
 ok0 := h.ok0
 K := h.K.fresh k fun g hg' => by
  exact (h.og g hg').1
 E := h.E.keep k fun g hg' hc => by rw [hga] at hg'; exact (h.og g hc).2.1 (msi.1 hg')
 L := h.L.keep k fun g hg' hc => by rw [hgb] at hg'; exact (h.og g hc).2.2 (msi.1 hg')
 O := ho
 on := hn
 og := by
  intro g hg'
  rcases hg with e1 | e1
  ·rw [e1] at hg'; exact h.og g hg'
  ·rw [e1] at hg'
   have e2 := msi.1 hg'
   have l1 := h.E.lt h.K.ok ga (by rw [hga]; exact mcs ..)
   have l2 := h.L.lt h.K.ok gb (by rw [hgb]; exact mcs ..)
   have := h.K.ctr
   omega
 el := h.el
 ll := h.ll
 ob := fun k hk => by
  rcases List.mem_append.1 hk with hk | hk
  ·exact h.ob k hk
  ·rw [msi.1 hk]; exact hi
 lb := h.lb
 ol := by have := h.ol; simp; omega
theorem EI.setL (h : EI s ga gb n e l o st i s1) {n0 : Nat} {x : Int} (hgb : l.gs = [gb]) (hba : gb ≠ ga) (hsb : s.ctr ≤ gb) (hi : x < (n : Int)) (hL : Row s2.h 1 l ((st.elses.set n0 x).map iC)) (k : Keep l.gs s1 s2) (hga : e.gs = [ga] := by assumption) :
  EI s ga gb n e l o { st with elses := st.elses.set n0 x } i s2 where
 ok0 := h.ok0
 K := h.K.fresh k fun g hg' => by rw [hgb] at hg'; rw [msi.1 hg']; exact hsb
 E := h.E.keep k fun g hg' hc => by rw [hga] at hg'; rw [hgb] at hc; exact hba ((msi.1 hc).symm.trans (msi.1 hg'))
 L := hL
 O := h.O.keep k fun g hg' hc => by rw [hgb] at hc; exact (h.og g hg').2.2 (msi.1 hc)
 on := h.on
 og := h.og
 el := h.el
 ll := by simp [h.ll]
 ob := h.ob
 lb := fun k hk => by
  rcases List.mem_or_eq_of_mem_set hk with hk | rfl
  ·exact h.lb k hk
  ·exact hi
 ol := h.ol
theorem EI.setE (h : EI s ga gb n e l o st i s1) {n0 : Nat} {x : Int} (hga : e.gs = [ga]) (hab : ga ≠ gb) (hsa : s.ctr ≤ ga) (hE : Row s2.h 1 e ((st.ends.set n0 x).map iC)) (k : Keep e.gs s1 s2) (hgb : l.gs = [gb] := by assumption) :
  EI s ga gb n e l o { st with ends := st.ends.set n0 x } i s2 where
 ok0 := h.ok0
 K := h.K.fresh k fun g hg' => by rw [hga] at hg'; rw [msi.1 hg']; exact hsa
 E := hE
 L := h.L.keep k fun g hg' hc => by rw [hgb] at hg'; rw [hga] at hc; exact hab ((msi.1 hc).symm.trans (msi.1 hg'))
 O := h.O.keep k fun g hg' hc => by rw [hga] at hc; exact (h.og g hg').2.1 (msi.1 hc)
 on := h.on
 og := h.og
 el := by simp [h.el]
 ll := h.ll
 ob := h.ob
 lb := h.lb
 ol := h.ol
theorem EI.pop (h : EI s ga gb n e l o st i s1) {L0 : List Nat} {o0 : Nat} (ho : st.opn = L0 ++ [o0]) : EI s ga gb n e l (cutA o 0 L0.length) { st with opn := L0 } i s1 where
 ok0 := h.ok0
 K := h.K
 E := h.E
 L := h.L
 O := by
  have := h.O.cutF (h := L0.length) (by rw [ho]; simp)
  rw [ho, List.take_left] at this
  exact this
 on := fun hg => by rw [cutA_gs] at hg; rw [h.on hg]; rfl
 og := fun g hg => by rw [cutA_gs] at hg; exact h.og g hg
 el := h.el
 ll := h.ll
 ob := fun k hk => h.ob k (by rw [ho]; exact List.mem_append_left _ hk)
 lb := h.lb
 ol := by have := h.ol; rw [ho] at this; simp at this; simp only; omega
end
def KindsR (h : Tr Grp) (v : AV) (ks : List Int) : Prop := ∃ css, Row h 4 v css ∧ css.length = ks.length ∧ ∀ (i : Nat) (k : Int) (c : List AV), ks[i]? = some k → css[i]? = some c → ∃ a b d, c = [.int .i64 k, a, b, d]
def EndsOut (r : Option (List Int × List Int)) (v : AV) (h : Tr Grp) : Prop := match r with
 | none => v = .tup [.nils, .nils, .bool false]
 | some (E, L) => ∃ e l, v = .tup [e, l, .bool true] ∧ Row h 1 e (E.map iC) ∧ Row h 1 l (L.map iC) ∧ E.length ≤ 2097152 ∧ L.length ≤ 2097152
set_option maxRecDepth 10000 in
theorem ends_ok {s : St} {v : AV} {ks : List Int} (hok : s.Ok) (hl : ks.length ≤ 2097152) (hv : KindsR s.h v ks) :
  CallS Tryz.prog Tt Kt 14 [v] s (fun r s' => Keep [] s s' ∧ EndsOut (ends1 ks) r s'.h) := by
 obtain ⟨css, hrv, hlv, hV⟩ := hv
 have hsv : v.slen = some ks.length := hrv.slen.trans (congrArg some hlv)
 refine call_of (fn := Tryz.f14) (nt := 108) Tryz.func14 rfl rfl rfl ?_
 refine aq3 ?_
 refine w_lit1 (c := [.int .i64 (-1)]) rfl rfl rfl rfl rfl rfl rfl (by decide) (by decide) rfl rfl rfl hok ?_
 rintro x1 s1 hx1 hk1 hc1 -
 have hK := (Keep.refl hok).two hk1
 refine aq1 ?_
 refine wvz (op_len rfl rfl rfl rfl rfl (by assumption)) ?_
 refine w_call rfl rfl (op_call rfl rfl rfl rfl) (repeat_ok hK.ok (by omega) hx1) ?_
 rintro e s2 ⟨hk2, hc2, hga, he⟩
 have hK := hK.two hk2
 refine w_lit1 (c := [.int .i64 (-1)]) rfl rfl rfl rfl rfl rfl rfl (by decide) (by decide) rfl rfl rfl hK.ok ?_
 rintro x3 s3 hx3 hk3 hc3 -
 have hK := hK.two hk3
 have he := he.keep0 hk3
 refine aq1 ?_
 refine wvz (op_len rfl rfl rfl rfl rfl (by assumption)) ?_
 refine w_call rfl rfl (op_call rfl rfl rfl rfl) (repeat_ok hK.ok (by omega) hx3) ?_
 rintro l s4 ⟨hk4, hc4, hgb, hl⟩
 have hK := hK.two hk4
 have he := he.keep0 hk4
 generalize hga' : s1.ctr = ga at hga
 generalize hgb' : s3.ctr = gb at hgb
 have hab : ga ≠ gb := by omega
 have hsa : s.ctr ≤ ga := by omega
 have hsb : s.ctr ≤ gb := by omega
 have hI : EI s ga gb ks.length e l .nils ⟨[], List.replicate ks.length (-1), List.replicate ks.length (-1)⟩ 0 s4 :=
  { ok0 := hok, K := hK, E := by rw [List.map_replicate]; exact he, L := by rw [List.map_replicate]; exact hl, O := rfl, on := fun _ => rfl, og := (fun g hg => by cases hg),
    el := by simp, ll := by simp, ob := (fun k hk => by cases hk), lb := (fun k hk => by rw [List.eq_of_mem_replicate hk]; omega), ol := by simp }
 clear hx1 hk1 hc1 he hk2 hc2 hx3 hk3 hc3 hl hk4 hc4 hK hga' hgb'
 refine aq4 ?_
 refine wvz (op_len rfl rfl rfl rfl rfl (by assumption)) ?_
 refine aq1 ?_
 refine wc_loop_at (fun j m s1 => ∃ (i : Nat) (o : AV) (st : E1), j = ks.length - i ∧ i ≤ ks.length ∧ m = [(0, v), (5, e), (6, l), (7, o), (21, v), (22, .int .i64 (ks.length : Nat)), (23, .int .i64 (i : Nat))] ∧ iter1 ks i = some st ∧ EI s ga gb ks.length e l o st i s1) ks.length
  [(0, v), (5, e), (6, l), (7, .nils), (21, v), (22, .int .i64 (ks.length : Nat)), (23, .int .i64 ((0 : Nat) : Int))] (scn rfl (scn rfl (scn rfl (scn rfl (scn rfl (scn rfl (scn rfl (Sub.nil _)))))))) ⟨0, .nils, _, by simp, by simp, rfl, rfl, hI⟩ ?_
 clear hI
 rintro j m s1 ⟨i, o, st, rfl, hi, rfl, hit, hI⟩
 have hK := hI.K
 refine aq1 ?_
 refine wc_condT rfl (fun h24 => ?_) (fun h24 => ?_)
 ·simp at h24
  refine aq0 ?_
  obtain ⟨k, hk⟩ : ∃ x, ks[i]? = some x := ⟨_, gee h24⟩
  obtain ⟨c0, hc0⟩ : ∃ c, css[i]? = some c := ⟨_, gee (by omega)⟩
  obtain ⟨q1, q2, q3, rfl⟩ := hV i k c0 hk hc0
  have hz := (hrv.cells _ (mog hc0)).2
  refine aq1 ?_
  refine wvz (op_idx rfl rfl (natA_cast _ _) rfl rfl rfl rfl (Row.keep0 (by assumption) hK) (by omega)) ?_
  refine wvz (op_load rfl rfl (Row.pt (Row.keep0 (by assumption) hK) (by assumption)) rfl) ?_
  refine w_alloc rfl rfl rfl rfl hK.ok ?_
  intro s2 hp hk2 hc2
  have hK := hK.two hk2
  refine aq1 ?_
  refine w_store_all rfl rfl rfl rfl rfl (by rfl) hz hK.ok hp (by simp [AV.gs]) ?_
  intro s3 hp' hk3 hc3
  have hp : Pt s3.h (.ptr s1.ctr 0 0) [.int .i64 k, q1, q2, q3] := hp'
  have hI := hI.keep0 (hk2.fresh hk3 (mem_none _))
  clear hk2 hk3 hp'
  have hK := hI.K
  have hE := hI.E
  have hL := hI.L
  have hO := hI.O
  have hol := hI.ol
  refine aq0 ?_
  refine wvz (op_fld rfl rfl rfl rfl (by decide) (by assumption) (nl rfl)) ?_
  refine wvz (op_load rfl rfl (by assumption) rfl) ?_
  refine w_nil ?_
  refine then_n ?_
  refine wc_cut (fun m' s' => ∃ (o' : AV) (st' : E1), Sub [(0, v), (5, e), (6, l), (7, o'), (21, v), (22, .int .i64 (ks.length : Nat)), (23, .int .i64 (i : Nat))] m' ∧ step1 ks i st = some st' ∧ EI s ga gb ks.length e l o' st' (i + 1) s') ?_ ?_
  ·refine aq2 ?_
   refine wc_condT rfl (fun h30 => ?_) (fun h30 => ?_)
   ·simp at h30
    refine aq0 ?_
    refine wc_cond_t rfl ?_
    refine aq2 ?_
    refine w_lit1 (c := nC i) rfl rfl rfl rfl rfl rfl rfl (by decide) (by decide) rfl rfl rfl hK.ok ?_
    rintro x4 s4 hx4 hk4 hc4 -
    have hI := hI.keep0 hk4
    have hK := hI.K
    have hE := hI.E
    have hL := hI.L
    have hO := hI.O
    have hol := hI.ol
    refine w_append (ns := [i].map nC) rfl rfl rfl rfl rfl rfl rfl rfl rfl (by decide) hK.ok hO hI.on hx4 (by simp only [lmm, lnn, laa, lcc, List.length_singleton, maxBytes]; have := hI.ol; omega) (by simp only [lmm, lnn, laa, lcc, List.length_singleton, maxBytes]; have := hI.ol; omega) ?_
    rintro o5 s5 ho5 hk5 - hg5 hn5 -
    have hI := hI.push (i0 := i) (by omega) (by omega) (by rw [← List.map_append] at ho5; exact ho5) hk5 hg5 hn5
    refine aq1 ?_
    refine cut_n ?_
    exact ⟨_, _, (scn rfl (scn rfl (scn rfl (scn rfl (scn rfl (scn rfl (scn rfl (Sub.nil _)))))))), step1_open hk (.inl h30), hI⟩
   simp at h30
   refine aq2 ?_
   refine wc_condT rfl (fun h30 => ?_) (fun h30 => ?_)
   ·simp at h30
    refine aq2 ?_
    refine w_lit1 (c := nC i) rfl rfl rfl rfl rfl rfl rfl (by decide) (by decide) rfl rfl rfl hK.ok ?_
    rintro x4 s4 hx4 hk4 hc4 -
    have hI := hI.keep0 hk4
    have hK := hI.K
    have hE := hI.E
    have hL := hI.L
    have hO := hI.O
    have hol := hI.ol
    refine w_append (ns := [i].map nC) rfl rfl rfl rfl rfl rfl rfl rfl rfl (by decide) hK.ok hO hI.on hx4 (by simp only [lmm, lnn, laa, lcc, List.length_singleton, maxBytes]; have := hI.ol; omega) (by simp only [lmm, lnn, laa, lcc, List.length_singleton, maxBytes]; have := hI.ol; omega) ?_
    rintro o5 s5 ho5 hk5 - hg5 hn5 -
    have hI := hI.push (i0 := i) (by omega) (by omega) (by rw [← List.map_append] at ho5; exact ho5) hk5 hg5 hn5
    refine aq1 ?_
    refine cut_n ?_
    exact ⟨_, _, (scn rfl (scn rfl (scn rfl (scn rfl (scn rfl (scn rfl (scn rfl (Sub.nil _)))))))), step1_open hk (.inr h30), hI⟩
   simp at h30
   refine aq2 ?_
   refine wc_condT rfl (fun h37 => ?_) (fun h37 => ?_)
   ·simp at h37
    refine aq1 ?_
    refine wvz (op_len rfl rfl rfl rfl rfl (Row.slenF (by assumption))) ?_
    refine wvz (op_sub rfl rfl (by unfold In64; omega)) ?_
    refine aq4 ?_
    refine w_split (i := 44) rfl (fun h44 => ?_) (fun h44 => ?_)
    ·simp at h44
     have hno : st.opn = [] := List.eq_nil_of_length_eq_zero (by omega)
     refine aq12 ?_
     refine aq8 ?_
     refine wc_cond_t rfl ?_
     refine aq3 ?_
     refine ⟨_, rfl, hK, ?_⟩
     rw [ends1_none hit h24 (step1_else_nil hk h37 hno)]
     rfl
    simp at h44
    obtain ⟨L0, o0, hop⟩ := snoc_of (l := st.opn) (by omega)
    have hln : st.opn.length = L0.length + 1 := by rw [hop]; simp
    have hix : natA (.int .i64 ((st.opn.length : Int) - 1)) = some L0.length := by
     rw [hln]; have : (((L0.length + 1 : Nat) : Int) - 1) = ((L0.length : Nat) : Int) := by omega
     rw [this]; exact natA_cast _ _
    have hgt : st.opn[L0.length]? = some o0 := by rw [hop]; simp
    have ho0 : o0 < ks.length := hI.ob o0 (mog hgt)
    have hel := hI.el
    have hll := hI.ll
    obtain ⟨x0, hx0⟩ : ∃ x, st.elses[o0]? = some x := ⟨_, gee (by omega)⟩
    have hx0n : x0 < (ks.length : Int) := hI.lb x0 (mog hx0)
    obtain ⟨k0, hk0⟩ : ∃ x, ks[o0]? = some x := ⟨_, gee ho0⟩
    obtain ⟨c1, hc1⟩ : ∃ c, css[o0]? = some c := ⟨_, gee (by omega)⟩
    obtain ⟨w1, w2, w3, rfl⟩ := hV o0 k0 c1 hk0 hc1
    refine aq3 ?_
    refine wvz (op_idxF rfl rfl (by assumption) rfl rfl rfl rfl (by assumption) (by omega)) ?_
    refine wvz (op_load rfl rfl (Row.mk_pt (by assumption) (by assumption)) rfl) ?_
    refine wvz (op_idx rfl rfl (natA_cast _ _) rfl rfl rfl rfl (Row.keep0 (by assumption) hK) (by omega)) ?_
    refine wvz (op_fld rfl rfl rfl rfl (by decide) (Row.pt (Row.keep0 (by assumption) hK) (by assumption)) (nl rfl)) ?_
    refine wvz (op_load rfl rfl (Pt.fld (Row.pt (Row.keep0 (by assumption) hK) (by assumption)) _ (nl rfl)) rfl) ?_
    refine aq3 ?_
    refine w_split (i := 55) rfl (fun h55 => ?_) (fun h55 => ?_)
    ·simp at h55
     refine aq9 ?_
     refine wc_cond_t rfl ?_
     refine aq3 ?_
     refine ⟨_, rfl, hK, ?_⟩
     rw [ends1_none hit h24 (step1_else_kind hk h37 hop hk0 h55)]
     rfl
    simp at h55
    refine aq3 ?_
    refine wvz (op_idxF rfl rfl (by assumption) rfl rfl rfl rfl (by assumption) (by omega)) ?_
    refine wvz (op_load rfl rfl (Row.mk_pt (by assumption) (by assumption)) rfl) ?_
    refine wvz (op_idxF rfl rfl (natA_cast _ _) rfl rfl rfl rfl (by assumption) (by omega)) ?_
    refine wvz (op_load rfl rfl (Row.mk_pt (by assumption) (by assumption)) rfl) ?_
    refine aq2 ?_
    refine wc_condT rfl (fun h64 => ?_) (fun h64 => ?_)
    ·simp at h64
     refine aq3 ?_
     refine ⟨_, rfl, hK, ?_⟩
     rw [ends1_none hit h24 (step1_else_two hk h37 hop hx0 h64)]
     rfl
    simp at h64
    refine aq3 ?_
    refine wvz (op_idxF rfl rfl (by assumption) rfl rfl rfl rfl (by assumption) (by omega)) ?_
    refine wvz (op_load rfl rfl (Row.mk_pt (by assumption) (by assumption)) rfl) ?_
    refine aq1 ?_
    refine wvz (op_idxF rfl rfl (natA_cast _ _) rfl rfl rfl rfl (by assumption) (by omega)) ?_
    refine w_store_rowF (f := iC) (xs := st.elses) (n := o0) (y := i) rfl rfl rfl rfl rfl rfl rfl rfl hI.K.ok hL (by rw [hgb]; exact fun h => by cases h) (by omega) ?_
    intro s5 hL5 hk5 hc5
    have hI := hI.setL hgb hab.symm hsb (by omega) hL5 hk5
    clear hk5
    have hK := hI.K
    have hE := hI.E
    have hL := hI.L
    have hO := hI.O
    have hol := hI.ol
    refine aq0 ?_
    refine cut_n ?_
    exact ⟨_, _, (scn rfl (scn rfl (scn rfl (scn rfl (scn rfl (scn rfl (scn rfl (Sub.nil _)))))))), step1_else hk h37 hop (h55 ▸ hk0) hx0 h64, hI.next⟩
   simp at h37
   refine aq2 ?_
   refine wc_condT rfl (fun h72 => ?_) (fun h72 => ?_)
   ·simp at h72
    refine aq1 ?_
    refine wvz (op_len rfl rfl rfl rfl rfl (Row.slenF (by assumption))) ?_
    refine wvz (op_sub rfl rfl (by unfold In64; omega)) ?_
    refine aq3 ?_
    refine wc_condT rfl (fun h78 => ?_) (fun h78 => ?_)
    ·simp at h78
     refine aq3 ?_
     refine ⟨_, rfl, hK, ?_⟩
     rw [ends1_none hit h24 (step1_end_nil hk h72 (List.eq_nil_of_length_eq_zero (by omega)))]
     rfl
    simp at h78
    obtain ⟨L0, o0, hop⟩ := snoc_of (l := st.opn) (by omega)
    have hln : st.opn.length = L0.length + 1 := by rw [hop]; simp
    have hix : natA (.int .i64 ((st.opn.length : Int) - 1)) = some L0.length := by
     rw [hln]; have : (((L0.length + 1 : Nat) : Int) - 1) = ((L0.length : Nat) : Int) := by omega
     rw [this]; exact natA_cast _ _
    have hgt : st.opn[L0.length]? = some o0 := by rw [hop]; simp
    have ho0 : o0 < ks.length := hI.ob o0 (mog hgt)
    have hel := hI.el
    have hll := hI.ll
    obtain ⟨x0, hx0⟩ : ∃ x, st.elses[o0]? = some x := ⟨_, gee (by omega)⟩
    have hx0n : x0 < (ks.length : Int) := hI.lb x0 (mog hx0)
    refine aq3 ?_
    refine wvz (op_idxF rfl rfl (by assumption) rfl rfl rfl rfl (by assumption) (by omega)) ?_
    refine wvz (op_load rfl rfl (Row.mk_pt (by assumption) (by assumption)) rfl) ?_
    refine aq1 ?_
    refine wvz (op_idxF rfl rfl (natA_cast _ _) rfl rfl rfl rfl (by assumption) (by omega)) ?_
    refine w_store_rowF (f := iC) (xs := st.ends) (n := o0) (y := i) rfl rfl rfl rfl rfl rfl rfl rfl hI.K.ok hE (by rw [hga]; exact fun h => by cases h) (by omega) ?_
    intro s5 hE5 hk5 hc5
    have hI := hI.setE hga hab hsa hE5 hk5
    clear hk5
    have hK := hI.K
    have hE := hI.E
    have hL := hI.L
    have hO := hI.O
    have hol := hI.ol
    have hel := hI.el
    simp only at hel
    refine aq3 ?_
    refine wvz (op_idxF rfl rfl (by assumption) rfl rfl rfl rfl (by assumption) (by (simp; omega))) ?_
    refine wvz (op_load rfl rfl (Row.mk_pt (by assumption) (by assumption)) rfl) ?_
    refine wvz (op_idxF rfl rfl (natA_cast _ _) rfl rfl rfl rfl (by assumption) (by (simp; omega))) ?_
    refine wvz (op_load rfl rfl (Row.mk_pt (by assumption) (by assumption)) rfl) ?_
    refine aq3 ?_
    refine wc_condT rfl (fun h94 => ?_) (fun h94 => ?_)
    ·simp at h94
     refine aq3 ?_
     refine wvz (op_idxF rfl rfl (natA_toNat (by omega)) rfl rfl rfl rfl (by assumption) (by (simp; omega))) ?_
     refine w_store_rowF (f := iC) (xs := (st.ends.set o0 i)) (n := x0.toNat) (y := i) rfl rfl rfl rfl rfl rfl rfl rfl hI.K.ok hE (by rw [hga]; exact fun h => by cases h) (by omega) ?_
     intro s6 hE6 hk6 hc6
     have hI := hI.setE hga hab hsa hE6 hk6
     clear hk6
     have hK := hI.K
     have hE := hI.E
     have hL := hI.L
     have hO := hI.O
     have hol := hI.ol
     refine aq2 ?_
     refine wvz (op_cut (l := none) (h := some L0.length) (l' := 0) (h' := L0.length) rfl rfl (optY_some rfl hix) rfl rfl rfl rfl hO rfl rfl (Nat.zero_le _) (by simp; omega)) ?_
     have hI := hI.pop hop
     refine aq1 ?_
     refine cut_n ?_
     exact ⟨_, _, (scn rfl (scn rfl (scn rfl (scn rfl (scn rfl (scn rfl (scn rfl (Sub.nil _)))))))), step1_end2 hk h72 hop hx0 h94, hI.next⟩
    simp at h94
    refine aq2 ?_
    refine wvz (op_cut (l := none) (h := some L0.length) (l' := 0) (h' := L0.length) rfl rfl (optY_some rfl hix) rfl rfl rfl rfl hO rfl rfl (Nat.zero_le _) (by simp; omega)) ?_
    have hI := hI.pop hop
    refine aq1 ?_
    refine cut_n ?_
    exact ⟨_, _, (scn rfl (scn rfl (scn rfl (scn rfl (scn rfl (scn rfl (scn rfl (Sub.nil _)))))))), step1_end1 hk h72 hop hx0 h94, hI.next⟩
   simp at h72
   refine aq0 ?_
   refine cut_n ?_
   exact ⟨_, _, (scn rfl (scn rfl (scn rfl (scn rfl (scn rfl (scn rfl (scn rfl (Sub.nil _)))))))), step1_else_none hk (by omega) (by omega) (by omega) (by omega), hI.next⟩
  rintro m s9 ⟨o', st', hsub, hst, hI⟩
  refine out_n ?_
  refine then_n ?_
  refine wc_sub hsub ?_
  refine aq0 ?_
  refine wad ?_
  refine aq1 ?_
  exact rn ⟨i + 1, o', st', rfl, by omega, rfl, by rw [iter1, hit]; exact hst, hI⟩
 simp at h24
 refine aq0 ?_
 obtain rfl : i = ks.length := by omega
 have hO := hI.O
 refine aq1 ?_
 refine wvz (op_len rfl rfl rfl rfl rfl (Row.slenF (by assumption))) ?_
 refine aq1 ?_
 refine wc_condT rfl (fun h105 => ?_) (fun h105 => ?_)
 ·simp at h105
  refine aq3 ?_
  refine ⟨_, rfl, hK, ?_⟩
  rw [ends1, hit]
  have hne : st.opn ≠ [] := fun h => by simp [h] at h105
  simp only [if_neg hne]
  rfl
 simp at h105
 refine aq5 ?_
 refine ⟨_, rfl, hK, ?_⟩
 rw [ends1, hit]
 have hnil : st.opn = [] := by first | exact h105 | simpa using h105 | exact List.eq_nil_of_length_eq_zero (by omega)
 simp only [if_pos hnil]
 exact ⟨_, _, rfl, hI.E, hI.L, by have := hI.el; omega, by have := hI.ll; omega⟩
end Go.Ab
namespace Go.Ab
open Go.Proofs
section
variable {ks : List Int} {i : Nat} {st0 st : E1} {k : Int} {L0 : List Nat} {o0 : Nat} {k0 x0 : Int}
end
end Go.Ab
namespace Go.Ab
def rr (L : List Int) (o : Nat) : Nat := if 0 ≤ L.getD o 0 then (L.getD o 0).toNat else o
structure Rel (ks : List Int) (i : Nat) (a b : E1) : Prop where
 l1 : a.ends.length = ks.length
 l2 : a.elses.length = ks.length
 l3 : b.ends.length = ks.length
 l4 : b.elses.length = ks.length
 op : b.opn = a.opn.map (rr a.elses)
 lt : ∀ o ∈ a.opn, o < i
 nd : a.opn.Nodup
 kd : ∀ o ∈ a.opn, ks.getD o 0 = 5 ∨ ks.getD o 0 = 7
 le : ∀ j, j < i → b.elses.getD j 0 = a.elses.getD j 0
 lg : ∀ j, i ≤ j → j < ks.length → a.elses.getD j 0 = -1
 ev : ∀ j, j < i → 0 ≤ a.elses.getD j 0 → (a.elses.getD j 0).toNat < i ∧ ks.getD (a.elses.getD j 0).toNat 0 = 6 ∧ ks.getD j 0 = 5
 ij : ∀ j j', j < i → j' < i → 0 ≤ a.elses.getD j 0 → a.elses.getD j 0 = a.elses.getD j' 0 → j = j'
 en : ∀ j, j < i → a.ends.getD j 0 = b.ends.getD (rr a.elses j) 0
 eg : ∀ j, i ≤ j → j < ks.length → a.ends.getD j 0 = -1
 eo : ∀ o ∈ a.opn, a.ends.getD o 0 = -1
section
variable {ks : List Int} {i : Nat} {a b : E1}
end
end Go.Ab
namespace Go.Ab
open Go.Proofs
theorem KindsR.of {h : Tr Grp} {v : AV} {xs : List StmtL} (k : RowR h 4 StmtR v xs) : KindsR h v (xs.map StmtL.kind) := by
 obtain ⟨css, hr, hl, hx⟩ := k
 refine ⟨css, hr, by rw [hl, lmm], fun i k c h1 h2 => ?_⟩
 rw [gmm] at h1
 cases hxi : xs[i]? with
 | none => rw [hxi] at h1; cases h1
 | some x =>
  rw [hxi] at h1
  cases h1
  obtain ⟨vt, ve, rfl, -⟩ := hx i x c hxi h2
  exact ⟨_, _, _, rfl⟩
theorem EndsOut.shape {r : Option (List Int × List Int)} {v : AV} {h : Tr Grp} (k : EndsOut r v h) : ∃ a b, v = .tup [a, b, .bool r.isSome] ∧ Row h 1 a (((r.map Prod.fst).getD []).map iC) ∧ Row h 1 b (((r.map Prod.snd).getD []).map iC) ∧ ((r.map Prod.fst).getD []).length ≤ 2097152 ∧ ((r.map Prod.snd).getD []).length ≤ 2097152 := by
 cases r with
 | none => exact ⟨.nils, .nils, k, rfl, rfl, by simp, by simp⟩
 | some p =>
  obtain ⟨E, L⟩ := p
  obtain ⟨e, l, h1, h2, h3, h4, h5⟩ := k
  exact ⟨e, l, h1, h2, h3, h4, h5⟩
theorem StmtR.keep0 {s s' : St} {x : StmtL} {c : List AV} (k : StmtR s.h x c) (h : Keep [] s s') : StmtR s'.h x c := by
 obtain ⟨vt, ve, e, h1, h2⟩ := k
 exact ⟨vt, ve, e, h1.keep0 h, h2.keep0 (fun ⟨v, e, hv⟩ h => ⟨v, e, hv.keep0 h⟩) h⟩
end Go.Ab
namespace Go.Ab
structure ArrD where
 name : ByteArray
 len : Int
 label : Int
def adC (d : ArrD) : List AV := [.str d.name, .int .i64 d.len, .int .u64 d.label]
structure FunL where
 name : ByteArray
 level : Int
 params : List DeclL
 results : List Int
 vars : List DeclL
 body : List StmtL
structure SrcL where
 principals : List ByteArray
 globals : List DeclL
 arrays : List ArrD
 channels : List DeclL
 funcs : List FunL
def FunL.small (x : FunL) : Prop := x.params.length ≤ 2097152 ∧ x.results.length ≤ 2097152 ∧ x.vars.length ≤ 2097152 ∧ x.body.length ≤ 2097152 ∧ ∀ y ∈ x.body, y.small
def SrcL.small (x : SrcL) : Prop := x.principals.length ≤ 2097152 ∧ x.globals.length ≤ 2097152 ∧ x.arrays.length ≤ 2097152 ∧ x.channels.length ≤ 2097152 ∧ x.funcs.length ≤ 2097152 ∧ ∀ y ∈ x.funcs, y.small
def mkD : List AV := [.str markB, .int .u64 0]
def mkS : List AV := [.int .i64 (-71), .str ByteArray.empty, .nils, .nils]
def mkA : List AV := [.str markB, .int .i64 0, .int .u64 0]
def mkU : List AV := [.str markB, .int .u64 0, .nils, .nils, .nils, .nils]
def FunR (h : Tr Grp) (x : FunL) (c : List AV) : Prop := ∃ vp vr vv vb, c = [.str x.name, .int .u64 x.level, vp, vr, vv, vb] ∧ Row h 2 vp (x.params.map dC) ∧ Row h 1 vr (x.results.map lC) ∧ Row h 2 vv (x.vars.map dC) ∧ RowR h 4 StmtR vb x.body
def FunLF : RP FunL := fun h F x c => ∃ vp vr vv vb, c = [.str x.name, .int .u64 x.level, vp, vr, vv, vb] ∧ LentF h F 2 dC mkD vp x.params ∧ LentF h F 1 lC [.int .u64 7171] vr x.results ∧ LentF h F 2 dC mkD vv x.vars ∧ LentRF h F 4 StmtLF mkS vb x.body
def SrcR (h : Tr Grp) (x : SrcL) (c : List AV) : Prop := ∃ vp vg va vc vf, c = [vp, vg, va, vc, vf] ∧ Row h 1 vp (x.principals.map sC) ∧ Row h 2 vg (x.globals.map dC) ∧ Row h 3 va (x.arrays.map adC) ∧ Row h 2 vc (x.channels.map dC) ∧ RowR h 6 FunR vf x.funcs
def SrcLF : RP SrcL := fun h F x c => ∃ vp vg va vc vf, c = [vp, vg, va, vc, vf] ∧ LentF h F 1 sC [.str markB] vp x.principals ∧ LentF h F 2 dC mkD vg x.globals ∧ LentF h F 3 adC mkA va x.arrays ∧ LentF h F 2 dC mkD vc x.channels ∧ LentRF h F 6 FunLF mkU vf x.funcs
theorem good_fun : Good FunLF where
 keep := fun ⟨a, b, c, d, e, h1, h2, h3, h4⟩ h hY => ⟨a, b, c, d, e, h1.keep h hY, h2.keep h hY, h3.keep h hY, h4.keep good_stmt h hY⟩
 mono := fun ⟨a, b, c, d, e, h1, h2, h3, h4⟩ h => ⟨a, b, c, d, e, h1.mono h, h2.mono h, h3.mono h, h4.mono good_stmt h⟩
end Go.Ab
namespace Go.Ab
def eqS (a b : ByteArray) : Bool := a == b
structure Flt where
 err : Int
 f : Int
 at_ : Int
def fltC (x : Flt) : List AV := [.int .i64 x.err, .int .i64 x.f, .int .i64 x.at_]
def firstF : List (Bool × Flt) → Flt
 | [] => ⟨0, 0, 0⟩
 | (b, x) :: r => if b = true then x else firstF r
def GoodF (l : List (Bool × Flt)) : Prop := ∀ p ∈ l, p.2.err ≠ 0
theorem GoodF.nil : GoodF [] := fun _ h => by cases h
theorem GoodF.app {l r : List (Bool × Flt)} (h : GoodF l) (k : GoodF r) : GoodF (l ++ r) := fun p hp => (List.mem_append.1 hp).elim (h p) (k p)
theorem GoodF.flat {α : Type} {l : List α} {g : α → List (Bool × Flt)} (h : ∀ x ∈ l, GoodF (g x)) : GoodF (l.flatMap g) := fun p hp => by
 obtain ⟨x, hx, hp⟩ := List.mem_flatMap.1 hp
 exact h x hx p hp
theorem firstF_off {l r : List (Bool × Flt)} (h : ∀ p ∈ l, p.1 = false) : firstF (l ++ r) = firstF r := by
 induction l with
 | nil => rfl
 | cons p l ih =>
  obtain ⟨b, x⟩ := p
  have := h (b, x) (mcs ..)
  simp only at this
  subst this
  rw [List.cons_append, firstF, if_neg (by simp), ih fun p hp => h p (List.mem_cons_of_mem _ hp)]
theorem firstF_off' {l : List (Bool × Flt)} (h : ∀ p ∈ l, p.1 = false) : firstF l = ⟨0, 0, 0⟩ := by
 have := firstF_off (r := []) h
 rwa [List.append_nil] at this
theorem firstF_on {l r : List (Bool × Flt)} {x : Flt} (h : ∀ p ∈ l, p.1 = false) : firstF (l ++ (true, x) :: r) = x := by
 rw [firstF_off h, firstF, if_pos rfl]
theorem firstF_cases (l : List (Bool × Flt)) : (∀ p ∈ l, p.1 = false) ∨ ∃ a x r, l = a ++ (true, x) :: r ∧ (∀ p ∈ a, p.1 = false) := by
 induction l with
 | nil => exact .inl fun _ h => by cases h
 | cons p l ih =>
  obtain ⟨b, x⟩ := p
  cases b with
  | true => exact .inr ⟨[], x, l, rfl, fun _ h => by cases h⟩
  | false =>
   rcases ih with h | ⟨a, y, r, rfl, h⟩
   ·exact .inl fun p hp => (List.mem_cons.1 hp).elim (fun e => by rw [e]) (h p)
   ·exact .inr ⟨(false, x) :: a, y, r, rfl, fun p hp => (List.mem_cons.1 hp).elim (fun e => by rw [e]) (h p)⟩
theorem firstF_zero {l : List (Bool × Flt)} (h : GoodF l) (e : (firstF l).err = 0) : ∀ p ∈ l, p.1 = false := by
 rcases firstF_cases l with k | ⟨a, x, r, rfl, k⟩
 ·exact k
 ·rw [firstF_on k] at e
  exact (h (true, x) (by simp) e).elim
theorem firstF_more {l r : List (Bool × Flt)} (_h : GoodF l) (e : (firstF l).err ≠ 0) : firstF (l ++ r) = firstF l := by
 rcases firstF_cases l with k | ⟨a, x, r', rfl, k⟩
 ·rw [firstF_off' k] at e; exact (e rfl).elim
 ·rw [aas, List.cons_append, firstF_on k, firstF_on k]
theorem firstF_tell {l : List (Bool × Flt)} {b : Bool} {x : Flt} (h : GoodF l) : firstF (l ++ [(b, x)]) = if b = true ∧ (firstF l).err = 0 then x else firstF l := by
 by_cases e : (firstF l).err = 0
 ·rw [firstF_off (firstF_zero h e), firstF_off' (firstF_zero h e)]
  simp [firstF]
 ·rw [firstF_more h e, if_neg (fun k => e k.2)]
theorem firstF_eta {l : List (Bool × Flt)} (h : GoodF l) (e : (firstF l).err = 0) : firstF l = ⟨0, 0, 0⟩ := firstF_off' (firstF_zero h e)
end Go.Ab
namespace Go.Ab
open Go.Proofs
def idxQ (q : Nat → Bool) (n : Nat) : Int := match (List.range n).find? q with
 | some i => i
 | none => -1
theorem idxQ_hit {q : Nat → Bool} {i n : Nat} (h : ∀ j, j < i → q j = false) (hi : i < n) (hq : q i = true) : idxQ q n = i := by
 have : (List.range n).find? q = some i := by
  rw [List.find?_eq_some_iff_getElem]
  refine ⟨hq, i, by simpa using hi, by simp, fun j hj => ?_⟩
  rw [List.getElem_range, h j hj]; rfl
 rw [idxQ, this]
theorem idxQ_none {q : Nat → Bool} {n : Nat} (h : ∀ j, j < n → q j = false) : idxQ q n = -1 := by
 have : (List.range n).find? q = none := by
  rw [List.find?_eq_none]
  intro j hj
  rw [h j (by simpa using hj)]; simp
 rw [idxQ, this]
def fiI (ns : List ByteArray) (nm : ByteArray) : Int := idxQ (fun i => eqS (ns.getD i ByteArray.empty) nm) ns.length
def NamR (css : List (List AV)) (ns : List ByteArray) : Prop := css.length = ns.length ∧ ∀ (i : Nat) (n : ByteArray) (c : List AV), ns[i]? = some n → css[i]? = some c → ∃ r, c = .str n :: r
set_option maxRecDepth 10000 in
set_option maxHeartbeats 8000000 in
theorem idxF137_ok {s : St} {v : AV} {css : List (List AV)} {q : Nat → Bool} {gf : FuncId} {caps : List AV} (hok : s.Ok) (hl : css.length ≤ 8388608) (hv : RowP 2 v css)
  (hcl' : ∀ (s' : St) (i : Nat) (c : List AV), Keep [] s s' → css[i]? = some c → CallS Tryz.prog Tt Kt gf (.agg c :: caps) s' fun r s'' => Keep [] s' s'' ∧ r = .bool (q i)) :
  CallS Tryz.prog Tt Kt 80 [v, .fn gf caps] s fun r s' => Keep [] s s' ∧ r = .int .i64 (idxQ q css.length) := by
 refine call_of (fn := Tryz.f80) (nt := 19) Tryz.func80 rfl rfl rfl ?_
 refine aq0 ?_
 have hS := SH.start hok
 have hK := hS.K
 refine aq2 ?_
 refine wvz (oN hv.slen) ?_
 refine aq1 ?_
 refine wc_loop_at (fun jj m z => ∃ i : Nat, jj = css.length - i ∧ i ≤ css.length ∧ m = [(0, v), (1, .fn gf caps), (7, .int .i64 (css.length : Nat)), (8, .int .i64 (i : Nat))] ∧ Keep [] s z ∧ ∀ j, j < i → q j = false) css.length
  [(0, v), (1, .fn gf caps), (7, .int .i64 (css.length : Nat)), (8, .int .i64 ((0 : Nat) : Int))] (scn rfl (scn rfl (scn rfl (scn rfl (Sub.nil _))))) ⟨0, by simp, by simp, rfl, hK, fun j h => by omega⟩ ?_
 clear hS hK
 rintro jj m z ⟨i, rfl, hi, rfl, hK, hq⟩
 have hz := hv.up z.h
 refine aq1 ?_
 refine wcd (fun h9 => ?_) (fun h9 => ?_)
 ·refine aq0 ?_
  obtain ⟨c, hc⟩ : ∃ c, css[i]? = some c := ⟨_, gee (by omega)⟩
  obtain ⟨hcl, hcf⟩ := hv.cells c (mog hc)
  obtain ⟨c0, c1, rfl⟩ : ∃ c0 c1, c = [c0, c1] := by
   match c, hcl with
   | [c0, c1], _ => exact ⟨c0, c1, rfl⟩
  refine aq5 ?_
  refine wvz (oI hz) ?_
  refine wvz (oM (Row.pt hz hc)) ?_
  refine wkz (hcl' z i _ hK hc) ?_
  rintro _ z ⟨hk, rfl⟩
  have hK := hK.two hk
  refine aq0 ?_
  refine wc_condT rfl (fun h16 => ?_) (fun h16 => ?_)
  ·refine aq2 ?_
   exact ⟨_, rfl, hK, by rw [idxQ_hit hq (by omega) h16]; rfl⟩
  refine aq0 ?_
  refine wad ?_
  refine aq1 ?_
  exact rn ⟨i + 1, rfl, by omega, rfl, hK, fun j hj => (lsl.1 hj).elim (hq j) fun e => by rw [e]; exact h16⟩
 obtain rfl : i = css.length := by omega
 refine aq1 ?_
 exact ⟨_, rfl, hK, by rw [idxQ_none hq]; rfl⟩
set_option maxRecDepth 10000 in
set_option maxHeartbeats 8000000 in
theorem idxF149_ok {s : St} {v : AV} {css : List (List AV)} {q : Nat → Bool} {gf : FuncId} {caps : List AV} (hok : s.Ok) (hl : css.length ≤ 8388608) (hv : RowP 3 v css)
  (hcl' : ∀ (s' : St) (i : Nat) (c : List AV), Keep [] s s' → css[i]? = some c → CallS Tryz.prog Tt Kt gf (.agg c :: caps) s' fun r s'' => Keep [] s' s'' ∧ r = .bool (q i)) :
  CallS Tryz.prog Tt Kt 104 [v, .fn gf caps] s fun r s' => Keep [] s s' ∧ r = .int .i64 (idxQ q css.length) := by
 refine call_of (fn := Tryz.f104) (nt := 19) Tryz.func104 rfl rfl rfl ?_
 refine aq0 ?_
 have hS := SH.start hok
 have hK := hS.K
 refine aq2 ?_
 refine wvz (oN hv.slen) ?_
 refine aq1 ?_
 refine wc_loop_at (fun jj m z => ∃ i : Nat, jj = css.length - i ∧ i ≤ css.length ∧ m = [(0, v), (1, .fn gf caps), (7, .int .i64 (css.length : Nat)), (8, .int .i64 (i : Nat))] ∧ Keep [] s z ∧ ∀ j, j < i → q j = false) css.length
  [(0, v), (1, .fn gf caps), (7, .int .i64 (css.length : Nat)), (8, .int .i64 ((0 : Nat) : Int))] (scn rfl (scn rfl (scn rfl (scn rfl (Sub.nil _))))) ⟨0, by simp, by simp, rfl, hK, fun j h => by omega⟩ ?_
 clear hS hK
 rintro jj m z ⟨i, rfl, hi, rfl, hK, hq⟩
 have hz := hv.up z.h
 refine aq1 ?_
 refine wcd (fun h9 => ?_) (fun h9 => ?_)
 ·refine aq0 ?_
  obtain ⟨c, hc⟩ : ∃ c, css[i]? = some c := ⟨_, gee (by omega)⟩
  obtain ⟨hcl, hcf⟩ := hv.cells c (mog hc)
  obtain ⟨c0, c1, c2, rfl⟩ : ∃ c0 c1 c2, c = [c0, c1, c2] := by
   match c, hcl with
   | [c0, c1, c2], _ => exact ⟨c0, c1, c2, rfl⟩
  refine aq5 ?_
  refine wvz (oI hz) ?_
  refine wvz (oM (Row.pt hz hc)) ?_
  refine wkz (hcl' z i _ hK hc) ?_
  rintro _ z ⟨hk, rfl⟩
  have hK := hK.two hk
  refine aq0 ?_
  refine wc_condT rfl (fun h16 => ?_) (fun h16 => ?_)
  ·refine aq2 ?_
   exact ⟨_, rfl, hK, by rw [idxQ_hit hq (by omega) h16]; rfl⟩
  refine aq0 ?_
  refine wad ?_
  refine aq1 ?_
  exact rn ⟨i + 1, rfl, by omega, rfl, hK, fun j hj => (lsl.1 hj).elim (hq j) fun e => by rw [e]; exact h16⟩
 obtain rfl : i = css.length := by omega
 refine aq1 ?_
 exact ⟨_, rfl, hK, by rw [idxQ_none hq]; rfl⟩
set_option maxRecDepth 10000 in
set_option maxHeartbeats 8000000 in
theorem idxF151_ok {s : St} {v : AV} {css : List (List AV)} {q : Nat → Bool} {gf : FuncId} {caps : List AV} (hok : s.Ok) (hl : css.length ≤ 8388608) (hv : RowP 6 v css)
  (hcl' : ∀ (s' : St) (i : Nat) (c : List AV), Keep [] s s' → css[i]? = some c → CallS Tryz.prog Tt Kt gf (.agg c :: caps) s' fun r s'' => Keep [] s' s'' ∧ r = .bool (q i)) :
  CallS Tryz.prog Tt Kt 106 [v, .fn gf caps] s fun r s' => Keep [] s s' ∧ r = .int .i64 (idxQ q css.length) := by
 refine call_of (fn := Tryz.f106) (nt := 19) Tryz.func106 rfl rfl rfl ?_
 refine aq0 ?_
 have hS := SH.start hok
 have hK := hS.K
 refine aq2 ?_
 refine wvz (oN hv.slen) ?_
 refine aq1 ?_
 refine wc_loop_at (fun jj m z => ∃ i : Nat, jj = css.length - i ∧ i ≤ css.length ∧ m = [(0, v), (1, .fn gf caps), (7, .int .i64 (css.length : Nat)), (8, .int .i64 (i : Nat))] ∧ Keep [] s z ∧ ∀ j, j < i → q j = false) css.length
  [(0, v), (1, .fn gf caps), (7, .int .i64 (css.length : Nat)), (8, .int .i64 ((0 : Nat) : Int))] (scn rfl (scn rfl (scn rfl (scn rfl (Sub.nil _))))) ⟨0, by simp, by simp, rfl, hK, fun j h => by omega⟩ ?_
 clear hS hK
 rintro jj m z ⟨i, rfl, hi, rfl, hK, hq⟩
 have hz := hv.up z.h
 refine aq1 ?_
 refine wcd (fun h9 => ?_) (fun h9 => ?_)
 ·refine aq0 ?_
  obtain ⟨c, hc⟩ : ∃ c, css[i]? = some c := ⟨_, gee (by omega)⟩
  obtain ⟨hcl, hcf⟩ := hv.cells c (mog hc)
  obtain ⟨c0, c1, c2, c3, c4, c5, rfl⟩ : ∃ c0 c1 c2 c3 c4 c5, c = [c0, c1, c2, c3, c4, c5] := by
   match c, hcl with
   | [c0, c1, c2, c3, c4, c5], _ => exact ⟨c0, c1, c2, c3, c4, c5, rfl⟩
  refine aq5 ?_
  refine wvz (oI hz) ?_
  refine wvz (oM (Row.pt hz hc)) ?_
  refine wkz (hcl' z i _ hK hc) ?_
  rintro _ z ⟨hk, rfl⟩
  have hK := hK.two hk
  refine aq0 ?_
  refine wc_condT rfl (fun h16 => ?_) (fun h16 => ?_)
  ·refine aq2 ?_
   exact ⟨_, rfl, hK, by rw [idxQ_hit hq (by omega) h16]; rfl⟩
  refine aq0 ?_
  refine wad ?_
  refine aq1 ?_
  exact rn ⟨i + 1, rfl, by omega, rfl, hK, fun j hj => (lsl.1 hj).elim (hq j) fun e => by rw [e]; exact h16⟩
 obtain rfl : i = css.length := by omega
 refine aq1 ?_
 exact ⟨_, rfl, hK, by rw [idxQ_none hq]; rfl⟩
set_option maxRecDepth 10000 in
set_option maxHeartbeats 8000000 in
theorem idxF106_ok {s : St} {v : AV} {css : List (List AV)} {q : Nat → Bool} {gf : FuncId} {caps : List AV} (hok : s.Ok) (hl : css.length ≤ 8388608) (hv : RowP 4 v css)
  (hcl' : ∀ (s' : St) (i : Nat) (c : List AV), Keep [] s s' → css[i]? = some c → CallS Tryz.prog Tt Kt gf (.agg c :: caps) s' fun r s'' => Keep [] s' s'' ∧ r = .bool (q i)) :
  CallS Tryz.prog Tt Kt 67 [v, .fn gf caps] s fun r s' => Keep [] s s' ∧ r = .int .i64 (idxQ q css.length) := by
 refine call_of (fn := Tryz.f67) (nt := 19) Tryz.func67 rfl rfl rfl ?_
 refine aq0 ?_
 have hS := SH.start hok
 have hK := hS.K
 refine aq2 ?_
 refine wvz (oN hv.slen) ?_
 refine aq1 ?_
 refine wc_loop_at (fun jj m z => ∃ i : Nat, jj = css.length - i ∧ i ≤ css.length ∧ m = [(0, v), (1, .fn gf caps), (7, .int .i64 (css.length : Nat)), (8, .int .i64 (i : Nat))] ∧ Keep [] s z ∧ ∀ j, j < i → q j = false) css.length
  [(0, v), (1, .fn gf caps), (7, .int .i64 (css.length : Nat)), (8, .int .i64 ((0 : Nat) : Int))] (scn rfl (scn rfl (scn rfl (scn rfl (Sub.nil _))))) ⟨0, by simp, by simp, rfl, hK, fun j h => by omega⟩ ?_
 clear hS hK
 rintro jj m z ⟨i, rfl, hi, rfl, hK, hq⟩
 have hz := hv.up z.h
 refine aq1 ?_
 refine wcd (fun h9 => ?_) (fun h9 => ?_)
 ·refine aq0 ?_
  obtain ⟨c, hc⟩ : ∃ c, css[i]? = some c := ⟨_, gee (by omega)⟩
  obtain ⟨hcl, hcf⟩ := hv.cells c (mog hc)
  obtain ⟨c0, c1, c2, c3, rfl⟩ : ∃ c0 c1 c2 c3, c = [c0, c1, c2, c3] := by
   match c, hcl with
   | [c0, c1, c2, c3], _ => exact ⟨c0, c1, c2, c3, rfl⟩
  refine aq5 ?_
  refine wvz (oI hz) ?_
  refine wvz (oM (Row.pt hz hc)) ?_
  refine wkz (hcl' z i _ hK hc) ?_
  rintro _ z ⟨hk, rfl⟩
  have hK := hK.two hk
  refine aq0 ?_
  refine wc_condT rfl (fun h16 => ?_) (fun h16 => ?_)
  ·refine aq2 ?_
   exact ⟨_, rfl, hK, by rw [idxQ_hit hq (by omega) h16]; rfl⟩
  refine aq0 ?_
  refine wad ?_
  refine aq1 ?_
  exact rn ⟨i + 1, rfl, by omega, rfl, hK, fun j hj => (lsl.1 hj).elim (hq j) fun e => by rw [e]; exact h16⟩
 obtain rfl : i = css.length := by omega
 refine aq1 ?_
 exact ⟨_, rfl, hK, by rw [idxQ_none hq]; rfl⟩
set_option maxRecDepth 10000 in
set_option maxHeartbeats 8000000 in
theorem idxF140_ok {s : St} {v : AV} {css : List (List AV)} {q : Nat → Bool} {gf : FuncId} {caps : List AV} (hok : s.Ok) (hl : css.length ≤ 8388608) (hv : RowP 1 v css)
  (hcl' : ∀ (s' : St) (i : Nat) (c : List AV), Keep [] s s' → css[i]? = some c → CallS Tryz.prog Tt Kt gf (packC c :: caps) s' fun r s'' => Keep [] s' s'' ∧ r = .bool (q i)) :
  CallS Tryz.prog Tt Kt 100 [v, .fn gf caps] s fun r s' => Keep [] s s' ∧ r = .int .i64 (idxQ q css.length) := by
 refine call_of (fn := Tryz.f100) (nt := 19) Tryz.func100 rfl rfl rfl ?_
 refine aq0 ?_
 have hS := SH.start hok
 have hK := hS.K
 refine aq2 ?_
 refine wvz (oN hv.slen) ?_
 refine aq1 ?_
 refine wc_loop_at (fun jj m z => ∃ i : Nat, jj = css.length - i ∧ i ≤ css.length ∧ m = [(0, v), (1, .fn gf caps), (7, .int .i64 (css.length : Nat)), (8, .int .i64 (i : Nat))] ∧ Keep [] s z ∧ ∀ j, j < i → q j = false) css.length
  [(0, v), (1, .fn gf caps), (7, .int .i64 (css.length : Nat)), (8, .int .i64 ((0 : Nat) : Int))] (scn rfl (scn rfl (scn rfl (scn rfl (Sub.nil _))))) ⟨0, by simp, by simp, rfl, hK, fun j h => by omega⟩ ?_
 clear hS hK
 rintro jj m z ⟨i, rfl, hi, rfl, hK, hq⟩
 have hz := hv.up z.h
 refine aq1 ?_
 refine wcd (fun h9 => ?_) (fun h9 => ?_)
 ·refine aq0 ?_
  obtain ⟨c, hc⟩ : ∃ c, css[i]? = some c := ⟨_, gee (by omega)⟩
  obtain ⟨hcl, hcf⟩ := hv.cells c (mog hc)
  obtain ⟨c0, rfl⟩ : ∃ c0, c = [c0] := by
   match c, hcl with
   | [c0], _ => exact ⟨c0, rfl⟩
  refine aq5 ?_
  refine wvz (oI hz) ?_
  refine wvz (oM (Row.pt hz hc)) ?_
  refine wkz (hcl' z i _ hK hc) ?_
  rintro _ z ⟨hk, rfl⟩
  have hK := hK.two hk
  refine aq0 ?_
  refine wc_condT rfl (fun h16 => ?_) (fun h16 => ?_)
  ·refine aq2 ?_
   exact ⟨_, rfl, hK, by rw [idxQ_hit hq (by omega) h16]; rfl⟩
  refine aq0 ?_
  refine wad ?_
  refine aq1 ?_
  exact rn ⟨i + 1, rfl, by omega, rfl, hK, fun j hj => (lsl.1 hj).elim (hq j) fun e => by rw [e]; exact h16⟩
 obtain rfl : i = css.length := by omega
 refine aq1 ?_
 exact ⟨_, rfl, hK, by rw [idxQ_none hq]; rfl⟩
set_option maxRecDepth 10000 in
set_option maxHeartbeats 8000000 in
theorem of104_ok {s : St} {n : ByteArray} {c1 : AV} (hok : s.Ok) (hz : ([.str n, c1] : List AV).all AV.leaf = true) :
  CallS Tryz.prog Tt Kt 43 [.agg [.str n, c1]] s fun r s' => Keep [] s s' ∧ r = .str n := by
 refine call_of (fn := Tryz.f43) (nt := 5) Tryz.func43 rfl rfl rfl ?_
 refine aq0 ?_
 have hS := SH.start hok
 refine aq0 ?_
 refine ws_box hS rfl rfl rfl hz ?_
 rintro p0 z hS hk
 have hS : SH _ [_] z := hS
 have hK := hS.K
 refine aq2 ?_
 refine wvz (oL 0 hS) ?_
 refine aq1 ?_
 exact ⟨_, rfl, hK, rfl⟩
set_option maxRecDepth 10000 in
set_option maxHeartbeats 8000000 in
theorem of134_ok {s : St} {n : ByteArray} {c1 c2 : AV} (hok : s.Ok) (hz : ([.str n, c1, c2] : List AV).all AV.leaf = true) :
  CallS Tryz.prog Tt Kt 83 [.agg [.str n, c1, c2]] s fun r s' => Keep [] s s' ∧ r = .str n := by
 refine call_of (fn := Tryz.f83) (nt := 5) Tryz.func83 rfl rfl rfl ?_
 refine aq0 ?_
 have hS := SH.start hok
 refine aq0 ?_
 refine ws_box hS rfl rfl rfl hz ?_
 rintro p0 z hS hk
 have hS : SH _ [_] z := hS
 have hK := hS.K
 refine aq2 ?_
 refine wvz (oL 0 hS) ?_
 refine aq1 ?_
 exact ⟨_, rfl, hK, rfl⟩
set_option maxRecDepth 10000 in
set_option maxHeartbeats 8000000 in
theorem of136_ok {s : St} {n : ByteArray} {c1 c2 c3 c4 c5 : AV} (hok : s.Ok) (hz : ([.str n, c1, c2, c3, c4, c5] : List AV).all AV.leaf = true) :
  CallS Tryz.prog Tt Kt 85 [.agg [.str n, c1, c2, c3, c4, c5]] s fun r s' => Keep [] s s' ∧ r = .str n := by
 refine call_of (fn := Tryz.f85) (nt := 5) Tryz.func85 rfl rfl rfl ?_
 refine aq0 ?_
 have hS := SH.start hok
 refine aq0 ?_
 refine ws_box hS rfl rfl rfl hz ?_
 rintro p0 z hS hk
 have hS : SH _ [_] z := hS
 have hK := hS.K
 refine aq2 ?_
 refine wvz (oL 0 hS) ?_
 refine aq1 ?_
 exact ⟨_, rfl, hK, rfl⟩
set_option maxRecDepth 10000 in
set_option maxHeartbeats 8000000 in
theorem clo138_ok {s : St} {n nm : ByteArray} {a b : AV} {c1 : AV} (hok : s.Ok) (hz : ([.str n, c1] : List AV).all AV.leaf = true) (ha : Pt s.h a [.fn 43 []]) (hb : Pt s.h b [.str nm]) :
  CallS Tryz.prog Tt Kt 81 [.agg [.str n, c1], a, b] s fun r s' => Keep [] s s' ∧ r = .bool (eqS n nm) := by
 refine call_of (fn := Tryz.f81) (nt := 10) Tryz.func81 rfl rfl rfl ?_
 refine aq0 ?_
 have hS := SH.start hok
 refine aq0 ?_
 refine ws_box hS rfl rfl rfl hz ?_
 rintro p0 z hS hk
 have hS : SH _ [_] z := hS
 have hK := hS.K
 refine aq1 ?_
 have ha := ha.keep0 hK
 have hb := hb.keep0 hK
 have hR := Keep.refl (s := z) (hK.ok)
 refine wc_draw (Old z []) (by kernel_rfl) rfl ?_
 refine wo_load hR rfl rfl (by assumption) rfl (fun _ _ h => by cases h) rfl rfl ?_
 refine wo_load hR rfl rfl ((hS.pt 0 rfl).at (nl rfl)) rfl (fun _ _ h => by cases h) rfl rfl ?_
 refine woc hR (of104_ok hR.ok hz) ?_
 rintro _ sX ⟨-, rfl⟩ hR
 refine wo_load hR rfl rfl (by assumption) rfl (fun _ _ h => by cases h) rfl rfl ?_
 refine aq2 ?_
 have hS := hS.mov hR
 have hK := hS.K
 refine aq0 ?_
 exact ⟨_, rfl, hK, rfl⟩
set_option maxRecDepth 10000 in
set_option maxHeartbeats 8000000 in
theorem clo150_ok {s : St} {n nm : ByteArray} {a b : AV} {c1 c2 : AV} (hok : s.Ok) (hz : ([.str n, c1, c2] : List AV).all AV.leaf = true) (ha : Pt s.h a [.fn 83 []]) (hb : Pt s.h b [.str nm]) :
  CallS Tryz.prog Tt Kt 105 [.agg [.str n, c1, c2], a, b] s fun r s' => Keep [] s s' ∧ r = .bool (eqS n nm) := by
 refine call_of (fn := Tryz.f105) (nt := 10) Tryz.func105 rfl rfl rfl ?_
 refine aq0 ?_
 have hS := SH.start hok
 refine aq0 ?_
 refine ws_box hS rfl rfl rfl hz ?_
 rintro p0 z hS hk
 have hS : SH _ [_] z := hS
 have hK := hS.K
 refine aq1 ?_
 have ha := ha.keep0 hK
 have hb := hb.keep0 hK
 have hR := Keep.refl (s := z) (hK.ok)
 refine wc_draw (Old z []) (by kernel_rfl) rfl ?_
 refine wo_load hR rfl rfl (by assumption) rfl (fun _ _ h => by cases h) rfl rfl ?_
 refine wo_load hR rfl rfl ((hS.pt 0 rfl).at (nl rfl)) rfl (fun _ _ h => by cases h) rfl rfl ?_
 refine woc hR (of134_ok hR.ok hz) ?_
 rintro _ sX ⟨-, rfl⟩ hR
 refine wo_load hR rfl rfl (by assumption) rfl (fun _ _ h => by cases h) rfl rfl ?_
 refine aq2 ?_
 have hS := hS.mov hR
 have hK := hS.K
 refine aq0 ?_
 exact ⟨_, rfl, hK, rfl⟩
set_option maxRecDepth 10000 in
set_option maxHeartbeats 8000000 in
theorem clo152_ok {s : St} {n nm : ByteArray} {a b : AV} {c1 c2 c3 c4 c5 : AV} (hok : s.Ok) (hz : ([.str n, c1, c2, c3, c4, c5] : List AV).all AV.leaf = true) (ha : Pt s.h a [.fn 85 []]) (hb : Pt s.h b [.str nm]) :
  CallS Tryz.prog Tt Kt 107 [.agg [.str n, c1, c2, c3, c4, c5], a, b] s fun r s' => Keep [] s s' ∧ r = .bool (eqS n nm) := by
 refine call_of (fn := Tryz.f107) (nt := 10) Tryz.func107 rfl rfl rfl ?_
 refine aq0 ?_
 have hS := SH.start hok
 refine aq0 ?_
 refine ws_box hS rfl rfl rfl hz ?_
 rintro p0 z hS hk
 have hS : SH _ [_] z := hS
 have hK := hS.K
 refine aq1 ?_
 have ha := ha.keep0 hK
 have hb := hb.keep0 hK
 have hR := Keep.refl (s := z) (hK.ok)
 refine wc_draw (Old z []) (by kernel_rfl) rfl ?_
 refine wo_load hR rfl rfl (by assumption) rfl (fun _ _ h => by cases h) rfl rfl ?_
 refine wo_load hR rfl rfl ((hS.pt 0 rfl).at (nl rfl)) rfl (fun _ _ h => by cases h) rfl rfl ?_
 refine woc hR (of136_ok hR.ok hz) ?_
 rintro _ sX ⟨-, rfl⟩ hR
 refine wo_load hR rfl rfl (by assumption) rfl (fun _ _ h => by cases h) rfl rfl ?_
 refine aq2 ?_
 have hS := hS.mov hR
 have hK := hS.K
 refine aq0 ?_
 exact ⟨_, rfl, hK, rfl⟩
end Go.Ab
namespace Go.Ab
open Go.Proofs
abbrev SrcP (x : SrcL) (c : List AV) : Prop := SrcR .leaf x c
theorem namR_map {α : Type} {f : α → List AV} {g : α → ByteArray} (h : ∀ x, ∃ r, f x = .str (g x) :: r) (xs : List α) : NamR (xs.map f) (xs.map g) := by
 refine ⟨by simp, fun i n c h1 h2 => ?_⟩
 rw [gmm] at h1 h2
 cases hx : xs[i]? with
 | none => rw [hx] at h1; cases h1
 | some x =>
  rw [hx] at h1 h2
  cases h1; cases h2
  exact h x
theorem namR_fun {css : List (List AV)} {xs : List FunL} (hl : css.length = xs.length) (h : ∀ (i : Nat) (x : FunL) (c : List AV), xs[i]? = some x → css[i]? = some c → FunR .leaf x c) : NamR css (xs.map FunL.name) := by
 refine ⟨by simp [hl], fun i n c h1 h2 => ?_⟩
 rw [gmm] at h1
 cases hx : xs[i]? with
 | none => rw [hx] at h1; cases h1
 | some x =>
  rw [hx] at h1
  cases h1
  obtain ⟨a, b, d, e, rfl, -⟩ := h i x c hx h2
  exact ⟨_, rfl⟩
theorem fiI_lt (ns : List ByteArray) (nm : ByteArray) : -1 ≤ fiI ns nm ∧ fiI ns nm < ns.length := by
 unfold fiI idxQ
 cases h : (List.range ns.length).find? fun i => eqS (ns.getD i ByteArray.empty) nm with
 | none => simp only; omega
 | some i =>
  have := List.mem_of_find?_eq_some h
  simp only [List.mem_range] at this
  simp only; omega
def gN (s : SrcL) (nm : ByteArray) : Int × Int :=
 if 0 ≤ fiI (s.globals.map DeclL.name) nm then (2, fiI (s.globals.map DeclL.name) nm)
 else if 0 ≤ fiI (s.arrays.map ArrD.name) nm then (3, fiI (s.arrays.map ArrD.name) nm)
 else if 0 ≤ fiI (s.channels.map DeclL.name) nm then (4, fiI (s.channels.map DeclL.name) nm)
 else if 0 ≤ fiI (s.funcs.map FunL.name) nm then (5, fiI (s.funcs.map FunL.name) nm)
 else (0, 0)
def locN (s : SrcL) (f : Int) : List DeclL := if 0 ≤ f ∧ f < s.funcs.length then match s.funcs[f.toNat]? with
  | some x => x.params ++ x.vars
  | none => []
 else []
def fN (s : SrcL) (f : Int) (nm : ByteArray) : Int × Int := if 0 ≤ fiI ((locN s f).map DeclL.name) nm then (1, fiI ((locN s f).map DeclL.name) nm) else gN s nm
def refA (p : Int × Int) : AV := .tup [.agg [.int .i64 p.1, .int .i64 p.2], .bool (p.1 != 0)]
set_option maxRecDepth 10000 in
set_option maxHeartbeats 8000000 in
theorem at103_ok {s : St} {v : AV} {nm : ByteArray} {css : List (List AV)} {ns : List ByteArray} (hok : s.Ok) (hl : css.length ≤ 8388608) (hv : RowP 2 v css) (hn : NamR css ns) :
  CallS Tryz.prog Tt Kt 42 [v, .str nm, .fn 43 []] s fun r s' => Keep [] s s' ∧ r = .int .i64 (fiI ns nm) := by
 refine call_of (fn := Tryz.f42) (nt := 10) Tryz.func42 rfl rfl rfl ?_
 refine aq0 ?_
 have hS := SH.start hok
 refine aq0 ?_
 refine ws_box hS rfl rfl rfl (by rfl) ?_
 rintro p0 z hS hk
 have hS : SH _ [_] z := hS
 refine ws_box hS rfl rfl rfl (by rfl) ?_
 rintro p1 z hS hk
 have hS : SH _ [_, _] z := hS
 have hK := hS.K
 refine aq3 ?_
 refine w_call rfl rfl (op_call rfl rfl rfl rfl) (idxF137_ok (q := fun i => eqS (ns.getD i ByteArray.empty) nm) hK.ok hl hv (fun s' i c hk hc => by
     obtain ⟨n, hni⟩ : ∃ n, ns[i]? = some n := ⟨_, gee (by have := (ges.1 hc).1; rw [← hn.1]; exact this)⟩
     obtain ⟨r, rfl⟩ := hn.2 i n c hni hc
     obtain ⟨hc1, hc2⟩ := hv.cells _ (mog hc)
     match r, hc1, hc2 with
     | [c1], _, hc2 =>
       rw [show ns.getD i ByteArray.empty = n by rw [gdd, hni]; rfl]
       exact clo138_ok hk.ok hc2 ((hS.pt 1 rfl).keep0 hk) ((hS.pt 0 rfl).keep0 hk))) ?_
 rintro _ z ⟨hk, rfl⟩
 have hS := hS.mov hk
 have hK := hS.K
 refine aq1 ?_
 exact ⟨_, rfl, hK, by rw [fiI, ← hn.1]; rfl⟩
set_option maxRecDepth 10000 in
set_option maxHeartbeats 8000000 in
theorem at133_ok {s : St} {v : AV} {nm : ByteArray} {css : List (List AV)} {ns : List ByteArray} (hok : s.Ok) (hl : css.length ≤ 8388608) (hv : RowP 3 v css) (hn : NamR css ns) :
  CallS Tryz.prog Tt Kt 82 [v, .str nm, .fn 83 []] s fun r s' => Keep [] s s' ∧ r = .int .i64 (fiI ns nm) := by
 refine call_of (fn := Tryz.f82) (nt := 10) Tryz.func82 rfl rfl rfl ?_
 refine aq0 ?_
 have hS := SH.start hok
 refine aq0 ?_
 refine ws_box hS rfl rfl rfl (by rfl) ?_
 rintro p0 z hS hk
 have hS : SH _ [_] z := hS
 refine ws_box hS rfl rfl rfl (by rfl) ?_
 rintro p1 z hS hk
 have hS : SH _ [_, _] z := hS
 have hK := hS.K
 refine aq3 ?_
 refine w_call rfl rfl (op_call rfl rfl rfl rfl) (idxF149_ok (q := fun i => eqS (ns.getD i ByteArray.empty) nm) hK.ok hl hv (fun s' i c hk hc => by
     obtain ⟨n, hni⟩ : ∃ n, ns[i]? = some n := ⟨_, gee (by have := (ges.1 hc).1; rw [← hn.1]; exact this)⟩
     obtain ⟨r, rfl⟩ := hn.2 i n c hni hc
     obtain ⟨hc1, hc2⟩ := hv.cells _ (mog hc)
     match r, hc1, hc2 with
     | [c1, c2], _, hc2 =>
       rw [show ns.getD i ByteArray.empty = n by rw [gdd, hni]; rfl]
       exact clo150_ok hk.ok hc2 ((hS.pt 1 rfl).keep0 hk) ((hS.pt 0 rfl).keep0 hk))) ?_
 rintro _ z ⟨hk, rfl⟩
 have hS := hS.mov hk
 have hK := hS.K
 refine aq1 ?_
 exact ⟨_, rfl, hK, by rw [fiI, ← hn.1]; rfl⟩
set_option maxRecDepth 10000 in
set_option maxHeartbeats 8000000 in
theorem at135_ok {s : St} {v : AV} {nm : ByteArray} {css : List (List AV)} {ns : List ByteArray} (hok : s.Ok) (hl : css.length ≤ 8388608) (hv : RowP 6 v css) (hn : NamR css ns) :
  CallS Tryz.prog Tt Kt 84 [v, .str nm, .fn 85 []] s fun r s' => Keep [] s s' ∧ r = .int .i64 (fiI ns nm) := by
 refine call_of (fn := Tryz.f84) (nt := 10) Tryz.func84 rfl rfl rfl ?_
 refine aq0 ?_
 have hS := SH.start hok
 refine aq0 ?_
 refine ws_box hS rfl rfl rfl (by rfl) ?_
 rintro p0 z hS hk
 have hS : SH _ [_] z := hS
 refine ws_box hS rfl rfl rfl (by rfl) ?_
 rintro p1 z hS hk
 have hS : SH _ [_, _] z := hS
 have hK := hS.K
 refine aq3 ?_
 refine w_call rfl rfl (op_call rfl rfl rfl rfl) (idxF151_ok (q := fun i => eqS (ns.getD i ByteArray.empty) nm) hK.ok hl hv (fun s' i c hk hc => by
     obtain ⟨n, hni⟩ : ∃ n, ns[i]? = some n := ⟨_, gee (by have := (ges.1 hc).1; rw [← hn.1]; exact this)⟩
     obtain ⟨r, rfl⟩ := hn.2 i n c hni hc
     obtain ⟨hc1, hc2⟩ := hv.cells _ (mog hc)
     match r, hc1, hc2 with
     | [c1, c2, c3, c4, c5], _, hc2 =>
       rw [show ns.getD i ByteArray.empty = n by rw [gdd, hni]; rfl]
       exact clo152_ok hk.ok hc2 ((hS.pt 1 rfl).keep0 hk) ((hS.pt 0 rfl).keep0 hk))) ?_
 rintro _ z ⟨hk, rfl⟩
 have hS := hS.mov hk
 have hK := hS.K
 refine aq1 ?_
 exact ⟨_, rfl, hK, by rw [fiI, ← hn.1]; rfl⟩
set_option maxRecDepth 10000 in
set_option maxHeartbeats 8000000 in
theorem global_ok {s : St} {c : List AV} {x : SrcL} {nm : ByteArray} (hok : s.Ok) (hx : x.small) (hv : SrcP x c) :
  CallS Tryz.prog Tt Kt 44 [.agg c, .str nm] s fun r s' => Keep [] s s' ∧ r = refA (gN x nm) := by
 have hz : c.all AV.leaf = true := by
  obtain ⟨vp, vg, va, vc, vf, rfl, h1, h2, h3, h4, css, h5, -⟩ := hv
  simp only [List.all_cons, List.all_nil, h1.leaf, h2.leaf, h3.leaf, h4.leaf, h5.leaf]; rfl
 obtain ⟨vp, vg, va, vc, vf, rfl, hvp, hvg, hva, hvc, csf, hrf, hlf, hF⟩ := hv
 obtain ⟨hl1, hl2, hl3, hl4, hl5, hsm⟩ := hx
 refine call_of (fn := Tryz.f44) (nt := 43) Tryz.func44 rfl rfl rfl ?_
 refine aq0 ?_
 have hS := SH.start hok
 refine aq0 ?_
 refine ws_box hS rfl rfl rfl hz ?_
 rintro p0 z hS hk
 have hS : SH _ [_] z := hS
 refine ws_alloc hS rfl rfl rfl rfl ?_
 rintro p1 z hS hk
 have hS : SH _ [_, _] z := hS
 have hK := hS.K
 refine aq2 ?_
 refine wvz (oL 0 hS) ?_
 refine aq1 ?_
 refine w_call rfl rfl (op_call rfl rfl rfl rfl) (at103_ok hK.ok (by simp; omega) hvg (namR_map (fun _ => ⟨_, rfl⟩) _)) ?_
 rintro _ z ⟨hk, rfl⟩
 have hS := hS.mov hk
 have hK := hS.K
 refine aq3 ?_
 refine wc_condT rfl (fun h15 => ?_) (fun h15 => ?_)
 ·simp only [dtt, ge_iff_le] at h15
  refine aq2 ?_
  refine ws_store 1 hS rfl rfl rfl rfl rfl rfl (by rfl) (nl rfl) ?_
  rintro z hS
  have hS : SH _ [_, _] z := hS
  have hK := hS.K
  refine aq1 ?_
  exact ⟨_, by first | rfl | exact res_cellT rfl rfl (hS.pt 1 rfl) rfl rfl, hK, by rw [gN, if_pos h15]; rfl⟩
 simp only [dff, ge_iff_le] at h15
 refine aq1 ?_
 refine wvz (oL 0 hS) ?_
 refine aq1 ?_
 refine w_call rfl rfl (op_call rfl rfl rfl rfl) (at133_ok hK.ok (by simp; omega) hva (namR_map (fun _ => ⟨_, rfl⟩) _)) ?_
 rintro _ z ⟨hk, rfl⟩
 have hS := hS.mov hk
 have hK := hS.K
 refine aq3 ?_
 refine wc_condT rfl (fun h23 => ?_) (fun h23 => ?_)
 ·simp only [dtt, ge_iff_le] at h23
  refine aq2 ?_
  refine ws_store 1 hS rfl rfl rfl rfl rfl rfl (by rfl) (nl rfl) ?_
  rintro z hS
  have hS : SH _ [_, _] z := hS
  have hK := hS.K
  refine aq1 ?_
  exact ⟨_, by first | rfl | exact res_cellT rfl rfl (hS.pt 1 rfl) rfl rfl, hK, by rw [gN, if_neg h15, if_pos h23]; rfl⟩
 simp only [dff, ge_iff_le] at h23
 refine aq1 ?_
 refine wvz (oL 0 hS) ?_
 refine aq1 ?_
 refine w_call rfl rfl (op_call rfl rfl rfl rfl) (at103_ok hK.ok (by simp; omega) hvc (namR_map (fun _ => ⟨_, rfl⟩) _)) ?_
 rintro _ z ⟨hk, rfl⟩
 have hS := hS.mov hk
 have hK := hS.K
 refine aq3 ?_
 refine wc_condT rfl (fun h31 => ?_) (fun h31 => ?_)
 ·simp only [dtt, ge_iff_le] at h31
  refine aq2 ?_
  refine ws_store 1 hS rfl rfl rfl rfl rfl rfl (by rfl) (nl rfl) ?_
  rintro z hS
  have hS : SH _ [_, _] z := hS
  have hK := hS.K
  refine aq1 ?_
  exact ⟨_, by first | rfl | exact res_cellT rfl rfl (hS.pt 1 rfl) rfl rfl, hK, by rw [gN, if_neg h15, if_neg h23, if_pos h31]; rfl⟩
 simp only [dff, ge_iff_le] at h31
 refine aq1 ?_
 refine wvz (oL 0 hS) ?_
 refine aq1 ?_
 refine w_call rfl rfl (op_call rfl rfl rfl rfl) (at135_ok hK.ok (by rw [hlf]; omega) hrf (namR_fun hlf hF)) ?_
 rintro _ z ⟨hk, rfl⟩
 have hS := hS.mov hk
 have hK := hS.K
 refine aq3 ?_
 refine wc_condT rfl (fun h39 => ?_) (fun h39 => ?_)
 ·simp only [dtt, ge_iff_le] at h39
  refine aq2 ?_
  refine ws_store 1 hS rfl rfl rfl rfl rfl rfl (by rfl) (nl rfl) ?_
  rintro z hS
  have hS : SH _ [_, _] z := hS
  have hK := hS.K
  refine aq1 ?_
  exact ⟨_, by first | rfl | exact res_cellT rfl rfl (hS.pt 1 rfl) rfl rfl, hK, by rw [gN, if_neg h15, if_neg h23, if_neg h31, if_pos h39]; rfl⟩
 simp only [dff, ge_iff_le] at h39
 refine aq1 ?_
 refine ws_store 1 hS rfl rfl rfl rfl rfl rfl (by rfl) (nl rfl) ?_
 rintro z hS
 have hS : SH _ [_, _] z := hS
 have hK := hS.K
 refine aq1 ?_
 exact ⟨_, by first | rfl | exact res_cellT rfl rfl (hS.pt 1 rfl) rfl rfl, hK, by rw [gN, if_neg h15, if_neg h23, if_neg h31, if_neg h39]; rfl⟩
end Go.Ab
namespace Go.Ab
open Go.Proofs
section
variable {P : Program} {T : Tab} {K : Kn} {nt : NT} {ops : Array Oper} {rest : List Oper} {m : Sy} {s s0 : St} {Q : Sy → St → Prop} {d ty : Nat} {pos : String} {af : Array Edge} {g : Option (Nat × Bool)} {L : List Chunk}
end
set_option maxRecDepth 10000 in
set_option maxHeartbeats 8000000 in
theorem grow_ok {s : St} {n : Nat} (hok : s.Ok) (hn : n ≤ 8388608) :
  CallS Tryz.prog Tt Kt 79 [.nils, .int .i64 (n : Nat)] s fun r s' => Keep [] s s' ∧ Row s'.h 2 r [] ∧ (∀ g ∈ r.gs, s.ctr ≤ g) ∧ (r.gs = [] → r = .nils) := by
 refine call_of (fn := Tryz.f79) (nt := 27) Tryz.func79 rfl rfl rfl ?_
 refine aq0 ?_
 have hS := SH.start hok
 have hK := hS.K
 refine aq3 ?_
 refine wc_condT rfl (fun h6 => ?_) (fun h6 => ?_)
 ·(exfalso; simp only [dtt] at h6; omega)
 simp only [dff] at h6
 refine aq2 ?_
 refine wvz (op_cap_nil rfl rfl rfl rfl rfl) ?_
 refine aq1 ?_
 refine wvz (op_len (n := 0) rfl rfl rfl rfl rfl rfl) ?_
 refine wvz (v := .int .i64 0) (op_sub (a := 0) (b := 0) rfl rfl (by unfold In64; omega)) ?_
 refine wvz (v := .int .i64 ((n : Nat) : Int)) (fun t ht => (op_sub (a := (n : Nat)) (b := 0) rfl rfl (by unfold In64; omega) t ht).trans (by rw [Int.sub_zero])) ?_
 refine aq3 ?_
 refine wc_condT rfl (fun h16 => ?_) (fun h16 => ?_)
 ·simp only [dtt, gt_iff_lt] at h16
  refine aq2 ?_
  refine wvz (op_cap_nil rfl rfl rfl rfl rfl) ?_
  refine wvz (v := .nils) (op_cut (v := .nils) (cs := []) (sz := 2) (l := none) (h := some 0) (l' := 0) (h' := 0) rfl rfl (optY_some rfl rfl) rfl rfl rfl rfl rfl rfl rfl (Nat.zero_le _) (nlr _)) ?_
  refine aq1 ?_
  refine w_appz (n := n) rfl rfl rfl rfl (by decide) rfl rfl rfl rfl rfl rfl rfl (by omega) (by simp [maxBytes]; omega) (by omega) rfl (by decide) rfl hS.ok ?_
  rintro gv z hgv hk hcz hgg
  have hb : ∀ g ∈ gv.gs, s.ctr ≤ g := fun g h => by rw [hgg] at h; rw [msi.1 h]; exact hK.ctr
  have hne : gv.gs ≠ [] := by rw [hgg]; simp
  have hK := hK.two hk
  refine aq1 ?_
  refine wvz (op_len (n := 0) rfl rfl rfl rfl rfl rfl) ?_
  refine wvz (op_cut (l := none) (h := some 0) (l' := 0) (h' := 0) rfl rfl (optY_some rfl rfl) rfl rfl rfl rfl hgv rfl rfl (Nat.zero_le _) (Nat.zero_le _)) ?_
  have hcv := hgv.cut (l := 0) (h := 0) (nlr _) (Nat.zero_le _)
  refine aq3 ?_
  exact ⟨_, rfl, hK, (by show Row z.h 2 (cutA gv 0 0) []; simpa using hcv), (fun g h => by have h : g ∈ (cutA gv 0 0).gs := h; rw [cutA_gs] at h; exact hb g h), fun h => by have h : (cutA gv 0 0).gs = [] := h; rw [cutA_gs] at h; exact (hne h).elim⟩
 simp only [dff, gt_iff_lt] at h16
 refine aq2 ?_
 exact ⟨_, rfl, hK, rfl, (fun g h => by cases h), fun _ => rfl⟩
theorem flat_next {α β : Type} {rs : List (α × List β)} {i : Nat} {c : α × List β} (h : rs[i]? = some c) : (rs.take (i + 1)).flatMap (·.2) = (rs.take i).flatMap (·.2) ++ c.2 := by
 rw [← take_snoc h, List.flatMap_append]; simp
theorem sum_next {α β : Type} {rs : List (α × List β)} {i : Nat} {a : α} {xs : List β} (h : rs[i]? = some (a, xs)) : ((rs.take (i + 1)).flatMap (·.2)).length = ((rs.take i).flatMap (·.2)).length + xs.length := by
 rw [flat_next h, laa]
theorem sum_le {α β : Type} {rs : List (α × List β)} {i : Nat} {a : α} {xs : List β} (h : rs[i]? = some (a, xs)) : ((rs.take i).flatMap (·.2)).length + xs.length ≤ (rs.flatMap (·.2)).length := by
 rw [← sum_next h]
 conv => rhs; rw [← List.take_append_drop (i + 1) rs]
 rw [List.flatMap_append, laa]; omega
set_option maxRecDepth 10000 in
set_option maxHeartbeats 8000000 in
theorem concat_ok {s : St} {v : AV} {rs : List (AV × List DeclL)} (hok : s.Ok) (hv : Row s.h 1 v (rs.map fun p => [p.1])) (hr : ∀ p ∈ rs, RowP 2 p.1 (p.2.map dC)) (hn : rs.length ≤ 8388608) (hl : (rs.flatMap (·.2)).length ≤ 8388608) :
  CallS Tryz.prog Tt Kt 41 [v] s fun r s' => Keep [] s s' ∧ RowP 2 r ((rs.flatMap (·.2)).map dC) := by
 refine CallS.row hok ?_
 refine call_of (fn := Tryz.f41) (nt := 36) Tryz.func41 rfl rfl rfl ?_
 refine aq0 ?_
 have hS := SH.start hok
 refine aq3 ?_
 refine wvz (oN hv.slenF) ?_
 refine aq1 ?_
 refine wc_loop_at (fun jj m z => ∃ i : Nat, jj = rs.length - i ∧ i ≤ rs.length ∧ m = [(0, v), (3, .int .i64 (((rs.take i).flatMap (·.2)).length : Nat)), (9, v), (10, .int .i64 (rs.length : Nat)), (11, .int .i64 (i : Nat))] ∧ z = s) rs.length
  [(0, v), (3, .int .i64 0), (9, v), (10, .int .i64 (rs.length : Nat)), (11, .int .i64 ((0 : Nat) : Int))] (scn rfl (scn rfl (scn rfl (scn rfl (scn rfl (Sub.nil _)))))) ⟨0, by simp, by simp, rfl, rfl⟩ ?_
 rintro jj m z ⟨i, rfl, hi, rfl, eX⟩
 obtain rfl := eX.symm
 refine aq1 ?_
 refine wcd (fun h12 => ?_) (fun h12 => ?_)
 ·refine aq0 ?_
  obtain ⟨⟨a, xs⟩, hc⟩ : ∃ c, rs[i]? = some c := ⟨_, gee (by omega)⟩
  have hp := hr (a, xs) (mog hc)
  have hsum := sum_le hc
  have hsn := sum_next hc
  refine aq0 ?_
  refine wvz (oJ hv) ?_
  refine wvz (oM (Row.mk_pt hv hc)) ?_
  refine aq3 ?_
  refine wvz (op_len rfl rfl rfl rfl rfl (by have := hp.slen; rwa [lmm] at this)) ?_
  refine wvz (v := .int .i64 (((rs.take (i + 1)).flatMap (·.2)).length : Nat)) (fun t ht => (op_add (a := (((rs.take i).flatMap (·.2)).length : Nat)) (b := (xs.length : Nat)) rfl rfl (by unfold In64; omega) t ht).trans (by rw [hsn, Int.natCast_add])) ?_
  refine aq3 ?_
  refine wc_condT rfl (fun h20 => ?_) (fun h20 => ?_)
  ·(exfalso; simp only [dtt] at h20; omega)
  simp only [dff] at h20
  refine aq0 ?_
  refine wad ?_
  refine aq1 ?_
  exact rn ⟨i + 1, rfl, by omega, rfl, rfl⟩
 obtain rfl : i = rs.length := by omega
 rw [List.take_length]
 refine aq1 ?_
 refine wkz (grow_ok hok hl) ?_
 rintro w z ⟨hk, hw, hwb, hwn⟩
 have hS : SH s [rowC w 2 ([].map dC)] z := hS.add hk (rowC w 2 []) ⟨hw, hwn⟩ (fun g h => ⟨hwb g h, hw.lt hk.ok g h⟩)
 have hK := hS.K
 refine aq2 ?_
 refine wvz (op_len rfl rfl rfl rfl rfl (hv.keep0 hK).slenF) ?_
 refine aq1 ?_
 refine wc_loop_at (fun jj m z => ∃ (i : Nat) (w : AV), jj = rs.length - i ∧ i ≤ rs.length ∧ m = [(6, w), (25, v), (26, .int .i64 (rs.length : Nat)), (27, .int .i64 (i : Nat))] ∧ SH s [rowC w 2 (((rs.take i).flatMap (·.2)).map dC)] z) rs.length
  [(6, w), (25, v), (26, .int .i64 (rs.length : Nat)), (27, .int .i64 ((0 : Nat) : Int))] (scn rfl (scn rfl (scn rfl (scn rfl (Sub.nil _))))) ⟨0, w, by simp, by simp, rfl, hS⟩ ?_
 clear hS hK hw hwb hwn hk
 rintro jj m z ⟨i, w, rfl, hi, rfl, hS⟩
 have hK := hS.K
 refine aq1 ?_
 refine wcd (fun h28 => ?_) (fun h28 => ?_)
 ·refine aq0 ?_
  obtain ⟨⟨a, xs⟩, hc⟩ : ∃ c, rs[i]? = some c := ⟨_, gee (by omega)⟩
  have hp := hr (a, xs) (mog hc)
  have hsum := sum_le hc
  have hsn := sum_next hc
  have hvz := hv.keep0 hK
  refine aq0 ?_
  refine wvz (oJ hvz) ?_
  refine wvz (oM (Row.mk_pt hvz hc)) ?_
  refine aq3 ?_
  refine ws_append 0 hS rfl rfl rfl rfl rfl rfl rfl rfl rfl rfl rfl (by decide) (hp.up _) (by (simp only [lmm, maxBytes]; omega)) (by (simp only [lmm, maxBytes]; omega)) ?_
  rintro at33 z hS
  have hS : SH _ [_] z := hS
  refine aq1 ?_
  refine wad ?_
  refine aq1 ?_
  have hS : SH s [rowC at33 2 (((rs.take (i + 1)).flatMap (·.2)).map dC)] z := by rw [flat_next hc, List.map_append]; exact hS
  exact rn ⟨i + 1, at33, rfl, by omega, rfl, hS⟩
 obtain rfl : i = rs.length := by omega
 rw [List.take_length] at hS
 refine aq2 ?_
 exact ⟨_, rfl, hK, hS.row 0 rfl, fun g hg => (hS.bd 0 rfl g hg).1⟩
end Go.Ab
namespace Go.Ab
open Go.Proofs
theorem SrcP.leaf {x : SrcL} {c : List AV} (hv : SrcP x c) : c.all AV.leaf = true := by
 obtain ⟨vp, vg, va, vc, vf, rfl, h1, h2, h3, h4, css, h5, -⟩ := hv
 simp only [List.all_cons, List.all_nil, h1.leaf, h2.leaf, h3.leaf, h4.leaf, h5.leaf]; rfl
theorem fill2 {a b z z' : AV} (ha : a.leaf = true) (hb : b.leaf = true) : fillA (fun n => some (n * 1, 1)) [z, z'] [(0, a), (1, b)] = some [a, b] := by
 simp only [fillA, AV.cells_leaf ha, AV.cells_leaf hb]
 rfl
theorem locN_in {x : SrcL} {k : Nat} {y : FunL} (h : x.funcs[k]? = some y) : locN x (k : Nat) = y.params ++ y.vars := by
 have := (ges.1 h).1
 rw [locN, if_pos ⟨by omega, by omega⟩]
 simp [h]
theorem locN_out {x : SrcL} {f : Int} (h : ¬ (0 ≤ f ∧ f < x.funcs.length)) : locN x f = [] := by rw [locN, if_neg h]
theorem fiI_nil (nm : ByteArray) : fiI [] nm = -1 := rfl
theorem fN_out {x : SrcL} {f : Int} {nm : ByteArray} (h : ¬ (0 ≤ f ∧ f < x.funcs.length)) : fN x f nm = gN x nm := by
 rw [fN, locN_out h]; rfl
theorem locN_small {x : SrcL} {f : Int} (hx : x.small) : (locN x f).length ≤ 4194304 := by
 unfold locN
 split
 ·split
  ·rename_i y hy
   have := hx.2.2.2.2.2 y (mog hy)
   rw [laa]
   have h1 := this.1
   have h2 := this.2.2.1
   omega
  ·simp
 ·simp
set_option maxRecDepth 10000 in
set_option maxHeartbeats 8000000 in
theorem find_ok {s : St} {c : List AV} {x : SrcL} {f : Int} {nm : ByteArray} (hok : s.Ok) (hx : x.small) (hv : SrcP x c) :
  CallS Tryz.prog Tt Kt 15 [.agg c, .int .i64 f, .str nm] s fun r s' => Keep [] s s' ∧ r = refA (fN x f nm) := by
 have hz := hv.leaf
 obtain ⟨vp, vg, va, vc, vf, rfl, hvp, hvg, hva, hvc, csf, hrf, hlf, hF⟩ := id hv
 obtain ⟨hl1, hl2, hl3, hl4, hl5, hsm⟩ := id hx
 have hsf : vf.slen = some x.funcs.length := by rw [hrf.slen, hlf]
 refine call_of (fn := Tryz.f15) (nt := 45) Tryz.func15 rfl rfl rfl ?_
 refine aq0 ?_
 have hS := SH.start hok
 refine aq0 ?_
 refine ws_box hS rfl rfl rfl hz ?_
 rintro p0 z hS hk
 have hS : SH _ [_] z := hS
 refine ws_alloc hS rfl rfl rfl rfl ?_
 rintro p1 z hS hk
 have hS : SH _ [_, _] z := hS
 have hK := hS.K
 refine aq4 ?_
 refine w_split (i := 12) rfl (fun h12 => ?_) (fun h12 => ?_)
 ·simp only [dtt, ge_iff_le] at h12
  refine aq2 ?_
  refine wvz (oL 0 hS) ?_
  refine wvz (oN hsf) ?_
  refine aq2 ?_
  refine wcd (fun h18 => ?_) (fun h18 => ?_)
  ·obtain ⟨k, rfl⟩ : ∃ k : Nat, f = k := ⟨f.toNat, by omega⟩
   obtain ⟨y, hy⟩ : ∃ y, x.funcs[k]? = some y := ⟨_, gee (by omega)⟩
   obtain ⟨cy, hcy⟩ : ∃ c, csf[k]? = some c := ⟨_, gee (by omega)⟩
   obtain ⟨yp, yr, yv, yb, rfl, hyp, hyr, hyv, hyb⟩ := hF k y cy hy hcy
   have hsy := hsm y (mog hy)
   obtain ⟨hy1, hy2, hy3, hy4, hy5⟩ := id hsy
   refine aq0 ?_
   have hR := Keep.refl (s := z) (hK.ok)
   refine wc_draw (Old z []) (by kernel_rfl) rfl ?_
   refine aq1 ?_
   refine wo_load hR rfl rfl ((hS.pt 0 rfl).at (nl rfl)) rfl (fun _ _ h => by cases h) rfl rfl ?_
   refine aq1 ?_
   refine wov (op_idx rfl rfl (natA_cast _ _) rfl rfl rfl rfl (RowP.up (by assumption) _) (by omega)) ?_
   refine wov (op_fld rfl rfl rfl rfl (by decide) (Row.pt (RowP.up (by assumption) _) (by assumption)) (nl rfl)) ?_
   refine wo_load hR rfl rfl (Pt.fld (Row.pt (RowP.up (by assumption) _) (by assumption)) _ (nl rfl)) rfl (fun _ _ h => by cases h) rfl rfl ?_
   refine aq1 ?_
   refine wo_load hR rfl rfl ((hS.pt 0 rfl).at (nl rfl)) rfl (fun _ _ h => by cases h) rfl rfl ?_
   refine aq1 ?_
   refine wov (op_idx rfl rfl (natA_cast _ _) rfl rfl rfl rfl (RowP.up (by assumption) _) (by omega)) ?_
   refine wov (op_fld rfl rfl rfl rfl (by decide) (Row.pt (RowP.up (by assumption) _) (by assumption)) (nl rfl)) ?_
   refine wo_load hR rfl rfl (Pt.fld (Row.pt (RowP.up (by assumption) _) (by assumption)) _ (nl rfl)) rfl (fun _ _ h => by cases h) rfl rfl ?_
   refine wo_lit (c := [yp, yv]) [[yp], [yv]] hR rfl rfl rfl rfl rfl rfl rfl (by decide) (by decide) (fill2 hyp.leaf hyv.leaf) (by simp only [List.all_cons, List.all_nil, hyp.leaf, hyv.leaf]; rfl) rfl (by intro c hc; simp only [List.mem_cons, nmn, or_false] at hc; rcases hc with rfl | rfl <;> simp [hyp.leaf, hyv.leaf]) rfl ?_
   rintro lv z1 hlv hk1 - hlg
   have hR := hR.two hk1
   refine wo_call hR rfl rfl (fun _ => rfl) (op_call rfl rfl rfl rfl) (concat_ok (rs := [(yp, y.params), (yv, y.vars)]) hR.ok hlv (by intro p hp; simp only [List.mem_cons, nmn, or_false] at hp; rcases hp with rfl | rfl; exact hyp; exact hyv) (by simp) (by simp; omega)) (fun _ _ h => h.1) ?_
   rintro lr sX ⟨hkX, hlr⟩ hR
   have hlr : RowP 2 lr ((locN x (k : Nat)).map dC) := by rw [locN_in hy]; simpa using hlr
   have hls := locN_small (f := (k : Nat)) hx
   refine aq1 ?_
   have hS := hS.mov hR
   have hK := hS.K
   refine aq2 ?_
   refine w_call rfl rfl (op_call rfl rfl rfl rfl) (at103_ok hK.ok (by rw [lmm]; omega) hlr (namR_map (fun _ => ⟨_, rfl⟩) _)) ?_
   rintro _ z ⟨hk, rfl⟩
   have hS := hS.mov hk
   have hK := hS.K
   refine aq3 ?_
   refine wc_condT rfl (fun h37 => ?_) (fun h37 => ?_)
   ·simp only [dtt, ge_iff_le] at h37
    refine aq2 ?_
    refine ws_store 1 hS rfl rfl rfl rfl rfl rfl (by rfl) (nl rfl) ?_
    rintro z hS
    have hS : SH _ [_, _] z := hS
    have hK := hS.K
    refine aq1 ?_
    exact ⟨_, res_cellT rfl rfl (hS.pt 1 rfl) rfl rfl, hK, by rw [fN, if_pos h37]; rfl⟩
   simp only [dff, ge_iff_le] at h37
   refine aq0 ?_
   refine wvz (oL 0 hS) ?_
   refine aq1 ?_
   refine wkz (global_ok hK.ok hx hv) ?_
   rintro _ z ⟨hk, rfl⟩
   have hS := hS.mov hk
   refine aq2 ?_
   refine ws_store 1 hS rfl rfl rfl rfl rfl rfl (by rfl) (nl rfl) ?_
   rintro z hS
   have hS : SH _ [_, _] z := hS
   have hK := hS.K
   refine aq1 ?_
   exact ⟨_, res_cellT rfl rfl (hS.pt 1 rfl) rfl rfl, hK, by rw [fN, if_neg h37]; rfl⟩
  refine aq0 ?_
  refine wvz (oL 0 hS) ?_
  refine aq1 ?_
  refine wkz (global_ok hK.ok hx hv) ?_
  rintro _ z ⟨hk, rfl⟩
  have hS := hS.mov hk
  refine aq2 ?_
  refine ws_store 1 hS rfl rfl rfl rfl rfl rfl (by rfl) (nl rfl) ?_
  rintro z hS
  have hS : SH _ [_, _] z := hS
  have hK := hS.K
  refine aq1 ?_
  exact ⟨_, res_cellT rfl rfl (hS.pt 1 rfl) rfl rfl, hK, by rw [fN_out (by omega)]; rfl⟩
 simp only [dff, ge_iff_le] at h12
 refine aq6 ?_
 refine wc_cond_f rfl ?_
 refine aq0 ?_
 refine wvz (oL 0 hS) ?_
 refine aq1 ?_
 refine wkz (global_ok hK.ok hx hv) ?_
 rintro _ z ⟨hk, rfl⟩
 have hS := hS.mov hk
 refine aq2 ?_
 refine ws_store 1 hS rfl rfl rfl rfl rfl rfl (by rfl) (nl rfl) ?_
 rintro z hS
 have hS : SH _ [_, _] z := hS
 have hK := hS.K
 refine aq1 ?_
 exact ⟨_, res_cellT rfl rfl (hS.pt 1 rfl) rfl rfl, hK, by rw [fN_out (by omega)]; rfl⟩
end Go.Ab
namespace Go.Ab
open Go.Proofs
theorem fiI_hit {ns : List ByteArray} {nm : ByteArray} {i : Nat} (h : ∀ j, j < i → eqS (ns.getD j ByteArray.empty) nm = false) (hi : i < ns.length) (hq : eqS (ns.getD i ByteArray.empty) nm = true) : fiI ns nm = i := idxQ_hit h hi hq
theorem fiI_none {ns : List ByteArray} {nm : ByteArray} (h : ∀ j, j < ns.length → eqS (ns.getD j ByteArray.empty) nm = false) : fiI ns nm = -1 := idxQ_none h
end Go.Ab
namespace Go.Ab
def FrzAt (h : Tr Grp) (g : Nat) (xs : List AV) : Prop := Tr.get h g = some ⟨[⟨[], 0, some (.frz xs)⟩]⟩
def bytesA (b : ByteArray) : List AV := b.data.toList.map fun c => .int .u8 c.toNat
def frzC (g : Nat) (xs : List AV) : Chunk := ⟨fun x => x = g, fun h => FrzAt h g xs, fun k h hY => h.keep g (fun hy => hY g hy rfl) _ k⟩
section
variable {P : Program} {T : Tab} {K : Kn} {nt : NT} {ops : Array Oper} {rest : List Oper} {m : Sy} {s s0 : St} {Q : Sy → St → Prop} {d ty : Nat} {pos : String} {af : Array Edge} {g : Option (Nat × Bool)} {L : List Chunk} {X : List Nat}
theorem w_bytes {src dst e : TypeId} {x : Operand} {b : ByteArray} {i i' ie : TI} (hg : guardY ops m g = some true) (hd : Nat.ble (d + 1) nt.n = true) (h1 : T src = some i) (h1' : i.sh = .text) (h2 : T dst = some i') (h2' : i'.sh = .slice e) (he : T e = some ie) (he' : ie.sh = .num .u8) (hz : ie.size = 1)
  (hx : evY m x = some (.str b)) (hb : b.size ≤ maxBytes) (hok : s.Ok) (k : ∀ z, FrzAt z.h s.ctr (bytesA b) → Keep [] s z → z.ctr = s.ctr + 1 → W P T K nt ops rest ((d, .slc s.ctr 0 0 1 b.size b.size false) :: m) z Q) :
  W P T K nt ops (⟨some d, .convert src dst x, ty, pos, af, g⟩ :: rest) m s Q := by
 obtain ⟨sh, size, by_, zero, flat⟩ := i
 obtain ⟨sh', size', by', zero', flat'⟩ := i'
 obtain ⟨she, sizee, bye, zeroe, flate⟩ := ie
 cases h1'; cases h2'; cases he'; cases hz
 obtain ⟨N, m', z', hq, hn⟩ := k (s.newOwn (.frz (bytesA b))) (by unfold FrzAt; simp only [St.newOwn, St.newG, Tr.get_set, if_true]) (newG_keep hok _).1 rfl
 refine ⟨N, m', z', hq, fun n hn' D t y ht => ?_⟩
 obtain ⟨t0, h0, hT⟩ := ht.told
 obtain ⟨xv, e1, e2⟩ := ev_ref hT (evY_ok h0 hx)
 have := e2.hard rfl
 subst this
 have hs : StepZ D y s (y.newOwn (.frz (bytesA b))) (s.newOwn (.frz (bytesA b))) := .newG ht.st (own_gz (o' := .frz (bytesA b)) rfl)
 obtain ⟨D', t', y', f1, f2, f3⟩ := hn n hn' D (t.set d (.slc y.ctr 0 0 1 b.size b.size false)) _ ((ht.pass hs.pass hs.st).set (Nat.le_of_ble_eq_true hd) (by rw [ht.st.ctr]; exact .refl _))
 refine ⟨D', t', y', ?_, hs.pass.trans f2, f3⟩
 have g1 : evStep T (evX P T K n) ops ⟨some d, .convert src dst x, ty, pos, af, g⟩ t y = none := by
  simp only [evStep, guardC_ok ht hg, evOp, h1, h2, e1]
 have g2 : evOwn T (.convert src dst x) t y = some (.slc y.ctr 0 0 1 b.size b.size false, t.ds, y.newOwn (.frz (bytesA b))) := by
  simp only [evOwn, h1, h2, e1, he]
  rw [if_pos hb]
  rfl
 rw [evOps, evStepX, g1]
 simp only [guardC_ok ht hg, g2]
 have : ({ putA t (some d) (.slc y.ctr 0 0 1 b.size b.size false) with ds := t.ds } : TL) = t.set d (.slc y.ctr 0 0 1 b.size b.size false) := by
  rw [← TL.ds_set t d (.slc y.ctr 0 0 1 b.size b.size false)]; rfl
 rw [this]
 exact f1
theorem ws_bytes {src dst e : TypeId} {x : Operand} {b : ByteArray} {i i' ie : TI} (hS : SH s0 L s X) (hg : guardY ops m g = some true) (hd : Nat.ble (d + 1) nt.n = true) (h1 : T src = some i) (h1' : i.sh = .text) (h2 : T dst = some i') (h2' : i'.sh = .slice e) (he : T e = some ie) (he' : ie.sh = .num .u8) (hz : ie.size = 1)
  (hx : evY m x = some (.str b)) (hb : b.size ≤ maxBytes) (k : ∀ c z, SH s0 (L ++ [frzC c (bytesA b)]) z X → Keep [] s z → W P T K nt ops rest ((d, .slc c 0 0 1 b.size b.size false) :: m) z Q) :
  W P T K nt ops (⟨some d, .convert src dst x, ty, pos, af, g⟩ :: rest) m s Q :=
 w_bytes hg hd h1 h1' h2 h2' he he' hz hx hb hS.ok fun z hf hk hc => k _ z (hS.add hk _ hf fun x hx => by
   have hx : x = s.ctr := hx
   subst hx; omega) hk
theorem op_idxB {tt e : TypeId} {x ix : Operand} {i ie : TI} {vi : AV} {c n q : Nat} (hx : evY m x = some (.slc c 0 0 1 n n false)) (hi : evY m ix = some vi) (hn : natA vi = some q) (hT : T tt = some i) (hs : i.sh = .slice e) (he : T e = some ie) (hz : ie.size = 1) (hl : q < n) :
  ∀ t, Has t nt m → evOp T (.indexAddr tt x ix) t s = some (.val (.ptr c 0 q), s) := by
 intro t ht
 obtain ⟨sh, size, by_, zero, flat⟩ := i
 cases hs
 have : idxA T tt (.slc c 0 0 1 n n false) q = some (.ptr c 0 q) := by
  unfold idxA
  simp only [hT, he, hz, hl, and_self, if_true]
  simp
 simp only [evOp, evY_ok ht hx, evY_ok ht hi, hn, this]
theorem op_loadB {tt : TypeId} {a : Operand} {i : TI} {c q : Nat} {xs : List AV} {v : AV} (hx : evY m a = some (.ptr c 0 q)) (hT : T tt = some i) (hc : i.cnt = 1) (hag : i.sh.isAgg = false) (hf : FrzAt s.h c xs) (hq : xs[q]? = some v) :
  ∀ t, Has t nt m → evOp T (.load tt a) t s = some (.val v, s) := by
 intro t ht
 have hl := (ges.1 hq).1
 have h1 : s.read c 0 q 1 = none := by
  unfold St.read St.get
  rw [show Tr.get s.h c = _ from hf]
  rfl
 have h2 : s.readF c 0 q 1 = some [v] := by
  unfold St.readF St.get
  rw [show Tr.get s.h c = _ from hf]
  simp only [true_and]
  rw [if_pos (by omega)]
  congr 1
  rw [List.drop_eq_getElem_cons hl]
  rw [gee hl] at hq
  cases hq; rfl
 have h3 : s.readL c 0 q 1 = some [v] := by unfold St.readL; rw [h1]; exact h2
 simp only [evOp, hT, evY_ok ht hx, hc, h3, hag]
 rfl
theorem bytesA_get {b : ByteArray} {q : Nat} (h : q < b.size) : (bytesA b)[q]? = some (.int .u8 (b[q]'h).toNat) := by
 unfold bytesA
 rw [gmm, gee (by simpa using h)]
 rfl
theorem op_lenS {tt : TypeId} {x : Operand} {b : ByteArray} {i : TI} {args : Array Operand} {tys : Array TypeId} (ha : args.toList = [x]) (hb : tys.toList = [tt]) (hx : evY m x = some (.str b)) (hT : T tt = some i) (hs : i.sh = .text) :
  ∀ t, Has t nt m → evOp T (.call ⟨.builtin .len, args, tys⟩) t s = some (.val (.int .i64 (b.size : Nat)), s) := by
 intro t ht
 have h1 : evsY m [x] = some [.str b] := by simp only [evsY, hx]
 simp only [evOp, ha, hb, evsY_ok ht h1, callA, lenA, hT, hs]
theorem op_index {tt : TypeId} {x ix : Operand} {b : ByteArray} {vi : AV} {q : Nat} {i : TI} (hx : evY m x = some (.str b)) (hi : evY m ix = some vi) (hn : natA vi = some q) (hT : T tt = some i) (hs : i.sh = .text) (hl : q < b.size) :
  ∀ t, Has t nt m → evOp T (.index tt x ix) t s = some (.val (.int .u8 (b[q]'hl).toNat), s) := by
 intro t ht
 obtain ⟨sh, size, by_, zero, flat⟩ := i
 cases hs
 have : b[q]? = some (b[q]'hl) := by simp [hl]
 simp only [evOp, hT, evY_ok ht hx, evY_ok ht hi, hn, this]
end
end Go.Ab
