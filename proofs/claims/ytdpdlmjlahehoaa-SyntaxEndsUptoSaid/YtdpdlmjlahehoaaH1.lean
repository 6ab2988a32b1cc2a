/- A logic for the abstract machine: symbolic temporaries, steps, regions, code, calls. -/
import Derived.Test.YtdpdlmjlahehoaaGU
import Derived.Test.YtdpdlmjlahehoaaGV
namespace Go.Ab
/-- What is known of the temporaries; the latest ahead. -/
abbrev Sy := List (Nat × AV)
def Sy.at : Sy → Nat → Option AV
  | [], _ => none
  | (j, v) :: r, i => bif Nat.beq i j then some v else Sy.at r i
structure Has (t : TL) (nt : Nat) (m : Sy) : Prop where
  n : t.n = nt
  at_ : ∀ i v, m.at i = some v → t.get i = v
theorem Has.set {t : TL} {nt : Nat} {m : Sy} (h : Has t nt m) {d : Nat} (v : AV) (hd : d < nt) : Has (t.set d v) nt ((d, v) :: m) := by
  refine ⟨by rw [TL.n_set, h.n], fun i x hx => ?_⟩
  rw [TL.get_set]
  unfold Sy.at at hx
  by_cases hi : i = d
  · subst hi
    rw [nb_t rfl, cond_true] at hx
    rw [if_pos ⟨rfl, by rw [h.n]; exact hd⟩]
    exact Option.some.inj hx
  · rw [nb_f hi, cond_false] at hx
    rw [if_neg (fun e => hi e.1)]
    exact h.at_ i x hx
/-- What is known here is known there. -/
def Sub (m' m : Sy) : Prop := ∀ i v, m'.at i = some v → m.at i = some v
theorem Sub.nil (m : Sy) : Sub [] m := fun _ _ h => by cases h
theorem Sub.cons {i : Nat} {v : AV} {r m : Sy} (h : m.at i = some v) (hr : Sub r m) : Sub ((i, v) :: r) m := by
  intro j x hx
  unfold Sy.at at hx
  by_cases hi : j = i
  · subst hi
    rw [nb_t rfl, cond_true] at hx
    rw [h]; exact hx
  · rw [nb_f hi, cond_false] at hx
    exact hr j x hx
theorem Sub.refl (m : Sy) : Sub m m := fun _ _ h => h
theorem Sub.trans {a b c : Sy} (h : Sub a b) (k : Sub b c) : Sub a c := fun i v e => k i v (h i v e)
theorem Has.sub {t : TL} {nt : Nat} {m m' : Sy} (h : Has t nt m) (s : Sub m' m) : Has t nt m' := ⟨h.n, fun i v e => h.at_ i v (s i v e)⟩
def syOf : Nat → List AV → Sy
  | _, [] => []
  | k, a :: r => (k, a) :: syOf (k + 1) r
theorem syOf_at : ∀ (l : List AV) (k i : Nat) (v : AV), (syOf k l).at i = some v → k ≤ i ∧ l[i - k]? = some v
  | [], _, _, _, h => by cases h
  | a :: r, k, i, v, h => by
    unfold syOf Sy.at at h
    by_cases hi : i = k
    · subst hi
      rw [nb_t rfl, cond_true] at h
      exact ⟨Nat.le_refl _, by simpa using h⟩
    · rw [nb_f hi, cond_false] at h
      obtain ⟨h1, h2⟩ := syOf_at r (k + 1) i v h
      refine ⟨by omega, ?_⟩
      rw [show i - k = (i - (k + 1)) + 1 by omega]
      simpa using h2
theorem Has.start (args : List AV) (n : Nat) : Has (TL.start args n) (args.length + (n - args.length)) (syOf 0 args) := by
  refine ⟨TL.n_start _ _, fun i v h => ?_⟩
  obtain ⟨-, h2⟩ := syOf_at args 0 i v h
  rw [TL.get_start, List.getD_eq_getElem?_getD, show args[i]? = some v by simpa using h2]
  rfl

def evY (m : Sy) : Operand → Option AV
  | .tmp i => m.at i
  | .const v => ofVal v
  | .global _ => none
  | .func f => some (.fn f [])
theorem evY_ok {t : TL} {nt : Nat} {m : Sy} (h : Has t nt m) {x : Operand} {v : AV} (e : evY m x = some v) : ev t x = some v := by
  cases x with
  | tmp i => exact congrArg some (h.at_ i v e)
  | _ => exact e
def evsY (m : Sy) : List Operand → Option (List AV)
  | [] => some []
  | x :: r => match evY m x with
    | none => none
    | some v => match evsY m r with
      | none => none
      | some vs => some (v :: vs)
theorem evsY_ok {t : TL} {nt : Nat} {m : Sy} (h : Has t nt m) : ∀ {l : List Operand} {vs : List AV}, evsY m l = some vs → evs t l = some vs
  | [], _, e => e
  | x :: r, vs, e => by
    unfold evsY at e
    unfold evs
    cases hx : evY m x with
    | none => rw [hx] at e; cases e
    | some v =>
      rw [hx] at e
      cases hr : evsY m r with
      | none => rw [hr] at e; cases e
      | some ws =>
        rw [hr] at e
        rw [evY_ok h hx, evsY_ok h hr]
        exact e
def evPartsY (m : Sy) : List (Nat × Operand) → Option (List (Nat × AV))
  | [] => some []
  | p :: r => match evY m p.2 with
    | none => none
    | some v => match evPartsY m r with
      | none => none
      | some vs => some ((p.1, v) :: vs)
theorem evPartsY_ok {t : TL} {nt : Nat} {m : Sy} (h : Has t nt m) : ∀ {l : List (Nat × Operand)} {vs : List (Nat × AV)}, evPartsY m l = some vs → evParts t l = some vs
  | [], _, e => e
  | (i, x) :: r, vs, e => by
    unfold evPartsY at e
    unfold evParts
    cases hx : evY m x with
    | none => simp only [hx] at e; cases e
    | some v =>
      simp only [hx] at e
      cases hr : evPartsY m r with
      | none => rw [hr] at e; cases e
      | some ws =>
        rw [hr] at e
        rw [evY_ok h hx, evPartsY_ok h hr]
        exact e
def guardY (ops : Array Oper) (m : Sy) : Option (Nat × Bool) → Option Bool
  | none => some true
  | some (j, want) => match (ops[j]?).bind (·.dst) with
    | none => some false
    | some d => match m.at d with
      | some (.bool b) => some (b == want)
      | some .undef => some false
      | _ => none
theorem guardY_ok {ops : Array Oper} {t : TL} {nt : Nat} {m : Sy} (h : Has t nt m) {g : Option (Nat × Bool)} {b : Bool} (e : guardY ops m g = some b) : guardA ops t g = some b := by
  cases g with
  | none => exact e
  | some q =>
    obtain ⟨j, want⟩ := q
    unfold guardY at e
    unfold guardA
    simp only at e ⊢
    cases hd : (ops[j]?).bind (·.dst) with
    | none => rw [hd] at e; exact e
    | some d =>
      rw [hd] at e
      simp only at e ⊢
      cases hm : m.at d with
      | none => rw [hm] at e; cases e
      | some v =>
        rw [hm] at e
        rw [h.at_ _ _ hm]
        cases v <;> first | exact e | cases e
def putY (m : Sy) : Option Nat → AV → Sy
  | none, _ => m
  | some d, v => (d, v) :: m
def dstOk (nt : Nat) : Option Nat → Bool
  | none => true
  | some d => Nat.ble (d + 1) nt
theorem Has.put {t : TL} {nt : Nat} {m : Sy} (h : Has t nt m) {d : Option Nat} (v : AV) (hd : dstOk nt d = true) : Has (putA t d v) nt (putY m d v) := by
  cases d with
  | none => exact h
  | some d => exact h.set v (Nat.le_of_ble_eq_true hd)

section
variable {P : Program} {T : Tab}
/-- A call answers, and what. -/
def CallS (P : Program) (T : Tab) (f : FuncId) (args : List AV) (s : St) (Q : AV → St → Prop) : Prop :=
  ∃ N v s', Q v s' ∧ ∀ n, N ≤ n → evCall P T n f args s = some (v, s')
/-- Some operations in the text's order; nt: how many temporaries. -/
def W (P : Program) (T : Tab) (nt : Nat) (ops : Array Oper) (l : List Oper) (m : Sy) (s : St) (Q : Sy → St → Prop) : Prop :=
  ∃ N m' s', Q m' s' ∧ ∀ n, N ≤ n → ∀ t, Has t nt m → ∃ t', evOps T (evCall P T n) ops l t s = some (t', s') ∧ Has t' nt m'
/-- One operation. -/
def W1 (P : Program) (T : Tab) (nt : Nat) (ops : Array Oper) (o : Oper) (m : Sy) (s : St) (Q : Sy → St → Prop) : Prop :=
  ∃ N m' s', Q m' s' ∧ ∀ n, N ≤ n → ∀ t, Has t nt m → ∃ t', evStep T (evCall P T n) ops o t s = some (t', s') ∧ Has t' nt m'
/-- Operations that leave all as it was, in a drawn region. -/
def WD (P : Program) (T : Tab) (nt : Nat) (ops : Array Oper) (l : List Oper) (m : Sy) (s : St) (D : Nat → Prop) (Q : Sy → St → Prop) : Prop :=
  ∃ N m' s', Q m' s' ∧ ∀ n, N ≤ n → ∀ t, Has t nt m → ∃ t' es, evLog T (evCall P T n) ops l (l.map fun _ => none) t s = some (t', s', es) ∧ Has t' nt m' ∧
    ∀ e ∈ es, e.al = none ∧ (∀ g, e.rd = some g → D g) ∧ ∀ g ∈ e.wr, ¬ D g
/-- Code. -/
def WC (P : Program) (T : Tab) (nt : Nat) (c : Code) (m : Sy) (s : St) (Q : Ex → Sy → St → Prop) : Prop :=
  ∃ N e m' s', Q e m' s' ∧ ∀ n k, N ≤ n → N ≤ k → ∀ t, Has t nt m → ∃ t', evCode T (evCall P T n) k c t s = some (e, t', s') ∧ Has t' nt m'

variable {nt : Nat} {ops : Array Oper} {o : Oper} {rest : List Oper} {m : Sy} {s : St} {Q : Sy → St → Prop}
theorem CallS.mono {f : FuncId} {args : List AV} {Q R : AV → St → Prop} (h : CallS P T f args s Q) (k : ∀ v s', Q v s' → R v s') : CallS P T f args s R := by
  obtain ⟨N, v, s', hq, hn⟩ := h
  exact ⟨N, v, s', k _ _ hq, hn⟩
theorem w_nil (h : Q m s) : W P T nt ops [] m s Q := ⟨0, m, s, h, fun _ _ t ht => ⟨t, rfl, ht⟩⟩
theorem w_cons (h : W1 P T nt ops o m s fun m1 s1 => W P T nt ops rest m1 s1 Q) : W P T nt ops (o :: rest) m s Q := by
  obtain ⟨N, m1, s1, ⟨N', m', s', hq, h'⟩, hn⟩ := h
  refine ⟨max N N', m', s', hq, fun n hn' t ht => ?_⟩
  obtain ⟨t1, e1, ht1⟩ := hn n (by omega) t ht
  obtain ⟨t2, e2, ht2⟩ := h' n (by omega) t1 ht1
  exact ⟨t2, by rw [evOps, e1]; exact e2, ht2⟩
theorem w1_val {v : AV} {s' : St} (hg : guardY ops m o.guard = some true) (hd : dstOk nt o.dst = true) (h : ∀ t, Has t nt m → evOp T o.op t s = some (.val v, s')) (k : Q (putY m o.dst v) s') : W1 P T nt ops o m s Q :=
  ⟨0, _, _, k, fun _ _ t ht => ⟨_, by rw [evStep, guardY_ok ht hg, h t ht], ht.put v hd⟩⟩
theorem w1_skip {s' : St} (hg : guardY ops m o.guard = some true) (hd : dstOk nt o.dst = true) (h : ∀ t, Has t nt m → evOp T o.op t s = some (.skip, s')) (k : Q (putY m o.dst .undef) s') : W1 P T nt ops o m s Q :=
  ⟨0, _, _, k, fun _ _ t ht => ⟨_, by rw [evStep, guardY_ok ht hg, h t ht], ht.put .undef hd⟩⟩
theorem w1_off (hg : guardY ops m o.guard = some false) (hd : dstOk nt o.dst = true) (k : Q (putY m o.dst .undef) s) : W1 P T nt ops o m s Q :=
  ⟨0, _, _, k, fun _ _ t ht => ⟨_, by rw [evStep, guardY_ok ht hg], ht.put .undef hd⟩⟩
theorem w1_call {f : FuncId} {args : List AV} {R : AV → St → Prop} (hg : guardY ops m o.guard = some true) (hd : dstOk nt o.dst = true) (h : ∀ t, Has t nt m → evOp T o.op t s = some (.call f args, s)) (hc : CallS P T f args s R)
    (k : ∀ v s', R v s' → Q (putY m o.dst v) s') : W1 P T nt ops o m s Q := by
  obtain ⟨N, v, s', hr, hn⟩ := hc
  exact ⟨N, _, _, k v s' hr, fun n hn' t ht => ⟨_, by rw [evStep, guardY_ok ht hg, h t ht]; simp only [hn n hn'], ht.put v hd⟩⟩

/-- The state as a drawn region's operation meets it. -/
def St.bare (s : St) : St := { s with wr := [] }
variable {D : Nat → Prop}
theorem wd_nil (h : Q m s) : WD P T nt ops [] m s D Q := ⟨0, m, s, h, fun _ _ t ht => ⟨t, [], rfl, ht, fun _ h => by cases h⟩⟩
theorem wd_cons (hr : ∀ t, Has t nt m → ∀ g, readsA t o.op = some g → D g)
    (h : W1 P T nt ops o m s.bare fun m1 s1 => (∀ g ∈ s1.wr, ¬ D g) ∧ WD P T nt ops rest m1 { s1 with wr := s1.wr ++ s.wr } D Q) : WD P T nt ops (o :: rest) m s D Q := by
  obtain ⟨N, m1, s1, ⟨hw, N', m', s', hq, h'⟩, hn⟩ := h
  refine ⟨max N N', m', s', hq, fun n hn' t ht => ?_⟩
  obtain ⟨t1, e1, ht1⟩ := hn n (by omega) t ht
  obtain ⟨t2, es, e2, ht2, he⟩ := h' n (by omega) t1 ht1
  refine ⟨t2, _ :: es, by rw [List.map_cons, evLog]; rw [show ({ s with wr := [] } : St) = s.bare from rfl, e1]; simp only; rw [e2], ht2, ?_⟩
  intro e hm
  rcases List.mem_cons.1 hm with rfl | hm
  · refine ⟨rfl, fun g hg => ?_, hw⟩
    simp only at hg
    split at hg
    · exact hr t ht g hg
    · cases hg
  · exact he e hm

variable {c a b : Code} {R : Ex → Sy → St → Prop}
theorem wc_region {id : Nat} (h : W P T nt ops ops.toList m s (R .normal)) : WC P T nt (.region id ops false) m s R := by
  obtain ⟨N, m', s', hq, hn⟩ := h
  refine ⟨N + 1, .normal, m', s', hq, fun n k hn1 hk t ht => ?_⟩
  obtain ⟨t', e1, ht'⟩ := hn n (by omega) t ht
  obtain ⟨k, rfl⟩ : ∃ j, k = j + 1 := ⟨k - 1, by omega⟩
  exact ⟨t', by simp only [evCode, e1], ht'⟩
def noEarly (l : List Oper) : Bool := l.all fun o => !Oper.early false o
theorem hoist_none : ∀ (l : List Oper) (gs : List (List AV)) (s : St), noEarly l = true → hoist false T l gs s = some (s, l.map fun _ => none)
  | [], _, _, _ => rfl
  | o :: l, gs, s, h => by
    simp only [noEarly, List.all_cons, Bool.and_eq_true, Bool.not_eq_true'] at h
    rw [hoist]
    simp only [h.1, Bool.false_eq_true, if_false]
    rw [hoist_none l gs.tail s (by simpa [noEarly] using h.2)]
    rfl
theorem logOk_apart {B : Array Nat} {l : List Entry} (h : ∀ e ∈ l, e.al = none ∧ (∀ g, e.rd = some g → D g) ∧ ∀ g ∈ e.wr, ¬ D g) : logOk B l = true := by
  unfold logOk
  rw [List.all_eq_true]
  intro i _
  cases hi : l[i]? with
  | none => rfl
  | some x =>
    obtain ⟨h1, h2, h3⟩ := h x (List.mem_of_getElem? hi)
    simp only [h1, Bool.and_true]
    cases hrd : x.rd with
    | none => rfl
    | some g =>
      simp only
      rw [List.all_eq_true]
      intro e _
      cases he : l[e]? with
      | none => simp
      | some y =>
        obtain ⟨-, -, k3⟩ := h y (List.mem_of_getElem? he)
        have : y.wr.contains g = false := by
          cases hc : y.wr.contains g with
          | false => rfl
          | true => exact absurd (h2 g hrd) (k3 g (by simpa using hc))
        simp only [this, Bool.not_false, Bool.or_true]
theorem wc_draw {id : Nat} (D : Nat → Prop) (hd : drawOk false ops = true) (hl : noEarly ops.toList = true) (h : WD P T nt ops ops.toList m s D (R .normal)) : WC P T nt (.region id ops true) m s R := by
  obtain ⟨N, m', s', hq, hn⟩ := h
  refine ⟨N + 1, .normal, m', s', hq, fun n k hn1 hk t ht => ?_⟩
  obtain ⟨t', es, e1, ht', he⟩ := hn n (by omega) t ht
  obtain ⟨k, rfl⟩ : ∃ j, k = j + 1 := ⟨k - 1, by omega⟩
  refine ⟨t', ?_, ht'⟩
  have : evDraw T (evCall P T n) false [] ops t s = some (t', s') := by
    unfold evDraw
    rw [hoist_none ops.toList [] s hl]
    simp only [e1, logOk_apart he, if_true]
  simp only [evCode, hd, if_true, this]
theorem wc_skip (h : R .normal m s) : WC P T nt .skip m s R := ⟨1, .normal, m, s, h, fun n k _ hk t ht => by
  obtain ⟨k, rfl⟩ : ∃ j, k = j + 1 := ⟨k - 1, by omega⟩
  exact ⟨t, by simp only [evCode], ht⟩⟩
theorem wc_label {l : Nat} (h : R .normal m s) : WC P T nt (.label l) m s R := ⟨1, .normal, m, s, h, fun n k _ hk t ht => by
  obtain ⟨k, rfl⟩ : ∃ j, k = j + 1 := ⟨k - 1, by omega⟩
  exact ⟨t, by simp only [evCode], ht⟩⟩
theorem wc_exit {id : Nat} (h : R (.exit id) m s) : WC P T nt (.exit id) m s R := ⟨1, .exit id, m, s, h, fun n k _ hk t ht => by
  obtain ⟨k, rfl⟩ : ∃ j, k = j + 1 := ⟨k - 1, by omega⟩
  exact ⟨t, by simp only [evCode], ht⟩⟩
theorem wc_ret (h : R .ret m s) : WC P T nt .ret m s R := ⟨1, .ret, m, s, h, fun n k _ hk t ht => by
  obtain ⟨k, rfl⟩ : ∃ j, k = j + 1 := ⟨k - 1, by omega⟩
  exact ⟨t, by simp only [evCode], ht⟩⟩
theorem wc_goto {l : Nat} (h : R (.goto l) m s) : WC P T nt (.goto l) m s R := ⟨1, .goto l, m, s, h, fun n k _ hk t ht => by
  obtain ⟨k, rfl⟩ : ∃ j, k = j + 1 := ⟨k - 1, by omega⟩
  exact ⟨t, by simp only [evCode], ht⟩⟩
theorem wc_mono {R' : Ex → Sy → St → Prop} (h : WC P T nt c m s R') (k : ∀ e m' s', R' e m' s' → R e m' s') : WC P T nt c m s R := by
  obtain ⟨N, e, m', s', hq, hn⟩ := h
  exact ⟨N, e, m', s', k _ _ _ hq, hn⟩
/-- What stands behind: the second part where the first one ends by itself. -/
def Then (P : Program) (T : Tab) (nt : Nat) (b : Code) (R : Ex → Sy → St → Prop) : Ex → Sy → St → Prop
  | .normal, m, s => WC P T nt b m s R
  | e, m, s => R e m s
theorem wc_seq (h : WC P T nt a m s (Then P T nt b R)) : WC P T nt (.seq a b) m s R := by
  obtain ⟨N, e, m1, s1, hq, hn⟩ := h
  by_cases he : e = .normal
  · subst he
    obtain ⟨N', e', m', s', hq', hn'⟩ := hq
    refine ⟨max N N' + 1, e', m', s', hq', fun n k hn1 hk t ht => ?_⟩
    obtain ⟨k, rfl⟩ : ∃ j, k = j + 1 := ⟨k - 1, by omega⟩
    obtain ⟨t1, e1, ht1⟩ := hn n k (by omega) (by omega) t ht
    obtain ⟨t2, e2, ht2⟩ := hn' n k (by omega) (by omega) t1 ht1
    exact ⟨t2, by simp only [evCode, e1, e2], ht2⟩
  · refine ⟨N + 1, e, m1, s1, ?_, fun n k hn1 hk t ht => ?_⟩
    · cases e <;> first | exact absurd rfl he | exact hq
    · obtain ⟨k, rfl⟩ : ∃ j, k = j + 1 := ⟨k - 1, by omega⟩
      obtain ⟨t1, e1, ht1⟩ := hn n k (by omega) (by omega) t ht
      exact ⟨t1, by cases e <;> first | exact absurd rfl he | simp only [evCode, e1], ht1⟩
theorem wc_cond {q : Operand} {x : Bool} (hq : evY m q = some (.bool x)) (ha : x = true → WC P T nt a m s R) (hb : x = false → WC P T nt b m s R) : WC P T nt (.cond q a b) m s R := by
  have h : WC P T nt (if x then a else b) m s R := by
    cases x with
    | true => exact ha rfl
    | false => exact hb rfl
  obtain ⟨N, e, m', s', hr, hn⟩ := h
  refine ⟨N + 1, e, m', s', hr, fun n k hn1 hk t ht => ?_⟩
  obtain ⟨k, rfl⟩ : ∃ j, k = j + 1 := ⟨k - 1, by omega⟩
  obtain ⟨t1, e1, ht1⟩ := hn n k (by omega) (by omega) t ht
  exact ⟨t1, by simp only [evCode, evY_ok ht hq, e1], ht1⟩
/-- What a block answers. -/
def Out (id : Nat) (R : Ex → Sy → St → Prop) : Ex → Sy → St → Prop
  | .exit id', m, s => (id' = id → R .normal m s) ∧ (id' ≠ id → R (.exit id') m s)
  | e, m, s => R e m s
theorem wc_block {id : Nat} (h : WC P T nt b m s (Out id R)) : WC P T nt (.block id b) m s R := by
  obtain ⟨N, e, m', s', hq, hn⟩ := h
  cases e with
  | exit id' =>
    by_cases hi : id' = id
    · refine ⟨N + 1, .normal, m', s', hq.1 hi, fun n k hn1 hk t ht => ?_⟩
      obtain ⟨k, rfl⟩ : ∃ j, k = j + 1 := ⟨k - 1, by omega⟩
      obtain ⟨t1, e1, ht1⟩ := hn n k (by omega) (by omega) t ht
      exact ⟨t1, by simp only [evCode, e1, hi, if_true], ht1⟩
    · refine ⟨N + 1, .exit id', m', s', hq.2 hi, fun n k hn1 hk t ht => ?_⟩
      obtain ⟨k, rfl⟩ : ∃ j, k = j + 1 := ⟨k - 1, by omega⟩
      obtain ⟨t1, e1, ht1⟩ := hn n k (by omega) (by omega) t ht
      exact ⟨t1, by simp only [evCode, e1, hi, if_false], ht1⟩
  | _ =>
    refine ⟨N + 1, _, m', s', hq, fun n k hn1 hk t ht => ?_⟩
    obtain ⟨k, rfl⟩ : ∃ j, k = j + 1 := ⟨k - 1, by omega⟩
    obtain ⟨t1, e1, ht1⟩ := hn n k (by omega) (by omega) t ht
    exact ⟨t1, by simp only [evCode, e1], ht1⟩
/-- What a round answers: a smaller one stands ahead, or the loop is left. -/
def Round (I : Nat → Sy → St → Prop) (j : Nat) (R : Ex → Sy → St → Prop) : Ex → Sy → St → Prop
  | .normal, m, s => ∃ i m', i < j ∧ Sub m' m ∧ I i m' s
  | e, m, s => R e m s
theorem wc_sub {m' : Sy} (hs : Sub m' m) (h : WC P T nt c m' s R) : WC P T nt c m s R := by
  obtain ⟨N, e, m1, s', hq, hn⟩ := h
  exact ⟨N, e, m1, s', hq, fun n k h1 h2 t ht => hn n k h1 h2 t (ht.sub hs)⟩
theorem wc_loop (I : Nat → Sy → St → Prop) (hI : ∀ j m s, I j m s → WC P T nt b m s (Round I j R)) : ∀ (j : Nat) (m : Sy) (s : St), I j m s → WC P T nt (.loop b) m s R := by
  intro j
  induction j using Nat.strongRecOn with
  | _ j ih =>
    intro m s hi
    obtain ⟨N, e, m1, s1, hq, hn⟩ := hI j m s hi
    by_cases he : e = .normal
    · subst he
      obtain ⟨i, m2, hlt, hsub, hi'⟩ := hq
      obtain ⟨N', e', m', s', hq', hn'⟩ := wc_sub hsub (ih i hlt m2 s1 hi')
      refine ⟨max N N' + 1, e', m', s', hq', fun n k hn1 hk t ht => ?_⟩
      obtain ⟨k, rfl⟩ : ∃ j, k = j + 1 := ⟨k - 1, by omega⟩
      obtain ⟨t1, e1, ht1⟩ := hn n k (by omega) (by omega) t ht
      obtain ⟨t2, e2, ht2⟩ := hn' n k (by omega) (by omega) t1 ht1
      exact ⟨t2, by simp only [evCode, e1, e2], ht2⟩
    · refine ⟨N + 1, e, m1, s1, ?_, fun n k hn1 hk t ht => ?_⟩
      · cases e <;> first | exact absurd rfl he | exact hq
      · obtain ⟨k, rfl⟩ : ∃ j, k = j + 1 := ⟨k - 1, by omega⟩
        obtain ⟨t1, e1, ht1⟩ := hn n k (by omega) (by omega) t ht
        exact ⟨t1, by cases e <;> first | exact absurd rfl he | simp only [evCode, e1], ht1⟩
/-- The results. -/
def resY (m : Sy) : List ResultVar → Option (List AV)
  | [] => some []
  | .tmp i :: r => match m.at i with
    | none => none
    | some v => match resY m r with
      | none => none
      | some vs => some (v :: vs)
  | .cell _ _ :: _ => none
theorem resY_ok {t : TL} (h : Has t nt m) : ∀ {l : List ResultVar} {vs : List AV}, resY m l = some vs → resA T t s l = some vs
  | [], _, e => e
  | .tmp i :: r, vs, e => by
    unfold resY at e
    unfold resA
    cases hx : m.at i with
    | none => rw [hx] at e; cases e
    | some v =>
      rw [hx] at e
      cases hr : resY m r with
      | none => rw [hr] at e; cases e
      | some ws =>
        rw [hr] at e
        rw [resY_ok h hr, h.at_ _ _ hx]
        exact e
  | .cell _ _ :: _, _, e => by cases e
def packA : List AV → AV
  | [v] => v
  | vs => .tup vs
/-- What a function's end must show. -/
def Ends (fn : Func) (Q : AV → St → Prop) : Ex → Sy → St → Prop
  | .normal, m, s => ∃ vs, resY m fn.results.toList = some vs ∧ Q (packA vs) s
  | .ret, m, s => ∃ vs, resY m fn.results.toList = some vs ∧ Q (packA vs) s
  | _, _, _ => False
theorem call_of {f : FuncId} {args : List AV} {fn : Func} {Q : AV → St → Prop} (hf : P.funcs[f]? = some fn) (hb : fn.body = some c) (hn : args.length + (fn.ntmps - args.length) = nt)
    (h : WC P T nt c (syOf 0 args) s (Ends fn Q)) : CallS P T f args s Q := by
  obtain ⟨N, e, m', s', hq, hn'⟩ := h
  have key : ∃ vs, resY m' fn.results.toList = some vs ∧ Q (packA vs) s' := by
    cases e with
    | normal => exact hq
    | ret => exact hq
    | _ => exact hq.elim
  obtain ⟨vs, hv, hQ⟩ := key
  refine ⟨N + 1, packA vs, s', hQ, fun n hn1 => ?_⟩
  obtain ⟨n, rfl⟩ : ∃ j, n = j + 1 := ⟨n - 1, by omega⟩
  obtain ⟨t', e1, ht'⟩ := hn' n n (by omega) (by omega) (TL.start args fn.ntmps) (hn ▸ Has.start args fn.ntmps)
  simp only [evCall, hf, hb, e1]
  cases e with
  | normal =>
    simp only [resY_ok ht' hv]
    cases vs with
    | nil => rfl
    | cons v r => cases r <;> rfl
  | ret =>
    simp only [resY_ok ht' hv]
    cases vs with
    | nil => rfl
    | cons v r => cases r <;> rfl
  | _ => exact hq.elim
end
section
variable {P : Program} {T : Tab} {nt : Nat} {ops : Array Oper} {rest : List Oper} {m : Sy} {s s' : St} {Q : Sy → St → Prop} {op : Op} {d ty : Nat} {pos : String} {af : Array Edge} {g : Option (Nat × Bool)} {v : AV}
theorem w_val (hg : guardY ops m g = some true) (hd : Nat.ble (d + 1) nt = true) (h : ∀ t, Has t nt m → evOp T op t s = some (.val v, s')) (k : W P T nt ops rest ((d, v) :: m) s' Q) :
    W P T nt ops (⟨some d, op, ty, pos, af, g⟩ :: rest) m s Q := w_cons (w1_val hg hd h k)
theorem w_eff (hg : guardY ops m g = some true) (h : ∀ t, Has t nt m → evOp T op t s = some (.skip, s')) (k : W P T nt ops rest m s' Q) :
    W P T nt ops (⟨none, op, ty, pos, af, g⟩ :: rest) m s Q := w_cons (w1_skip hg rfl h k)
theorem w_off (hg : guardY ops m g = some false) (hd : Nat.ble (d + 1) nt = true) (k : W P T nt ops rest ((d, .undef) :: m) s Q) :
    W P T nt ops (⟨some d, op, ty, pos, af, g⟩ :: rest) m s Q := w_cons (w1_off hg hd k)
theorem op_call {c : Callee} {x : Operand} {as : Array Operand} {tys : Array TypeId} {f : FuncId} {caps args args' : List AV} (hc : c = .value x) (hx : evY m x = some (.fn f caps)) (ha : evsY m as.toList = some args) (he : args ++ caps = args') :
    ∀ t, Has t nt m → evOp T (.call ⟨c, as, tys⟩) t s = some (.call f args' , s) := by
  intro t ht
  subst hc he
  simp only [evOp, evY_ok ht hx, evsY_ok ht ha]
theorem w_call {f : FuncId} {args : List AV} {R : AV → St → Prop} (hg : guardY ops m g = some true) (hd : Nat.ble (d + 1) nt = true) (h : ∀ t, Has t nt m → evOp T op t s = some (.call f args, s)) (hc : CallS P T f args s R)
    (k : ∀ v s', R v s' → W P T nt ops rest ((d, v) :: m) s' Q) : W P T nt ops (⟨some d, op, ty, pos, af, g⟩ :: rest) m s Q := w_cons (w1_call hg hd h hc k)
variable {D : Nat → Prop}
theorem wd_val (hD : ∀ g, D g) (hg : guardY ops m g = some true) (hd : Nat.ble (d + 1) nt = true) (h : ∀ t, Has t nt m → evOp T op t s.bare = some (.val v, s.bare)) (k : WD P T nt ops rest ((d, v) :: m) s D Q) :
    WD P T nt ops (⟨some d, op, ty, pos, af, g⟩ :: rest) m s D Q := wd_cons (fun _ _ g _ => hD g) (w1_val hg hd h ⟨fun _ h => (by cases h), k⟩)
theorem wd_off (hD : ∀ g, D g) (hg : guardY ops m g = some false) (hd : Nat.ble (d + 1) nt = true) (k : WD P T nt ops rest ((d, .undef) :: m) s D Q) :
    WD P T nt ops (⟨some d, op, ty, pos, af, g⟩ :: rest) m s D Q := wd_cons (fun _ _ g _ => hD g) (w1_off hg hd ⟨fun _ h => (by cases h), k⟩)
theorem wd_call {f : FuncId} {args : List AV} {R : AV → Prop} (hD : ∀ g, D g) (hg : guardY ops m g = some true) (hd : Nat.ble (d + 1) nt = true) (h : ∀ t, Has t nt m → evOp T op t s.bare = some (.call f args, s.bare))
    (hc : CallS P T f args s.bare fun v s' => s' = s.bare ∧ R v) (k : ∀ v, R v → WD P T nt ops rest ((d, v) :: m) s D Q) : WD P T nt ops (⟨some d, op, ty, pos, af, g⟩ :: rest) m s D Q :=
  wd_cons (fun _ _ g _ => hD g) (w1_call hg hd h hc fun v s' hr => by
    obtain ⟨rfl, hr⟩ := hr
    exact ⟨fun _ h => (List.not_mem_nil h).elim, k v hr⟩)
variable {a b c : Code} {R : Ex → Sy → St → Prop} {id : Nat} {I : Nat → Sy → St → Prop} {j : Nat}
theorem then_n (h : WC P T nt b m s R) : Then P T nt b R .normal m s := h
theorem then_r (h : R .ret m s) : Then P T nt b R .ret m s := h
theorem then_x (h : R (.exit id) m s) : Then P T nt b R (.exit id) m s := h
theorem out_n (h : R .normal m s) : Out id R .normal m s := h
theorem out_r (h : R .ret m s) : Out id R .ret m s := h
theorem out_x (h : R .normal m s) : Out id R (.exit id) m s := ⟨fun _ => h, fun k => (k rfl).elim⟩
theorem round_r (h : R .ret m s) : Round I j R .ret m s := h
theorem round_x (h : R (.exit id) m s) : Round I j R (.exit id) m s := h
theorem round_n (i : Nat) (m' : Sy) (hi : i < j) (hs : Sub m' m) (h : I i m' s) : Round I j R .normal m s := ⟨i, m', hi, hs, h⟩
theorem wc_loop_at (I : Nat → Sy → St → Prop) (j : Nat) (m' : Sy) (hs : Sub m' m) (h0 : I j m' s) (hI : ∀ j m s, I j m s → WC P T nt b m s (Round I j R)) : WC P T nt (.loop b) m s R :=
  wc_sub hs (wc_loop I hI j m' s h0)
theorem w_split {i : Nat} {x : Bool} {l : List Oper} (h : m.at i = some (.bool x)) (ht : x = true → W P T nt ops l ((i, .bool true) :: m) s Q) (hf : x = false → W P T nt ops l ((i, .bool false) :: m) s Q) : W P T nt ops l m s Q := by
  have key : ∀ m', Sub m' m → W P T nt ops l m' s Q → W P T nt ops l m s Q := by
    intro m' hs ⟨N, m1, s1, hq, hn⟩
    exact ⟨N, m1, s1, hq, fun n hn' t htt => hn n hn' t (htt.sub hs)⟩
  cases x with
  | true => exact key _ (Sub.cons h (Sub.refl m)) (ht rfl)
  | false => exact key _ (Sub.cons h (Sub.refl m)) (hf rfl)
theorem wd_split {i : Nat} {x : Bool} {l : List Oper} (h : m.at i = some (.bool x)) (ht : x = true → WD P T nt ops l ((i, .bool true) :: m) s D Q) (hf : x = false → WD P T nt ops l ((i, .bool false) :: m) s D Q) : WD P T nt ops l m s D Q := by
  have key : ∀ m', Sub m' m → WD P T nt ops l m' s D Q → WD P T nt ops l m s D Q := by
    intro m' hs ⟨N, m1, s1, hq, hn⟩
    exact ⟨N, m1, s1, hq, fun n hn' t htt => hn n hn' t (htt.sub hs)⟩
  cases x with
  | true => exact key _ (Sub.cons h (Sub.refl m)) (ht rfl)
  | false => exact key _ (Sub.cons h (Sub.refl m)) (hf rfl)
theorem wc_cond_t {q : Operand} (hq : evY m q = some (.bool true)) (h : WC P T nt a m s R) : WC P T nt (.cond q a b) m s R := wc_cond hq (fun _ => h) (fun k => by cases k)
theorem wc_cond_f {q : Operand} (hq : evY m q = some (.bool false)) (h : WC P T nt b m s R) : WC P T nt (.cond q a b) m s R := wc_cond hq (fun k => by cases k) (fun _ => h)
/-- A claim between two parts. -/
def Cut (J : Sy → St → Prop) (R : Ex → Sy → St → Prop) : Ex → Sy → St → Prop
  | .normal, m, s => J m s
  | e, m, s => R e m s
theorem wc_cut (J : Sy → St → Prop) (h : WC P T nt a m s (Cut J R)) (k : ∀ m s, J m s → R .normal m s) : WC P T nt a m s R :=
  wc_mono h fun e m' s' hq => by
    cases e with
    | normal => exact k _ _ hq
    | _ => exact hq
theorem cut_n {J : Sy → St → Prop} (h : J m s) : Cut J R .normal m s := h
theorem cut_r {J : Sy → St → Prop} (h : R .ret m s) : Cut J R .ret m s := h
theorem cut_x {J : Sy → St → Prop} (h : R (.exit id) m s) : Cut J R (.exit id) m s := h
theorem out_x' {id' : Nat} (hne : id' ≠ id) (h : R (.exit id') m s) : Out id R (.exit id') m s := ⟨fun k => (hne k).elim, fun _ => h⟩
theorem wc_condT {i : Nat} {x : Bool} (hq : m.at i = some (.bool x)) (ha : x = true → WC P T nt a ((i, .bool true) :: m) s R) (hb : x = false → WC P T nt b ((i, .bool false) :: m) s R) : WC P T nt (.cond (.tmp i) a b) m s R := by
  cases x with
  | true => exact wc_cond (x := true) hq (fun _ => wc_sub (m' := m) (Sub.refl m) (by
      obtain ⟨N, e, m1, s', hr, hn⟩ := ha rfl
      exact ⟨N, e, m1, s', hr, fun n k h1 h2 t ht => hn n k h1 h2 t (ht.sub (Sub.cons hq (Sub.refl m)))⟩)) (fun h => by cases h)
  | false => exact wc_cond (x := false) hq (fun h => by cases h) (fun _ => by
      obtain ⟨N, e, m1, s', hr, hn⟩ := hb rfl
      exact ⟨N, e, m1, s', hr, fun n k h1 h2 t ht => hn n k h1 h2 t (ht.sub (Sub.cons hq (Sub.refl m)))⟩)
end
end Go.Ab
