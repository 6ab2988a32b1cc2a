/- The abstract machine: values with object numbers for addresses, groups of versions for arrays that may share memory; a deterministic evaluator of the loaded code over it. -/
import Derived.Orders
import Derived.Scope
import Derived.Below
import Derived.KernelRfl
namespace Go.Ab
noncomputable section
open Go.RowKit

/-- Abstract values. -/
inductive AV where
  | int (k : IntKind) (n : Int)
  | bool (b : Bool)
  | str (s : ByteArray)
  | nilp
  | nils
  | nilf
  | nili
  | ptr (g j off : Nat)
  | slc (g j off sz len lo : Nat) (ex : Bool)
  | ro (nl : Bool) (xs : List AV)
  | rop (cs : List AV)
  | agg (cs : List AV)
  | tup (vs : List AV)
  | fn (f : FuncId) (caps : List AV)
  | iface (t : TypeId) (v : AV)
  | mp (g : Nat)
  | nilm
  | undef
  | poison
  deriving Inhabited

def AV.cells : AV → List AV
  | .agg cs => cs
  | v => [v]

/-- May it lie in one cell? -/
def AV.leaf : AV → Bool
  | .agg _ | .tup _ | .undef => false
  | _ => true

/-- One version of an array: its cells, the place of the first one in the group; or a map: its entries. -/
structure Ver where
  cells : List AV
  delta : Nat
  mp : Option (List (AV × AV))
structure Grp where
  vers : List Ver

/-- Rows by number, that the kernel can reckon with. -/
inductive Tr (α : Type) where
  | leaf
  | node (v : Option α) (l r : Tr α)
def Tr.get {α : Type} (t : Tr α) : Nat → Option α :=
  @Tr.rec α (fun _ => Nat → Option α) (fun _ => none) (fun v _ _ gl gr k => @Bool.rec (fun _ => Option α) (@Bool.rec (fun _ => Option α) (gr (Nat.pred (Nat.div k 2))) (gl (Nat.div k 2)) (Nat.beq (Nat.mod k 2) 1)) v (Nat.beq k 0)) t
def Tr.single {α : Type} (v : α) (n : Nat) : Nat → Tr α :=
  @Nat.rec (fun _ => Nat → Tr α) (fun _ => .leaf) (fun _ ih k => @Bool.rec (fun _ => Tr α) (@Bool.rec (fun _ => Tr α) (.node none .leaf (ih (Nat.pred (Nat.div k 2)))) (.node none (ih (Nat.div k 2)) .leaf) (Nat.beq (Nat.mod k 2) 1)) (.node (some v) .leaf .leaf) (Nat.beq k 0)) n
def Tr.set {α : Type} (x : α) (t : Tr α) : Nat → Tr α :=
  @Tr.rec α (fun _ => Nat → Tr α) (fun k => Tr.single x (Nat.succ k) k) (fun v l r gl gr k => @Bool.rec (fun _ => Tr α) (@Bool.rec (fun _ => Tr α) (.node v l (gr (Nat.pred (Nat.div k 2)))) (.node v (gl (Nat.div k 2)) r) (Nat.beq (Nat.mod k 2) 1)) (.node (some x) l r) (Nat.beq k 0)) t
theorem brec {α : Type} (x y : α) (b : Bool) : @Bool.rec (fun _ => α) x y b = bif b then y else x := by cases b <;> rfl
theorem Tr.get_leaf {α : Type} (k : Nat) : (Tr.leaf : Tr α).get k = none := rfl
theorem Tr.get_node {α : Type} (v : Option α) (l r : Tr α) (k : Nat) : (Tr.node v l r).get k = bif Nat.beq k 0 then v else bif Nat.beq (k % 2) 1 then l.get (k / 2) else r.get (k / 2 - 1) := by rw [← brec, ← brec]; rfl
theorem Tr.single_succ {α : Type} (v : α) (n k : Nat) : Tr.single v (n + 1) k = bif Nat.beq k 0 then .node (some v) .leaf .leaf else bif Nat.beq (k % 2) 1 then .node none (Tr.single v n (k / 2)) .leaf else .node none .leaf (Tr.single v n (k / 2 - 1)) := by rw [← brec, ← brec]; rfl
theorem Tr.set_leaf {α : Type} (x : α) (k : Nat) : (Tr.leaf : Tr α).set x k = Tr.single x (k + 1) k := rfl
theorem Tr.set_node {α : Type} (x : α) (v : Option α) (l r : Tr α) (k : Nat) : (Tr.node v l r).set x k = bif Nat.beq k 0 then .node (some x) l r else bif Nat.beq (k % 2) 1 then .node v (l.set x (k / 2)) r else .node v l (r.set x (k / 2 - 1)) := by rw [← brec, ← brec]; rfl
theorem nb_t {a b : Nat} (h : a = b) : Nat.beq a b = true := by subst h; exact Nat.beq_refl a
theorem nb_f {a b : Nat} (h : ¬ a = b) : Nat.beq a b = false := by
  cases e : Nat.beq a b
  · rfl
  · exact absurd (Nat.eq_of_beq_eq_true e) h
theorem Tr.get_single {α : Type} (v : α) : ∀ n k k', k < n → (Tr.single v n k).get k' = if k' = k then some v else none := by
  intro n
  induction n with
  | zero => intro k k' h; omega
  | succ n ih =>
    intro k k' h
    rw [Tr.single_succ]
    by_cases h0 : k = 0
    · subst h0
      simp only [nb_t (rfl : (0 : Nat) = 0), cond_true, Tr.get_node]
      by_cases hk : k' = 0
      · subst hk; simp
      · have : Nat.beq k' 0 = false := nb_f (by omega)
        simp [this, hk, Tr.get_leaf]
    · have e0 : Nat.beq k 0 = false := nb_f (by omega)
      rw [e0, cond_false]
      by_cases h1 : k % 2 = 1
      · have e1 : Nat.beq (k % 2) 1 = true := nb_t (by omega)
        rw [e1, cond_true]
        simp only [Tr.get_node]
        by_cases hk : k' = 0
        · subst hk; simp; omega
        · have e2 : Nat.beq k' 0 = false := nb_f (by omega)
          rw [e2, cond_false]
          by_cases h2 : k' % 2 = 1
          · have e3 : Nat.beq (k' % 2) 1 = true := nb_t (by omega)
            rw [e3, cond_true, ih _ _ (by omega)]
            by_cases hkk : k' = k
            · subst hkk; simp
            · rw [if_neg hkk, if_neg (by omega)]
          · have e3 : Nat.beq (k' % 2) 1 = false := nb_f (by omega)
            rw [e3, cond_false, if_neg (by omega), Tr.get_leaf]
      · have e1 : Nat.beq (k % 2) 1 = false := nb_f (by omega)
        rw [e1, cond_false]
        simp only [Tr.get_node]
        by_cases hk : k' = 0
        · subst hk; simp; omega
        · have e2 : Nat.beq k' 0 = false := nb_f (by omega)
          rw [e2, cond_false]
          by_cases h2 : k' % 2 = 1
          · have e3 : Nat.beq (k' % 2) 1 = true := nb_t (by omega)
            rw [e3, cond_true, if_neg (by omega), Tr.get_leaf]
          · have e3 : Nat.beq (k' % 2) 1 = false := nb_f (by omega)
            rw [e3, cond_false, ih _ _ (by omega)]
            by_cases hkk : k' = k
            · subst hkk; simp
            · rw [if_neg hkk, if_neg (by omega)]
theorem Tr.get_set {α : Type} (x : α) : ∀ (t : Tr α) k k', (t.set x k).get k' = if k' = k then some x else t.get k' := by
  intro t
  induction t with
  | leaf => intro k k'; rw [Tr.set_leaf]; rw [Tr.get_single _ _ _ _ (by omega)]; rfl
  | node v l r ihl ihr =>
    intro k k'
    rw [Tr.set_node]
    by_cases h0 : k = 0
    · subst h0
      simp only [nb_t (rfl : (0 : Nat) = 0), cond_true, Tr.get_node]
      by_cases hk : k' = 0
      · subst hk; simp
      · have : Nat.beq k' 0 = false := nb_f (by omega)
        simp [this, hk]
    · have e0 : Nat.beq k 0 = false := nb_f (by omega)
      rw [e0, cond_false]
      by_cases h1 : k % 2 = 1
      · have e1 : Nat.beq (k % 2) 1 = true := nb_t (by omega)
        rw [e1, cond_true]
        simp only [Tr.get_node]
        by_cases hk : k' = 0
        · subst hk; simp; omega
        · have e2 : Nat.beq k' 0 = false := nb_f (by omega)
          rw [e2, cond_false, cond_false]
          by_cases h2 : k' % 2 = 1
          · have e3 : Nat.beq (k' % 2) 1 = true := nb_t (by omega)
            rw [e3, cond_true, cond_true, ihl]
            by_cases hkk : k' = k
            · subst hkk; simp
            · rw [if_neg hkk, if_neg (by omega)]
          · have e3 : Nat.beq (k' % 2) 1 = false := nb_f (by omega)
            rw [e3, cond_false, cond_false, if_neg (by omega)]
      · have e1 : Nat.beq (k % 2) 1 = false := nb_f (by omega)
        rw [e1, cond_false]
        simp only [Tr.get_node]
        by_cases hk : k' = 0
        · subst hk; simp; omega
        · have e2 : Nat.beq k' 0 = false := nb_f (by omega)
          rw [e2, cond_false, cond_false]
          by_cases h2 : k' % 2 = 1
          · have e3 : Nat.beq (k' % 2) 1 = true := nb_t (by omega)
            rw [e3, cond_true, cond_true, if_neg (by omega)]
          · have e3 : Nat.beq (k' % 2) 1 = false := nb_f (by omega)
            rw [e3, cond_false, cond_false, ihr]
            by_cases hkk : k' = k
            · subst hkk; simp
            · rw [if_neg hkk, if_neg (by omega)]

structure St where
  ctr : Nat
  h : Tr Grp
  wr : List Nat

/-- What is known of a type. -/
inductive Sh where
  | scalar
  | text
  | boolean
  | num (k : IntKind)
  | map (k e : TypeId)
  | slice (e : TypeId)
  | array (n : Nat) (e : TypeId)
  | struct (fs : List (Nat × Nat × Bool))
  deriving DecidableEq
structure TI where
  sh : Sh
  size : Nat
  bytes : Nat
  zero : List AV
  flat : Bool := false
abbrev Tab := TypeId → Option TI

def leafOfVal : Value → AV
  | .int k n => .int k n
  | .bool b => .bool b
  | .string s => .str s
  | .pointer none => .nilp
  | .slice none 0 0 => .nils
  | .nilFunc => .nilf
  | .nilIface => .nili
  | .map none => .nilm
  | _ => .poison
def ofVal : Value → Option AV
  | .int k n => some (.int k n)
  | .bool b => some (.bool b)
  | .string s => some (.str s)
  | .pointer none => some .nilp
  | .slice none 0 0 => some .nils
  | .nilFunc => some .nilf
  | .nilIface => some .nili
  | .map none => some .nilm
  | _ => none

/-- The temporaries: how many, and what they hold. -/
structure TL where
  n : Nat
  tr : Tr AV
def TL.get (t : TL) (i : Nat) : AV := @Option.rec AV (fun _ => AV) .undef (fun v => v) (Tr.get t.tr i)
def TL.set (t : TL) (i : Nat) (v : AV) : TL := @Bool.rec (fun _ => TL) t ⟨t.n, Tr.set v t.tr i⟩ (Nat.ble (Nat.succ i) t.n)
def TL.fill : List AV → Nat → TL → TL
  | [], _, t => t
  | x :: r, k, t => TL.fill r (k + 1) (t.set k x)
def TL.start (args : List AV) (n : Nat) : TL := TL.fill args 0 ⟨args.length + (n - args.length), .leaf⟩
theorem TL.n_set (t : TL) (i : Nat) (v : AV) : (t.set i v).n = t.n := by
  unfold TL.set
  cases Nat.ble (Nat.succ i) t.n <;> rfl
theorem TL.get_set (t : TL) (i : Nat) (v : AV) (j : Nat) : (t.set i v).get j = if j = i ∧ i < t.n then v else t.get j := by
  unfold TL.set
  cases e : Nat.ble (Nat.succ i) t.n with
  | true =>
    have : i < t.n := Nat.le_of_ble_eq_true e
    show (@Option.rec AV (fun _ => AV) .undef (fun v => v) (Tr.get (Tr.set v t.tr i) j)) = _
    rw [Tr.get_set]
    by_cases hj : j = i
    · simp [hj, this]
    · simp [hj]; rfl
  | false =>
    have : ¬ i < t.n := fun h => by
      have := Nat.ble_eq_true_of_le h
      rw [e] at this
      cases this
    simp [this]
theorem TL.n_fill : ∀ (l : List AV) (k : Nat) (t : TL), (TL.fill l k t).n = t.n
  | [], _, _ => rfl
  | x :: r, k, t => by rw [TL.fill, TL.n_fill, TL.n_set]
theorem TL.get_fill : ∀ (l : List AV) (k : Nat) (t : TL), k + l.length ≤ t.n → ∀ j, (TL.fill l k t).get j = if k ≤ j ∧ j < k + l.length then l.getD (j - k) .undef else t.get j
  | [], k, t, _, j => by rw [TL.fill, if_neg (by simp)]
  | x :: r, k, t, h, j => by
    simp only [List.length_cons] at h ⊢
    rw [TL.fill, TL.get_fill r (k + 1) (t.set k x) (by rw [TL.n_set]; omega) j, TL.get_set]
    by_cases h1 : j = k
    · subst h1
      rw [if_neg (by omega), if_pos ⟨rfl, by omega⟩, if_pos (by omega)]
      simp
    · by_cases h2 : k + 1 ≤ j ∧ j < k + 1 + r.length
      · rw [if_pos h2, if_pos (by omega)]
        obtain ⟨d, rfl⟩ : ∃ d, j = k + 1 + d := ⟨j - (k + 1), by omega⟩
        rw [show k + 1 + d - (k + 1) = d by omega, show k + 1 + d - k = d + 1 by omega, List.getD_cons_succ]
      · rw [if_neg h2, if_neg (fun e => h1 e.1), if_neg (by omega)]
theorem TL.get_start (args : List AV) (n j : Nat) : (TL.start args n).get j = args.getD j .undef := by
  rw [TL.start, TL.get_fill _ _ _ (by simp) j]
  by_cases h : j < args.length
  · rw [if_pos (by omega)]; rfl
  · rw [if_neg (by omega), List.getD_eq_getElem?_getD, List.getElem?_eq_none (by omega)]; rfl
theorem TL.n_start (args : List AV) (n : Nat) : (TL.start args n).n = args.length + (n - args.length) := TL.n_fill _ _ _

def ev (t : TL) : Operand → Option AV
  | .tmp i => some (t.get i)
  | .const v => ofVal v
  | .global _ => none
  | .func f => some (.fn f [])

def evs (t : TL) : List Operand → Option (List AV)
  | [] => some []
  | x :: r => match ev t x with
    | none => none
    | some v => match evs t r with
      | none => none
      | some vs => some (v :: vs)

section

def St.newG (s : St) (G : Grp) : St := ⟨s.ctr + 1, Tr.set G s.h s.ctr, s.ctr :: s.wr⟩
def St.setG (s : St) (g : Nat) (G : Grp) : St := ⟨s.ctr, Tr.set G s.h g, g :: s.wr⟩
def St.get (s : St) (g : Nat) : Option Grp := Tr.get s.h g

def Grp.read (G : Grp) (j off n : Nat) : Option (List AV) :=
  match G.vers[j]? with
  | none => none
  | some V => if V.mp.isNone = true ∧ off + n ≤ V.cells.length then some ((V.cells.drop off).take n) else none
def St.read (s : St) (g j off n : Nat) : Option (List AV) :=
  match s.get g with
  | none => none
  | some G => G.read j off n

/-- cs written at off. -/
def over (l : List AV) (off : Nat) (cs : List AV) : List AV := l.take off ++ cs ++ l.drop (off + cs.length)
/-- The places a, a+1, .., a+n-1 of the group are no longer known in this version. -/
def Ver.poke (V : Ver) (a n : Nat) : Ver :=
  { V with cells := V.cells.mapIdx fun i c => if a ≤ V.delta + i ∧ V.delta + i < a + n then .poison else c }
def Grp.write (G : Grp) (j off : Nat) (cs : List AV) : Option Grp :=
  match G.vers[j]? with
  | none => none
  | some V =>
    if V.mp.isNone = true ∧ off + cs.length ≤ V.cells.length then
      some ⟨G.vers.mapIdx fun k U => if k = j then { V with cells := over V.cells off cs } else U.poke (V.delta + off) cs.length⟩
    else none
def St.write (s : St) (g j off : Nat) (cs : List AV) : Option (St) :=
  if cs.all AV.leaf then
    match s.get g with
    | none => none
    | some G => match G.write j off cs with
      | none => none
      | some G' => some (s.setG g G')
  else none

/-- The elements of a slice, as cells. -/
def St.elems (s : St) (sz : Nat) : AV → Option (List AV)
  | .slc g j off sz' len _ _ => if sz' = sz then s.read g j off (len * sz) else none
  | .ro _ xs => if xs.all (fun x => x.cells.length = sz && x.cells.all AV.leaf) then some (xs.flatMap AV.cells) else none
  | .nils => some []
  | _ => none
def AV.slen : AV → Option Nat
  | .slc _ _ _ _ len _ _ => some len
  | .ro _ xs => some xs.length
  | .nils => some 0
  | _ => none

def maxBytes : Nat := 140737488355328

/-- append of n elements (their cells: ns) to a slice. -/
def St.app (s : St) (sz bytes : Nat) (a : AV) (n : Nat) (ns : List AV) : Option (AV × St) :=
  if ¬ ns.all AV.leaf ∨ sz = 0 ∨ ns.length ≠ n * sz then none else
  match a with
  | .nils => if n = 0 then some (.nils, s) else if n * bytes ≤ maxBytes ∧ n ≤ maxBytes then some (.slc s.ctr 0 0 sz n n false, s.newG ⟨[⟨ns, 0, none⟩]⟩) else none
  | .slc g j off sz' len lo ex =>
    if sz' ≠ sz then none
    else if len + n ≤ lo then
      if n = 0 then some (a, s) else
      match s.write g j (off + len * sz) ns with
      | none => none
      | some s' => some (.slc g j off sz (len + n) lo ex, s')
    else if (len + n) * bytes ≤ maxBytes ∧ len + n ≤ maxBytes then
      match s.get g with
      | none => none
      | some G => match G.read j off (len * sz) with
        | none => none
        | some old =>
          if ex then some (.slc s.ctr 0 0 sz (len + n) (len + n) false, s.newG ⟨[⟨old ++ ns, 0, none⟩]⟩)
          else match G.vers[j]? with
            | none => none
            | some V =>
              let d := V.delta + off
              some (.slc g G.vers.length 0 sz (len + n) (len + n) false, s.setG g ⟨(G.vers.map fun U => U.poke (d + len * sz) (n * sz)) ++ [⟨old ++ ns, d, none⟩]⟩)
    else none
  | _ => none

inductive Res where
  | val (v : AV)
  | skip
  | call (f : FuncId) (args : List AV)

def intA (op : BinOp) (k : IntKind) (a b : Int) : Option AV :=
  match op with
  | .add => some (.int k (k.wrap (a + b)))
  | .sub => some (.int k (k.wrap (a - b)))
  | .mul => some (.int k (k.wrap (a * b)))
  | .quo => if b = 0 then none else some (.int k (k.wrap (a.tdiv b)))
  | .rem => if b = 0 then none else some (.int k (a.tmod b))
  | .and => some (.int k (k.wrap (BitVec.ofInt k.bits a &&& BitVec.ofInt k.bits b).toNat))
  | .or => some (.int k (k.wrap (BitVec.ofInt k.bits a ||| BitVec.ofInt k.bits b).toNat))
  | .xor => some (.int k (k.wrap (BitVec.ofInt k.bits a ^^^ BitVec.ofInt k.bits b).toNat))
  | .andNot => some (.int k (k.wrap (BitVec.ofInt k.bits a &&& ~~~ BitVec.ofInt k.bits b).toNat))
  | .eql => some (.bool (a == b))
  | .neq => some (.bool (a != b))
  | .lss => some (.bool (decide (a < b)))
  | .leq => some (.bool (decide (a ≤ b)))
  | .gtr => some (.bool (decide (a > b)))
  | .geq => some (.bool (decide (a ≥ b)))
  | _ => none
def shiftA (op : BinOp) (k : IntKind) (a b : Int) : Option AV :=
  if b < 0 then none else
  match op with
  | .shl => some (.int k (k.wrap (a * 2 ^ (min b.toNat k.bits))))
  | .shr => some (.int k (a.fdiv (2 ^ (min b.toNat k.bits))))
  | _ => none
def strA (op : BinOp) (x y : ByteArray) : Option AV :=
  match op with
  | .add => if ((x.size + y.size : Nat) : Int) > IntKind.i64.max then none else some (.str (x ++ y))
  | .eql => some (.bool (x.toList == y.toList))
  | .neq => some (.bool (!(x.toList == y.toList)))
  | _ => none
/-- '==' of two structs of plain cells, cell by cell; z: the cells of a new one. -/
def flatEq : List AV → List AV → List AV → Option Bool
  | [], [], [] => some true
  | .int _ _ :: z, .int k a :: r, .int k' b :: r' => if k = k' then (flatEq z r r').map fun q => (a == b) && q else none
  | .bool _ :: z, .bool a :: r, .bool b :: r' => (flatEq z r r').map fun q => (a == b) && q
  | .str _ :: z, .str a :: r, .str b :: r' => (flatEq z r r').map fun q => (a == b) && q
  | _, _, _ => none

def binA (T : Tab) (op : BinOp) (xt : TypeId) (x y : AV) : Option AV :=
  match x, y with
  | .int k a, .int k' b =>
    match op with
    | .shl | .shr => shiftA op k a b
    | _ => if k = k' then intA op k a b else none
  | .str a, .str b => strA op a b
  | .bool a, .bool b =>
    match T xt with
    | some { sh := .boolean, .. } => match op with
      | .eql => some (.bool (a == b))
      | .neq => some (.bool (!(a == b)))
      | _ => none
    | _ => none
  | .agg a, .agg b =>
    match T xt with
    | some { zero := z, flat := true, .. } => match op with
      | .eql => (flatEq z a b).map .bool
      | .neq => (flatEq z a b).map fun q => .bool (!q)
      | _ => none
    | _ => none
  | x, .nils =>
    match T xt with
    | some { sh := .slice _, .. } =>
      match (match x with | .nils => some true | .ro nl _ => some nl | .slc .. => some false | _ => none : Option Bool) with
      | some q => match op with
        | .eql => some (.bool q)
        | .neq => some (.bool (!q))
        | _ => none
      | none => none
    | _ => none
  | _, _ => none

def unA (op : UnOp) (x : AV) : Option AV :=
  match op, x with
  | .not, .bool b => some (.bool (!b))
  | .neg, .int k n => some (.int k (k.wrap (0 - n)))
  | .xor, .int k n => some (.int k (k.wrap (BitVec.ofInt k.bits (if k.signed then -1 else k.max) ^^^ BitVec.ofInt k.bits n).toNat))
  | _, _ => none

/-- Parts laid over zero cells. -/
def fillA (place : Nat → Option (Nat × Nat)) (cells : List AV) : List (Nat × AV) → Option (List AV)
  | [] => some cells
  | (i, v) :: rest =>
    match place i with
    | none => none
    | some (off, size) =>
      if v.cells.length ≠ size ∨ off + v.cells.length > cells.length then none
      else fillA place (over cells off v.cells) rest

def evParts (t : TL) : List (Nat × Operand) → Option (List (Nat × AV))
  | [] => some []
  | (i, x) :: r => match ev t x with
    | none => none
    | some v => match evParts t r with
      | none => none
      | some vs => some ((i, v) :: vs)

def Sh.isAgg : Sh → Bool
  | .array .. | .struct _ => true
  | _ => false

/-- How many cells a variable of this type has, as it is loaded. -/
def TI.cnt (i : TI) : Nat := if i.sh.isAgg then i.size else 1
/-- A loaded value. -/
def ofCells (agg : Bool) (cs : List AV) : Option AV :=
  if agg then some (.agg cs) else match cs with
    | [c] => some c
    | _ => none

def natA : AV → Option Nat
  | .int _ n => if 0 ≤ n then some n.toNat else none
  | _ => none
def optNat (t : TL) : Option Operand → Option (Option Nat)
  | none => some none
  | some x => match ev t x with
    | none => none
    | some v => match natA v with
      | none => none
      | some n => some (some n)

/-- xs[l:h:m]; known: how much room is known; len: the length. -/
def sliceA (T : Tab) (tt : TypeId) (x : AV) (lo hi mx : Option Nat) : Option AV :=
  match T tt, x with
  | some { sh := .slice e, .. }, .slc g j off sz len room ex =>
    match T e with
    | none => none
    | some ie =>
    if ie.size ≠ sz then none else
    let l := lo.getD 0
    let h := hi.getD len
    match mx with
    | none => if l ≤ h ∧ h ≤ room then some (.slc g j (off + l * sz) sz (h - l) (room - l) ex) else none
    | some m => if l ≤ h ∧ h ≤ m ∧ m ≤ room ∧ hi.isSome then some (.slc g j (off + l * sz) sz (h - l) (m - l) true) else none
  | some { sh := .slice e, .. }, .ro nl xs =>
    match T e with
    | none => none
    | some ie =>
    let l := lo.getD 0
    let h := hi.getD xs.length
    match mx with
    | none => if l ≤ h ∧ h ≤ xs.length ∧ xs.all (fun x => x.cells.length == ie.size) then some (.ro nl ((xs.drop l).take (h - l))) else none
    | some _ => none
  | some { sh := .slice e, .. }, .nils =>
    match T e with
    | none => none
    | some _ =>
    if lo.getD 0 = 0 ∧ hi.getD 0 = 0 ∧ mx.getD 0 = 0 ∧ (mx.isSome → hi.isSome) then some .nils else none
  | some { sh := .array n e, .. }, .ptr g j off =>
    match T e with
    | none => none
    | some ie =>
    let l := lo.getD 0
    let h := hi.getD n
    match mx with
    | none => if l ≤ h ∧ h ≤ n ∧ ie.size ≠ 0 then some (.slc g j (off + l * ie.size) ie.size (h - l) (n - l) true) else none
    | some _ => none
  | _, _ => none

def idxA (T : Tab) (tt : TypeId) (x : AV) (i : Nat) : Option AV :=
  match T tt, x with
  | some { sh := .slice e, .. }, .slc g j off sz len _ _ =>
    match T e with
    | none => none
    | some ie => if ie.size = sz ∧ i < len then some (.ptr g j (off + i * sz)) else none
  | some { sh := .slice e, .. }, .ro _ xs => match T e, xs[i]? with
    | some ie, some x => if x.cells.length = ie.size then some (.rop x.cells) else none
    | _, _ => none
  | some { sh := .array n e, .. }, .ptr g j off =>
    match T e with
    | none => none
    | some ie => if i < n then some (.ptr g j (off + i * ie.size)) else none
  | some { sh := .array n e, .. }, .rop cs =>
    match T e with
    | none => none
    | some ie => if i < n ∧ i * ie.size ≤ cs.length then some (.rop (cs.drop (i * ie.size))) else none
  | _, _ => none

/-- An array that is cut must be there whole. -/
def arrOk (T : Tab) (tt : TypeId) (x : AV) (s : St) : Bool :=
  match T tt, x with
  | some { sh := .array n e, .. }, .ptr g j off => match T e with
    | none => false
    | some ie => (s.read g j off (n * ie.size)).isSome
  | _, _ => true

def lenA (T : Tab) (t : TypeId) (x : AV) : Option Nat :=
  match T t with
  | none => none
  | some i => match i.sh with
    | .slice _ => x.slen
    | .text => match x with
      | .str b => some b.size
      | _ => none
    | .array n _ => some n
    | _ => none
/-- append(s, make([]E, n)...) to no elements. -/
def appZeros (T : Tab) (t t' : TypeId) (a x : AV) (s : St) : Option (AV × St) :=
  match T t, T t', a, x with
  | some { sh := .slice e, .. }, some { sh := .num _, .. }, .nils, .int .i64 n => match T e with
    | none => none
    | some ie =>
      if 0 < n ∧ n.toNat * ie.bytes ≤ maxBytes ∧ n ≤ 140737488355328 ∧ ie.zero.length = ie.size ∧ ie.size ≠ 0 ∧ ie.zero.all AV.leaf then
        some (.slc s.ctr 0 0 ie.size n.toNat n.toNat false, s.newG ⟨[⟨(List.replicate n.toNat ie.zero).flatten, 0, none⟩]⟩)
      else none
  | _, _, _, _ => none

def callA (T : Tab) (b : Builtin) (tys : List TypeId) (args : List AV) (s : St) : Option (AV × St) :=
  match b, tys, args with
  | .len, [t], [x] => match lenA T t x with
    | none => none
    | some n => some (.int .i64 n, s)
  | .cap, [t], [x] => match T t, x with
    | some { sh := .slice _, .. }, .nils => some (.int .i64 0, s)
    | some { sh := .slice _, .. }, .slc _ _ _ _ _ lo true => some (.int .i64 lo, s)
    | _, _ => none
  | .append, [t, t'], [a, x] =>
    if t ≠ t' then appZeros T t t' a x s else
    match T t with
    | some { sh := .slice e, .. } => match T e with
      | none => none
      | some ie => match x.slen, s.elems ie.size x with
        | some n, some ns => s.app ie.size ie.bytes a n ns
        | _, _ => none
    | _ => none
  | .copy, [t, t'], [d, x] =>
    if t ≠ t' then none else
    match T t with
    | some { sh := .slice e, .. } => match T e with
      | none => none
      | some ie => match x.slen, s.elems ie.size x, d with
        | some n, some ns, .slc g j off sz len _ _ =>
          if sz = ie.size ∧ sz ≠ 0 then
            match s.write g j off (ns.take (min n len * sz)) with
            | none => none
            | some s' => some (.int .i64 (min n len : Nat), s')
          else none
        | _, _, _ => none
    | _ => none
  | .max, _, [.int k x, .int k' y] => if k = k' then some (.int k (if x < y then y else x), s) else none
  | .min, _, [.int k x, .int k' y] => if k = k' then some (.int k (if y < x then y else x), s) else none
  | _, _, _ => none

/-- Two keys of a map: the same? -/
def keyEq : AV → AV → Option Bool
  | .int k a, .int k' b => if k = k' then some (a == b) else none
  | .str a, .str b => some (a == b)
  | _, _ => none
def mpFind (k : AV) : List (AV × AV) → Nat → Option (Option (Nat × AV))
  | [], _ => some none
  | e :: es, i => match keyEq k e.1 with
    | some true => some (some (i, e.2))
    | some false => mpFind k es (i + 1)
    | none => none
/-- A key of this kind of keys. -/
def keyOk (T : Tab) (kt : TypeId) : AV → Bool
  | .int k _ => match T kt with
    | some { sh := .num k', .. } => k == k'
    | _ => false
  | .str _ => match T kt with
    | some { sh := .text, .. } => true
    | _ => false
  | _ => false
/-- A map's entries. -/
def St.entries (s : St) : AV → Option (List (AV × AV))
  | .nilm => some []
  | .mp g => match s.get g with
    | some ⟨[V]⟩ => V.mp
    | _ => none
  | _ => none

def evOp (T : Tab) (o : Op) (t : TL) (s : St) : Option (Res × St) :=
  match o with
  | .move x | .assign x => match ev t x with
    | none => none
    | some v => some (.val v, s)
  | .pick c a b => match ev t c with
    | some (.bool q) => match ev t a, ev t b with
      | some va, some vb => some (.val (if q then va else vb), s)
      | _, _ => none
    | _ => none
  | .alloc e => match T e with
    | none => none
    | some i => if i.zero.all AV.leaf then some (.val (.ptr s.ctr 0 0), s.newG ⟨[⟨i.zero, 0, none⟩]⟩) else none
  | .box _ x => match ev t x with
    | none => none
    | some v => if v.cells.all AV.leaf then some (.val (.ptr s.ctr 0 0), s.newG ⟨[⟨v.cells, 0, none⟩]⟩) else none
  | .build tt parts => match T tt with
    | none => none
    | some i => match evParts t parts.toList with
      | none => none
      | some ps =>
        match (match i.sh with
          | .struct fs => fillA (fun n => (fs[n]?).map fun f => (f.1, f.2.1)) i.zero ps
          | .array _ e => match T e with
            | none => none
            | some ie => fillA (fun n => some (n * ie.size, ie.size)) i.zero ps
          | _ => none) with
        | none => none
        | some cs => some (.val (.agg cs), s)
  | .buildSlice tt len parts => match T tt with
    | some { sh := .slice e, .. } => match T e with
      | none => none
      | some ie => match evParts t parts.toList with
        | none => none
        | some ps =>
          if len * ie.size > 2 ^ 24 ∨ ie.zero.length ≠ ie.size ∨ ie.size = 0 then none else
          match fillA (fun n => some (n * ie.size, ie.size)) (List.replicate len ie.zero).flatten ps with
          | none => none
          | some cs => if cs.all AV.leaf then some (.val (.slc s.ctr 0 0 ie.size len len true), s.newG ⟨[⟨cs, 0, none⟩]⟩) else none
    | _ => none
  | .load tt a => match T tt with
    | none => none
    | some i => match ev t a with
      | some (.ptr g j off) => match s.read g j off i.cnt with
        | none => none
        | some cs => match ofCells i.sh.isAgg cs with
          | none => none
          | some v => some (.val v, s)
      | some (.rop cs) =>
        if i.cnt ≤ cs.length ∧ cs.all AV.leaf then
          match ofCells i.sh.isAgg (cs.take i.cnt) with
          | none => none
          | some v => some (.val v, s)
        else none
      | _ => none
  | .store tt a x => match T tt with
    | none => none
    | some i => match ev t a, ev t x with
      | some (.ptr g j off), some v =>
        if v.cells.length ≠ i.size then none else
        match s.write g j off v.cells with
        | none => none
        | some s' => some (.skip, s')
      | _, _ => none
  | .nilCheck x => match ev t x with
    | some (.ptr g j off) => some (.val (.ptr g j off), s)
    | some (.rop cs) => some (.val (.rop cs), s)
    | _ => none
  | .binOp op xt x y _ => match ev t x, ev t y with
    | some vx, some vy => match binA T op xt vx vy with
      | none => none
      | some v => some (.val v, s)
    | _, _ => none
  | .unOp op _ x => match ev t x with
    | none => none
    | some vx => match unA op vx with
      | none => none
      | some v => some (.val v, s)
  | .convert src dst x => match T src, T dst, ev t x with
    | some { sh := .num _, .. }, some { sh := .num k', .. }, some (.int _ n) => some (.val (.int k' (k'.wrap n)), s)
    | _, _, _ => none
  | .makeFunc (.func f) first caps => if first.size ≠ 0 then none else
    match evs t caps.toList with
    | none => none
    | some vs => some (.val (.fn f vs), s)
  | .makeSlice tt l c => match T tt with
    | some { sh := .slice e, .. } => match T e with
      | none => none
      | some ie => match ev t l, ev t c with
        | some (.int .i64 n), some (.int .i64 m) =>
          if 0 ≤ n ∧ n = m ∧ n.toNat * ie.bytes ≤ maxBytes ∧ n ≤ 140737488355328 ∧ ie.zero.length = ie.size ∧ ie.size ≠ 0 ∧ ie.zero.all AV.leaf then
            some (.val (.slc s.ctr 0 0 ie.size n.toNat n.toNat true), s.newG ⟨[⟨(List.replicate n.toNat ie.zero).flatten, 0, none⟩]⟩)
          else none
        | _, _ => none
    | _ => none
  | .slice tt x lo hi mx => match ev t x, optNat t lo, optNat t hi, optNat t mx with
    | some v, some l, some h, some m => if arrOk T tt v s then match sliceA T tt v l h m with
        | none => none
        | some r => some (.val r, s)
      else none
    | _, _, _, _ => none
  | .fieldAddr st x f => match T st with
    | some { sh := .struct fs, .. } => match fs[f]?, ev t x with
      | some (off, sz, _), some (.ptr g j o) => if sz = 0 then none else some (.val (.ptr g j (o + off)), s)
      | some (off, sz, _), some (.rop cs) => if sz = 0 then none else if off ≤ cs.length then some (.val (.rop (cs.drop off)), s) else none
      | _, _ => none
    | _ => none
  | .field st x f => match T st with
    | some { sh := .struct fs, .. } => match fs[f]?, ev t x with
      | some (off, sz, ag), some (.agg cs) =>
        if off + sz ≤ cs.length ∧ (ag = false → sz = 1) then
          match ofCells ag ((cs.drop off).take sz) with
          | none => none
          | some v => some (.val v, s)
        else none
      | _, _ => none
    | _ => none
  | .indexAddr tt x i => match ev t x, ev t i with
    | some vx, some vi => match natA vi with
      | none => none
      | some n => match idxA T tt vx n with
        | none => none
        | some v => some (.val v, s)
    | _, _ => none
  | .makeMap tt none => match T tt with
    | some { sh := .map _ _, .. } => some (.val (.mp s.ctr), s.newG ⟨[⟨[], 0, some []⟩]⟩)
    | _ => none
  | .insert tt m k x | .mapUpdate tt m k x => match T tt with
    | some { sh := .map kt _, .. } => match ev t m, ev t k, ev t x with
      | some (.mp g), some vk, some vx => match s.entries (.mp g), keyOk T kt vk with
        | some es, true => match mpFind vk es 0 with
          | some none => some (.skip, s.setG g ⟨[⟨[], 0, some (es ++ [(vk, vx)])⟩]⟩)
          | some (some (i, _)) => some (.skip, s.setG g ⟨[⟨[], 0, some (es.set i (vk, vx))⟩]⟩)
          | none => none
        | _, _ => none
      | _, _, _ => none
    | _ => none
  | .lookup tt m k ok => match T tt with
    | some { sh := .map kt et, .. } => match T et with
      | none => none
      | some ie => match ev t m, ev t k with
        | some vm, some vk => match s.entries vm, keyOk T kt vk with
          | some es, true => match mpFind vk es 0 with
            | some (some (_, v)) => some (.val (if ok then .tup [v, .bool true] else v), s)
            | some none => match ofCells ie.sh.isAgg ie.zero with
              | some z => some (.val (if ok then .tup [z, .bool false] else z), s)
              | none => none
            | none => none
          | _, _ => none
        | _, _ => none
    | _ => none
  | .extract x i => match ev t x with
    | some (.tup vs) => match vs[i]? with
      | none => none
      | some v => some (.val v, s)
    | _ => none
  | .call c => match c.callee with
    | .value f => match ev t f, evs t c.args.toList with
      | some (.fn g caps), some args => some (.call g (args ++ caps), s)
      | _, _ => none
    | .builtin b => match evs t c.args.toList with
      | none => none
      | some args => match callA T b c.argTypes.toList args s with
        | none => none
        | some (v, s') => some (.val v, s')
    | _ => none
  | _ => none

def putA (t : TL) : Option Tmp → AV → TL
  | none, _ => t
  | some d, v => t.set d v

/-- Is the operation wanted? none: it isn't known. -/
def guardA (ops : Array Oper) (t : TL) : Option (Nat × Bool) → Option Bool
  | none => some true
  | some (j, want) => match (ops[j]?).bind (·.dst) with
    | none => some false
    | some d => match t.get d with
      | .bool b => some (b == want)
      | .poison => none
      | _ => some false

/-- One operation; what it writes is laid ahead of what was written. -/
def evStep (T : Tab) (call : FuncId → List AV → St → Option (AV × St)) (ops : Array Oper) (o : Oper) (t : TL) (s : St) : Option (TL × St) :=
  match guardA ops t o.guard with
  | none => none
  | some false => some (putA t o.dst .undef, s)
  | some true => match evOp T o.op t s with
    | none => none
    | some (.val v, s') => some (putA t o.dst v, s')
    | some (.skip, s') => some (putA t o.dst .undef, s')
    | some (.call f args, s') => match call f args s' with
      | none => none
      | some (v, s'') => some (putA t o.dst v, s'')

def evOps (T : Tab) (call : FuncId → List AV → St → Option (AV × St)) (ops : Array Oper) : List Oper → TL → St → Option (TL × St)
  | [], t, s => some (t, s)
  | o :: rest, t, s => match evStep T call ops o t s with
    | none => none
    | some (t', s') => evOps T call ops rest t' s'

/-- Does an operation turn the heap? -/
def Op.eff : Op → Bool
  | .alloc _ | .box .. | .buildSlice .. | .store .. | .makeSlice .. | .makeMap .. | .insert .. | .mapUpdate .. => true
  | .call { callee := .builtin b, .. } => !(b matches .len | .cap | .max | .min)
  | .call _ => true
  | _ => false

/-- The group that a load reads. -/
def readsA (t : TL) : Op → Option Nat
  | .load _ a => match ev t a with
    | some (.ptr g _ _) => some g
    | _ => none
  | .slice _ a _ _ _ => match ev t a with
    | some (.ptr g _ _) => some g
    | _ => none
  | .lookup _ a _ _ => match ev t a with
    | some (.mp g) => some g
    | _ => none
  | _ => none

/-- What can be laid at any time: a variable; if b, also what is made of values at hand. -/
def Oper.early (b : Bool) (o : Oper) : Bool := match o.op with
  | .alloc _ => b || o.guard.isNone
  | .box _ _ => b
  | .buildSlice _ _ _ => b
  | _ => false

/-- Two cells: surely the same? -/
def AV.eqB : AV → AV → Bool
  | .int k a, .int k' a' => k == k' && a == a'
  | .bool a, .bool a' => a == a'
  | .str a, .str a' => a.data == a'.data
  | .nilp, .nilp => true
  | .nils, .nils => true
  | .nilf, .nilf => true
  | .nili, .nili => true
  | .nilm, .nilm => true
  | .ptr g j o, .ptr g' j' o' => g == g' && j == j' && o == o'
  | .slc g j o sz len lo ex, .slc g' j' o' sz' len' lo' ex' => g == g' && j == j' && o == o' && sz == sz' && len == len' && lo == lo' && ex == ex'
  | .mp g, .mp g' => g == g'
  | _, _ => false
def AV.eqBs : List AV → List AV → Bool
  | [], [] => true
  | x :: r, y :: r' => AV.eqB x y && AV.eqBs r r'
  | _, _ => false

/-- The cells of what is laid early: a variable's are its type's, others are foretold. -/
def earlyCells (T : Tab) (g : List AV) : Op → Option (List AV)
  | .alloc e => match T e with
    | none => none
    | some i => some i.zero
  | _ => some g
/-- The early groups, laid ahead of all; their numbers and cells, operation by operation. -/
def hoist (b : Bool) (T : Tab) : List Oper → List (List AV) → St → Option (St × List (Option (Nat × List AV)))
  | [], _, s => some (s, [])
  | o :: rest, gs, s =>
    if Oper.early b o then match earlyCells T (gs.headD []) o.op with
      | none => none
      | some cs => if cs.all AV.leaf then match hoist b T rest gs.tail (s.newG ⟨[⟨cs, 0, none⟩]⟩) with
          | none => none
          | some (s', l) => some (s', some (s.ctr, cs) :: l)
        else none
    else match hoist b T rest gs.tail s with
      | none => none
      | some (s', l) => some (s', none :: l)
/-- What an early operation answers: the group c, whose cells must be those. -/
def earlyVal (T : Tab) (ops : Array Oper) (o : Oper) (t : TL) (c : Nat) (cs : List AV) : Option AV :=
  match guardA ops t o.guard with
  | none => none
  | some false => some .undef
  | some true => match o.op with
    | .alloc _ => some (.ptr c 0 0)
    | op => match evOp T op t ⟨c, .leaf, []⟩ with
      | some (.val v, s1) => match s1.get c with
        | some ⟨[⟨cs', 0, none⟩]⟩ => if AV.eqBs cs' cs then some v else none
        | _ => none
      | _ => none

structure Entry where
  rd : Option Nat
  wr : List Nat
  al : Option Nat

/-- The operations in the text's order; of each: what it read, what it turned, the group that was laid for it. -/
def evLog (T : Tab) (call : FuncId → List AV → St → Option (AV × St)) (ops : Array Oper) : List Oper → List (Option (Nat × List AV)) → TL → St → Option (TL × St × List Entry)
  | o :: rest, some (c, cs) :: hs, t, s => match earlyVal T ops o t c cs with
    | none => none
    | some v => match evLog T call ops rest hs (putA t o.dst v) s with
      | none => none
      | some (t'', s'', l) => some (t'', s'', ⟨none, [], some c⟩ :: l)
  | o :: rest, none :: hs, t, s => match evStep T call ops o t { s with wr := [] } with
    | none => none
    | some (t', s') => match evLog T call ops rest hs t' { s' with wr := s'.wr ++ s.wr } with
      | none => none
      | some (t'', s'', l) => some (t'', s'', ⟨(if guardA ops t o.guard = some true then readsA t o.op else none), s'.wr, none⟩ :: l)
  | _, _, t, s => some (t, s, [])
/-- The cells of the early groups, foretold by a first run (nothing leans on it: 'evLog' looks). -/
def evGuess (T : Tab) (call : FuncId → List AV → St → Option (AV × St)) (ops : Array Oper) : List Oper → List (Option (Nat × List AV)) → TL → St → Option (List (List AV))
  | o :: rest, some (c, _) :: hs, t, s => match guardA ops t o.guard with
    | none => none
    | some false => (evGuess T call ops rest hs (putA t o.dst .undef) s).map ([] :: ·)
    | some true => match o.op with
      | .alloc _ => (evGuess T call ops rest hs (putA t o.dst (.ptr c 0 0)) s).map ([] :: ·)
      | op => match evOp T op t ⟨c, .leaf, []⟩ with
        | some (.val v, s1) => match s1.get c with
          | some ⟨[V]⟩ => (evGuess T call ops rest hs (putA t o.dst v) (s.setG c ⟨[V]⟩)).map (V.cells :: ·)
          | _ => none
        | _ => none
  | o :: rest, none :: hs, t, s => match evStep T call ops o t s with
    | none => none
    | some (t', s') => (evGuess T call ops rest hs t' s').map ([] :: ·)
  | _, _, _, _ => some []

/-- Does i come ahead of j in every order (j the later one in the text)? -/
def aheadB (B : Array Nat) (i j : Nat) : Bool := (B.getD j 0).testBit i
def Oper.turns (b : Bool) (o : Oper) : Bool := Op.eff o.op && !Oper.early b o

/-- By the text alone: operations without an order between them are apart, and at most one of two turns the heap. -/
def drawOk (b : Bool) (ops : Array Oper) : Bool :=
  ((List.range ops.size).all fun j => match ops[j]? with
    | some o => o.after.all fun e => !Region.binds .any e || decide (e.on < j)
    | none => true) &&
  (List.range ops.size).all fun j => (List.range j).all fun i =>
    aheadB (Region.before ops) i j || match ops[i]?, ops[j]? with
      | some x, some y => Oper.apart ops x y && Oper.apart ops y x && !(Oper.turns b x && Oper.turns b y)
      | _, _ => true

/-- What was read was not turned by what has no order with the reader; what was laid early is turned behind its own operation alone. -/
def logOk (B : Array Nat) (l : List Entry) : Bool :=
  (List.range l.length).all fun i => match l[i]? with
    | none => true
    | some x =>
      (match x.rd with
      | none => true
      | some g => (List.range l.length).all fun e => aheadB B e i || aheadB B i e || match l[e]? with
        | none => true
        | some y => !y.wr.contains g) &&
      (match x.al with
      | none => true
      | some g => (List.range l.length).all fun e => aheadB B i e || match l[e]? with
        | none => true
        | some y => !y.wr.contains g)

/-- A region whose order is drawn. -/
def evDraw (T : Tab) (call : FuncId → List AV → St → Option (AV × St)) (b : Bool) (gs : List (List AV)) (ops : Array Oper) (t : TL) (s : St) : Option (TL × St) :=
  match hoist b T ops.toList gs s with
  | none => none
  | some (s0, hs) => match evLog T call ops ops.toList hs t s0 with
    | none => none
    | some (t', s', l) => if logOk (Region.before ops) l then some (t', s') else none
def foretold (T : Tab) (call : FuncId → List AV → St → Option (AV × St)) (ops : Array Oper) (t : TL) (s : St) : Option (List (List AV)) :=
  match hoist true T ops.toList [] s with
  | none => none
  | some (s0, hs) => evGuess T call ops ops.toList hs t s0

inductive Ex where
  | normal
  | exit (id : Nat)
  | goto (l : Nat)
  | ret

/-- Code, with rounds to spend. -/
def evCode (T : Tab) (call : FuncId → List AV → St → Option (AV × St)) : Nat → Code → TL → St → Option (Ex × TL × St)
  | 0, _, _, _ => none
  | n + 1, c, t, s => match c with
    | .skip => some (.normal, t, s)
    | .label _ => some (.normal, t, s)
    | .region _ ops false => match evOps T call ops ops.toList t s with
      | none => none
      | some (t', s') => some (.normal, t', s')
    | .region _ ops true =>
      if drawOk false ops then match evDraw T call false [] ops t s with
        | none => none
        | some (t', s') => some (.normal, t', s')
      else if drawOk true ops then match foretold T call ops t s with
        | none => none
        | some gs => match evDraw T call true gs ops t s with
          | none => none
          | some (t', s') => some (.normal, t', s')
      else none
    | .seq a b => match evCode T call n a t s with
      | some (.normal, t', s') => evCode T call n b t' s'
      | r => r
    | .cond q a b => match ev t q with
      | some (.bool q) => evCode T call n (if q then a else b) t s
      | _ => none
    | .block id b => match evCode T call n b t s with
      | some (.exit id', t', s') => if id' = id then some (.normal, t', s') else some (.exit id', t', s')
      | r => r
    | .loop b => match evCode T call n b t s with
      | some (.normal, t', s') => evCode T call n (.loop b) t' s'
      | r => r
    | .exit id => some (.exit id, t, s)
    | .goto l => some (.goto l, t, s)
    | .ret => some (.ret, t, s)
    | .scope b => evScope T call n b b t s
    | _ => none
  where
  /-- A scope's body, from a place in it on. -/
  evScope (T : Tab) (call : FuncId → List AV → St → Option (AV × St)) : Nat → Code → Code → TL → St → Option (Ex × TL × St)
    | 0, _, _, _, _ => none
    | n + 1, b, c, t, s => match evCode T call n c t s with
      | some (.goto l, t', s') => match findLabel b l with
        | some rest => evScope T call n b rest t' s'
        | none => some (.goto l, t', s')
      | r => r

/-- The results. -/
def resA (T : Tab) (t : TL) (s : St) : List ResultVar → Option (List AV)
  | [] => some []
  | .tmp i :: r => match resA T t s r with
    | none => none
    | some vs => some (t.get i :: vs)
  | .cell a tt :: r => match T tt, t.get a with
    | some i, .ptr g j off => match s.read g j off i.cnt with
      | none => none
      | some cs => match ofCells i.sh.isAgg cs, resA T t s r with
        | some v, some vs => some (v :: vs)
        | _, _ => none
    | _, _ => none

def evCall (P : Program) (T : Tab) : Nat → FuncId → List AV → St → Option (AV × St)
  | 0, _, _, _ => none
  | n + 1, f, args, s => match P.funcs[f]? with
    | none => none
    | some fn => match fn.body with
      | none => none
      | some c =>
        match evCode T (evCall P T n) n c (TL.start args fn.ntmps) s with
        | some (.normal, t, s') | some (.ret, t, s') => match resA T t s' fn.results.toList with
          | some [v] => some (v, s')
          | some vs => some (.tup vs, s')
          | none => none
        | _ => none
end

end
end Go.Ab
