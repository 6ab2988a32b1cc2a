/- Parts of one proof, put together: G1 G2 G3 G4 G5 G6 G7 G8 GM G9 GE G10 G10b. -/
import Derived.Orders
import Derived.Scope
import Derived.Below
import Derived.KernelRfl
import Derived.Laws.CopyRow
import Derived.Laws.Rows
import Derived.ScopeJumps
import Derived.Laws.AppendOwn
import Derived.Laws.Tables
import Derived.DataShut
import Derived.Laws.StructEq
import Derived.MapKept
import Derived.Carry
import Derived.OrdersIn
import Derived.RangeFuncLeaves
import Derived.RangeFuncNested
import Derived.RecoverIn
import Derived.Laws.IdiomStrings
namespace Go.Ab
theorem sjj {α : Type _} (a b : α) : (some a = some b) = (a = b) := Option.some.injEq a b
theorem pjj {α β : Type _} (a : α) (b : β) (c : α) (d : β) : ((a, b) = (c, d)) = (a = c ∧ b = d) := Prod.mk.injEq a b c d
theorem dtt {p : Prop} [Decidable p] : (decide p = true) = p := decide_eq_true_eq
theorem dff {p : Prop} [Decidable p] : (decide p = false) ↔ ¬ p := decide_eq_false_iff_not
theorem bff {α : Type _} [BEq α] [LawfulBEq α] {x y : α} : ((x == y) = false) ↔ x ≠ y := beq_eq_false_iff_ne
theorem lmm {α β : Type _} {as : List α} (f : α → β) : (as.map f).length = as.length := List.length_map f
abbrev gee := @List.getElem?_eq_getElem
abbrev ges := @List.getElem?_eq_some_iff
abbrev mog := @List.mem_of_getElem?
abbrev msi := @List.mem_singleton
abbrev gdd := @List.getD_eq_getElem?_getD
abbrev aas := @List.append_assoc
abbrev lcc := @List.length_cons
abbrev lnn := @List.length_nil
abbrev laa := @List.length_append
abbrev lsl := @Nat.lt_succ_iff_lt_or_eq
abbrev nlr := @Nat.le_refl
abbrev aet := @List.all_eq_true
abbrev gmm := @List.getElem?_map
abbrev gar := @List.getElem?_append_right
abbrev gal := @List.getElem?_append_left
abbrev mcs := @List.mem_cons_self
abbrev nmn := @List.not_mem_nil
abbrev fcc := @List.foldl_cons
noncomputable section
open Go.RowKit

inductive AV where
 | int (k : IntKind) (n : Int)
 | bool (b : Bool)
 | str (s : ByteArray)
 | nilp
 | nils
 | nilf
 | nili
 | ptr (g j off : Nat)
 | slc (g j off sz len lo : Nat) (ex : Bool)
 | ro (nl : Bool) (xs : List AV)
 | rop (cs : List AV)
 | agg (cs : List AV)
 | tup (vs : List AV)
 | fn (f : FuncId) (caps : List AV)
 | mv (f : FuncId) (first : List AV)
 | iface (t : TypeId) (v : AV)
 | mp (g : Nat)
 | nilm
 | undef
 | poison
 deriving Inhabited

def AV.cells : AV → List AV
 | .agg cs => cs
 | v => [v]

def AV.leaf : AV → Bool
 | .agg _ | .tup _ | .undef => false
 | _ => true

inductive Tr (α : Type) where
 | leaf
 | node (v : Option α) (l r : Tr α)
def Tr.get {α : Type} (t : Tr α) : Nat → Option α :=
 @Tr.rec α (fun _ => Nat → Option α) (fun _ => none) (fun v _ _ gl gr k => @Bool.rec (fun _ => Option α) (@Bool.rec (fun _ => Option α) (gr (Nat.pred (Nat.div k 2))) (gl (Nat.div k 2)) (Nat.beq (Nat.mod k 2) 1)) v (Nat.beq k 0)) t
def Tr.single {α : Type} (v : α) (n : Nat) : Nat → Tr α :=
 @Nat.rec (fun _ => Nat → Tr α) (fun _ => .leaf) (fun _ ih k => @Bool.rec (fun _ => Tr α) (@Bool.rec (fun _ => Tr α) (.node none .leaf (ih (Nat.pred (Nat.div k 2)))) (.node none (ih (Nat.div k 2)) .leaf) (Nat.beq (Nat.mod k 2) 1)) (.node (some v) .leaf .leaf) (Nat.beq k 0)) n
def Tr.set {α : Type} (x : α) (t : Tr α) : Nat → Tr α :=
 @Tr.rec α (fun _ => Nat → Tr α) (fun k => Tr.single x (Nat.succ k) k) (fun v l r gl gr k => @Bool.rec (fun _ => Tr α) (@Bool.rec (fun _ => Tr α) (.node v l (gr (Nat.pred (Nat.div k 2)))) (.node v (gl (Nat.div k 2)) r) (Nat.beq (Nat.mod k 2) 1)) (.node (some x) l r) (Nat.beq k 0)) t
theorem brec {α : Type} (x y : α) (b : Bool) : @Bool.rec (fun _ => α) x y b = bif b then y else x := by cases b <;> rfl
theorem Tr.get_leaf {α : Type} (k : Nat) : (Tr.leaf : Tr α).get k = none := rfl
theorem Tr.get_node {α : Type} (v : Option α) (l r : Tr α) (k : Nat) : (Tr.node v l r).get k = bif Nat.beq k 0 then v else bif Nat.beq (k % 2) 1 then l.get (k / 2) else r.get (k / 2 - 1) := by rw [← brec, ← brec]; rfl
theorem Tr.single_succ {α : Type} (v : α) (n k : Nat) : Tr.single v (n + 1) k = bif Nat.beq k 0 then .node (some v) .leaf .leaf else bif Nat.beq (k % 2) 1 then .node none (Tr.single v n (k / 2)) .leaf else .node none .leaf (Tr.single v n (k / 2 - 1)) := by rw [← brec, ← brec]; rfl
theorem Tr.set_leaf {α : Type} (x : α) (k : Nat) : (Tr.leaf : Tr α).set x k = Tr.single x (k + 1) k := rfl
theorem Tr.set_node {α : Type} (x : α) (v : Option α) (l r : Tr α) (k : Nat) : (Tr.node v l r).set x k = bif Nat.beq k 0 then .node (some x) l r else bif Nat.beq (k % 2) 1 then .node v (l.set x (k / 2)) r else .node v l (r.set x (k / 2 - 1)) := by rw [← brec, ← brec]; rfl
theorem nb_t {a b : Nat} (h : a = b) : Nat.beq a b = true := by subst h; exact Nat.beq_refl a
theorem nb_f {a b : Nat} (h : ¬ a = b) : Nat.beq a b = false := by
 cases e : Nat.beq a b
 ·rfl
 ·exact absurd (Nat.eq_of_beq_eq_true e) h
theorem Tr.get_single {α : Type} (v : α) : ∀ n k k', k < n → (Tr.single v n k).get k' = if k' = k then some v else none := by
 intro n
 induction n with
 | zero => intro k k' h; omega
 | succ n ih =>
  intro k k' h
  rw [Tr.single_succ]
  by_cases h0 : k = 0
  ·subst h0
   simp only [nb_t (rfl : (0 : Nat) = 0), cond_true, Tr.get_node]
   by_cases hk : k' = 0
   ·subst hk; simp
   ·have : Nat.beq k' 0 = false := nb_f (by omega)
    simp [this, hk, Tr.get_leaf]
  ·have e0 : Nat.beq k 0 = false := nb_f (by omega)
   rw [e0, cond_false]
   by_cases h1 : k % 2 = 1
   ·have e1 : Nat.beq (k % 2) 1 = true := nb_t (by omega)
    rw [e1, cond_true]
    simp only [Tr.get_node]
    by_cases hk : k' = 0
    ·subst hk; simp; omega
    ·have e2 : Nat.beq k' 0 = false := nb_f (by omega)
     rw [e2, cond_false]
     by_cases h2 : k' % 2 = 1
     ·have e3 : Nat.beq (k' % 2) 1 = true := nb_t (by omega)
      rw [e3, cond_true, ih _ _ (by omega)]
      by_cases hkk : k' = k
      ·subst hkk; simp
      ·rw [if_neg hkk, if_neg (by omega)]
     ·have e3 : Nat.beq (k' % 2) 1 = false := nb_f (by omega)
      rw [e3, cond_false, if_neg (by omega), Tr.get_leaf]
   ·have e1 : Nat.beq (k % 2) 1 = false := nb_f (by omega)
    rw [e1, cond_false]
    simp only [Tr.get_node]
    by_cases hk : k' = 0
    ·subst hk; simp; omega
    ·have e2 : Nat.beq k' 0 = false := nb_f (by omega)
     rw [e2, cond_false]
     by_cases h2 : k' % 2 = 1
     ·have e3 : Nat.beq (k' % 2) 1 = true := nb_t (by omega)
      rw [e3, cond_true, if_neg (by omega), Tr.get_leaf]
     ·have e3 : Nat.beq (k' % 2) 1 = false := nb_f (by omega)
      rw [e3, cond_false, ih _ _ (by omega)]
      by_cases hkk : k' = k
      ·subst hkk; simp
      ·rw [if_neg hkk, if_neg (by omega)]
theorem Tr.get_set {α : Type} (x : α) : ∀ (t : Tr α) k k', (t.set x k).get k' = if k' = k then some x else t.get k' := by
 intro t
 induction t with
 | leaf => intro k k'; rw [Tr.set_leaf]; rw [Tr.get_single _ _ _ _ (by omega)]; rfl
 | node v l r ihl ihr =>
  intro k k'
  rw [Tr.set_node]
  by_cases h0 : k = 0
  ·subst h0
   simp only [nb_t (rfl : (0 : Nat) = 0), cond_true, Tr.get_node]
   by_cases hk : k' = 0
   ·subst hk; simp
   ·have : Nat.beq k' 0 = false := nb_f (by omega)
    simp [this, hk]
  ·have e0 : Nat.beq k 0 = false := nb_f (by omega)
   rw [e0, cond_false]
   by_cases h1 : k % 2 = 1
   ·have e1 : Nat.beq (k % 2) 1 = true := nb_t (by omega)
    rw [e1, cond_true]
    simp only [Tr.get_node]
    by_cases hk : k' = 0
    ·subst hk; simp; omega
    ·have e2 : Nat.beq k' 0 = false := nb_f (by omega)
     rw [e2, cond_false, cond_false]
     by_cases h2 : k' % 2 = 1
     ·have e3 : Nat.beq (k' % 2) 1 = true := nb_t (by omega)
      rw [e3, cond_true, cond_true, ihl]
      by_cases hkk : k' = k
      ·subst hkk; simp
      ·rw [if_neg hkk, if_neg (by omega)]
     ·have e3 : Nat.beq (k' % 2) 1 = false := nb_f (by omega)
      rw [e3, cond_false, cond_false, if_neg (by omega)]
   ·have e1 : Nat.beq (k % 2) 1 = false := nb_f (by omega)
    rw [e1, cond_false]
    simp only [Tr.get_node]
    by_cases hk : k' = 0
    ·subst hk; simp; omega
    ·have e2 : Nat.beq k' 0 = false := nb_f (by omega)
     rw [e2, cond_false, cond_false]
     by_cases h2 : k' % 2 = 1
     ·have e3 : Nat.beq (k' % 2) 1 = true := nb_t (by omega)
      rw [e3, cond_true, cond_true, if_neg (by omega)]
     ·have e3 : Nat.beq (k' % 2) 1 = false := nb_f (by omega)
      rw [e3, cond_false, cond_false, ihr]
      by_cases hkk : k' = k
      ·subst hkk; simp
      ·rw [if_neg hkk, if_neg (by omega)]

inductive Sh where
 | scalar
 | iface
 | text
 | boolean
 | num (k : IntKind)
 | map (k e : TypeId)
 | slice (e : TypeId)
 | array (n : Nat) (e : TypeId)
 | struct (fs : List (Nat × Nat × Bool))
 deriving DecidableEq
structure TI where
 sh : Sh
 size : Nat
 bytes : Nat
 zero : List AV
 flat : Bool := false
abbrev Tab := TypeId → Option TI

def ofVal : Value → Option AV
 | .int k n => some (.int k n)
 | .bool b => some (.bool b)
 | .string s => some (.str s)
 | .pointer none => some .nilp
 | .slice none 0 0 => some .nils
 | .nilFunc => some .nilf
 | .nilIface => some .nili
 | .map none => some .nilm
 | _ => none

inductive DefA where
 | col (g : Nat)
 | clo (f : FuncId) (args : List AV)
def yb : Nat := 1048576
structure TL where
 n : Nat
 tr : Tr AV
 ds : List DefA
 rd : Option Nat
 gl : Nat → Option AV := fun _ => none
def TL.get (t : TL) (i : Nat) : AV := @Option.rec AV (fun _ => AV) .undef (fun v => v) (Tr.get t.tr i)
def TL.set (t : TL) (i : Nat) (v : AV) : TL := @Bool.rec (fun _ => TL) t ⟨t.n, Tr.set v t.tr i, t.ds, t.rd, t.gl⟩ (Nat.ble (Nat.succ i) t.n)
def TL.fill : List AV → Nat → TL → TL
 | [], _, t => t
 | x :: r, k, t => TL.fill r (k + 1) (t.set k x)
def TL.start (gl : Nat → Option AV) (args : List AV) (n : Nat) : TL := TL.fill args 0 ⟨args.length + (n - args.length), .leaf, [], none, gl⟩
theorem TL.n_set (t : TL) (i : Nat) (v : AV) : (t.set i v).n = t.n := by
 unfold TL.set
 cases Nat.ble (Nat.succ i) t.n <;> rfl
theorem TL.get_set (t : TL) (i : Nat) (v : AV) (j : Nat) : (t.set i v).get j = if j = i ∧ i < t.n then v else t.get j := by
 unfold TL.set
 cases e : Nat.ble (Nat.succ i) t.n with
 | true =>
  have : i < t.n := Nat.le_of_ble_eq_true e
  show (@Option.rec AV (fun _ => AV) .undef (fun v => v) (Tr.get (Tr.set v t.tr i) j)) = _
  rw [Tr.get_set]
  by_cases hj : j = i
  ·simp [hj, this]
  ·simp [hj]; rfl
 | false =>
  have : ¬ i < t.n := fun h => by
   have := Nat.ble_eq_true_of_le h
   rw [e] at this
   cases this
  simp [this]
theorem TL.n_fill : ∀ (l : List AV) (k : Nat) (t : TL), (TL.fill l k t).n = t.n
 | [], _, _ => rfl
 | x :: r, k, t => by rw [TL.fill, TL.n_fill, TL.n_set]
theorem TL.get_fill : ∀ (l : List AV) (k : Nat) (t : TL), k + l.length ≤ t.n → ∀ j, (TL.fill l k t).get j = if k ≤ j ∧ j < k + l.length then l.getD (j - k) .undef else t.get j
 | [], k, t, _, j => by rw [TL.fill, if_neg (by simp)]
 | x :: r, k, t, h, j => by
  simp only [lcc] at h ⊢
  rw [TL.fill, TL.get_fill r (k + 1) (t.set k x) (by rw [TL.n_set]; omega) j, TL.get_set]
  by_cases h1 : j = k
  ·subst h1
   rw [if_neg (by omega), if_pos ⟨rfl, by omega⟩, if_pos (by omega)]
   simp
  ·by_cases h2 : k + 1 ≤ j ∧ j < k + 1 + r.length
   ·rw [if_pos h2, if_pos (by omega)]
    obtain ⟨d, rfl⟩ : ∃ d, j = k + 1 + d := ⟨j - (k + 1), by omega⟩
    rw [show k + 1 + d - (k + 1) = d by omega, show k + 1 + d - k = d + 1 by omega, List.getD_cons_succ]
   ·rw [if_neg h2, if_neg (fun e => h1 e.1), if_neg (by omega)]
theorem TL.get_start (gl : Nat → Option AV) (args : List AV) (n j : Nat) : (TL.start gl args n).get j = args.getD j .undef := by
 rw [TL.start, TL.get_fill _ _ _ (by simp) j]
 by_cases h : j < args.length
 ·rw [if_pos (by omega)]; rfl
 ·rw [if_neg (by omega), gdd, List.getElem?_eq_none (by omega)]; rfl
theorem TL.ds_set (t : TL) (i : Nat) (v : AV) : (t.set i v).ds = t.ds := by
 unfold TL.set
 cases Nat.ble (Nat.succ i) t.n <;> rfl
theorem TL.rd_set (t : TL) (i : Nat) (v : AV) : (t.set i v).rd = t.rd := by
 unfold TL.set
 cases Nat.ble (Nat.succ i) t.n <;> rfl
theorem TL.gl_set (t : TL) (i : Nat) (v : AV) : (t.set i v).gl = t.gl := by
 unfold TL.set
 cases Nat.ble (Nat.succ i) t.n <;> rfl
theorem TL.gl_fill : ∀ (l : List AV) (k : Nat) (t : TL), (TL.fill l k t).gl = t.gl
 | [], _, _ => rfl
 | x :: r, k, t => by rw [TL.fill, TL.gl_fill, TL.gl_set]
theorem TL.gl_start (gl : Nat → Option AV) (args : List AV) (n : Nat) : (TL.start gl args n).gl = gl := TL.gl_fill _ _ _
theorem TL.ds_fill : ∀ (l : List AV) (k : Nat) (t : TL), (TL.fill l k t).ds = t.ds
 | [], _, _ => rfl
 | x :: r, k, t => by rw [TL.fill, TL.ds_fill, TL.ds_set]
theorem TL.rd_fill : ∀ (l : List AV) (k : Nat) (t : TL), (TL.fill l k t).rd = t.rd
 | [], _, _ => rfl
 | x :: r, k, t => by rw [TL.fill, TL.rd_fill, TL.rd_set]
theorem TL.ds_start (gl : Nat → Option AV) (args : List AV) (n : Nat) : (TL.start gl args n).ds = [] := TL.ds_fill _ _ _
theorem TL.rd_start (gl : Nat → Option AV) (args : List AV) (n : Nat) : (TL.start gl args n).rd = none := TL.rd_fill _ _ _
def TL.setL : List Tmp → List AV → TL → TL
 | p :: ps, v :: vs, t => TL.setL ps vs (t.set p v)
 | _, _, t => t
theorem TL.n_start (gl : Nat → Option AV) (args : List AV) (n : Nat) : (TL.start gl args n).n = args.length + (n - args.length) := TL.n_fill _ _ _

structure LRec where
 state : LoopState
 pend : Option Code
 t : TL
 ps : Array Tmp
 asg : Code
 body : Code
 dg : Nat
inductive Own where
 | mp (es : List (AV × AV))
 | loop (r : LRec)
 | dfr (op : Bool)
 | frz (xs : List AV)
structure Ver where
 cells : List AV
 delta : Nat
 mp : Option Own
structure Grp where
 vers : List Ver
structure St where
 ctr : Nat
 h : Tr Grp
 wr : List Nat
inductive End where
 | ret (v : AV)
 | pan (v : AV)

def ev (t : TL) : Operand → Option AV
 | .tmp i => some (t.get i)
 | .const v => ofVal v
 | .global g => t.gl g
 | .func f => if f < yb then some (.fn f []) else none

def evs (t : TL) : List Operand → Option (List AV)
 | [] => some []
 | x :: r => match ev t x with
  | none => none
  | some v => match evs t r with
   | none => none
   | some vs => some (v :: vs)

section

def St.newG (s : St) (G : Grp) : St := ⟨s.ctr + 1, Tr.set G s.h s.ctr, s.ctr :: s.wr⟩
def St.setG (s : St) (g : Nat) (G : Grp) : St := ⟨s.ctr, Tr.set G s.h g, g :: s.wr⟩
def St.get (s : St) (g : Nat) : Option Grp := Tr.get s.h g

def Grp.read (G : Grp) (j off n : Nat) : Option (List AV) :=
 match G.vers[j]? with
 | none => none
 | some V => if V.mp.isNone = true ∧ off + n ≤ V.cells.length then some ((V.cells.drop off).take n) else none
def St.read (s : St) (g j off n : Nat) : Option (List AV) :=
 match s.get g with
 | none => none
 | some G => G.read j off n

def St.readF (s : St) (g j off n : Nat) : Option (List AV) :=
 match s.get g with
 | some ⟨[V]⟩ => match V.mp with
  | some (.frz xs) => if j = 0 ∧ off + n ≤ xs.length then some ((xs.drop off).take n) else none
  | _ => none
 | _ => none
def St.readL (s : St) (g j off n : Nat) : Option (List AV) :=
 match s.read g j off n with
 | some cs => some cs
 | none => s.readF g j off n
theorem readL_of {s : St} {g j off n : Nat} {cs : List AV} (h : s.read g j off n = some cs) : s.readL g j off n = some cs := by unfold St.readL; rw [h]
def over (l : List AV) (off : Nat) (cs : List AV) : List AV := l.take off ++ cs ++ l.drop (off + cs.length)
def Ver.poke (V : Ver) (a n : Nat) : Ver :=
 { V with cells := V.cells.mapIdx fun i c => if a ≤ V.delta + i ∧ V.delta + i < a + n then .poison else c }
def Grp.write (G : Grp) (j off : Nat) (cs : List AV) : Option Grp :=
 match G.vers[j]? with
 | none => none
 | some V =>
  if V.mp.isNone = true ∧ off + cs.length ≤ V.cells.length then
   some ⟨G.vers.mapIdx fun k U => if k = j then { V with cells := over V.cells off cs } else U.poke (V.delta + off) cs.length⟩
  else none
def St.write (s : St) (g j off : Nat) (cs : List AV) : Option (St) :=
 if cs.all AV.leaf then
  match s.get g with
  | none => none
  | some G => match G.write j off cs with
   | none => none
   | some G' => some (s.setG g G')
 else none

def St.elems (s : St) (sz : Nat) : AV → Option (List AV)
 | .slc g j off sz' len _ _ => if sz' = sz then s.read g j off (len * sz) else if len = 0 then some [] else none
 | .ro _ xs => if xs.all (fun x => x.cells.length = sz && x.cells.all AV.leaf) then some (xs.flatMap AV.cells) else none
 | .nils => some []
 | _ => none
def AV.slen : AV → Option Nat
 | .slc _ _ _ _ len _ _ => some len
 | .ro _ xs => some xs.length
 | .nils => some 0
 | _ => none

def maxBytes : Nat := 140737488355328

def St.app (s : St) (sz bytes : Nat) (a : AV) (n : Nat) (ns : List AV) : Option (AV × St) :=
 if ¬ ns.all AV.leaf ∨ sz = 0 ∨ ns.length ≠ n * sz then none else
 match a with
 | .nils => if n = 0 then some (.nils, s) else if n * bytes ≤ maxBytes ∧ n ≤ maxBytes then some (.slc s.ctr 0 0 sz n n false, s.newG ⟨[⟨ns, 0, none⟩]⟩) else none
 | .slc g j off sz' len lo ex =>
  if sz' ≠ sz then none
  else if len + n ≤ lo then
   if n = 0 then some (a, s) else
   match s.write g j (off + len * sz) ns with
   | none => none
   | some s' => some (.slc g j off sz (len + n) lo ex, s')
  else if (len + n) * bytes ≤ maxBytes ∧ len + n ≤ maxBytes then
   match s.get g with
   | none => none
   | some G => match G.read j off (len * sz) with
    | none => none
    | some old =>
     if ex then some (.slc s.ctr 0 0 sz (len + n) (len + n) false, s.newG ⟨[⟨old ++ ns, 0, none⟩]⟩)
     else match G.vers[j]? with
      | none => none
      | some V =>
       let d := V.delta + off
       some (.slc g G.vers.length 0 sz (len + n) (len + n) false, s.setG g ⟨(G.vers.map fun U => U.poke (d + len * sz) (n * sz)) ++ [⟨old ++ ns, d, none⟩]⟩)
  else none
 | _ => none

inductive Res where
 | val (v : AV)
 | skip
 | call (f : FuncId) (args : List AV)

def intA (op : BinOp) (k : IntKind) (a b : Int) : Option AV :=
 match op with
 | .add => some (.int k (k.wrap (a + b)))
 | .sub => some (.int k (k.wrap (a - b)))
 | .mul => some (.int k (k.wrap (a * b)))
 | .quo => if b = 0 then none else some (.int k (k.wrap (a.tdiv b)))
 | .rem => if b = 0 then none else some (.int k (a.tmod b))
 | .and => some (.int k (k.wrap (BitVec.ofInt k.bits a &&& BitVec.ofInt k.bits b).toNat))
 | .or => some (.int k (k.wrap (BitVec.ofInt k.bits a ||| BitVec.ofInt k.bits b).toNat))
 | .xor => some (.int k (k.wrap (BitVec.ofInt k.bits a ^^^ BitVec.ofInt k.bits b).toNat))
 | .andNot => some (.int k (k.wrap (BitVec.ofInt k.bits a &&& ~~~ BitVec.ofInt k.bits b).toNat))
 | .eql => some (.bool (a == b))
 | .neq => some (.bool (a != b))
 | .lss => some (.bool (decide (a < b)))
 | .leq => some (.bool (decide (a ≤ b)))
 | .gtr => some (.bool (decide (a > b)))
 | .geq => some (.bool (decide (a ≥ b)))
 | _ => none
def shiftA (op : BinOp) (k : IntKind) (a b : Int) : Option AV :=
 if b < 0 then none else
 match op with
 | .shl => some (.int k (k.wrap (a * 2 ^ (min b.toNat k.bits))))
 | .shr => some (.int k (a.fdiv (2 ^ (min b.toNat k.bits))))
 | _ => none
def strA (op : BinOp) (x y : ByteArray) : Option AV :=
 match op with
 | .add => if ((x.size + y.size : Nat) : Int) > IntKind.i64.max then none else some (.str (x ++ y))
 | .eql => some (.bool (x == y))
 | .neq => some (.bool (!(x == y)))
 | _ => none
def flatEq : List AV → List AV → List AV → Option Bool
 | [], [], [] => some true
 | .int _ _ :: z, .int k a :: r, .int k' b :: r' => if k = k' then (flatEq z r r').map fun q => (a == b) && q else none
 | .bool _ :: z, .bool a :: r, .bool b :: r' => (flatEq z r r').map fun q => (a == b) && q
 | .str _ :: z, .str a :: r, .str b :: r' => (flatEq z r r').map fun q => (a == b) && q
 | _, _, _ => none

def binA (T : Tab) (op : BinOp) (xt : TypeId) (x y : AV) : Option AV :=
 match x, y with
 | .int k a, .int k' b =>
  match op with
  | .shl | .shr => shiftA op k a b
  | _ => if k = k' then intA op k a b else none
 | .str a, .str b => strA op a b
 | .bool a, .bool b =>
  match T xt with
  | some { sh := .boolean, .. } => match op with
   | .eql => some (.bool (a == b))
   | .neq => some (.bool (!(a == b)))
   | _ => none
  | _ => none
 | .agg a, .agg b =>
  match T xt with
  | some { zero := z, flat := true, .. } => match op with
   | .eql => (flatEq z a b).map .bool
   | .neq => (flatEq z a b).map fun q => .bool (!q)
   | _ => none
  | _ => none
 | x, .nils =>
  match T xt with
  | some { sh := .slice _, .. } =>
   match (match x with | .nils => some true | .ro nl _ => some nl | .slc .. => some false | _ => none : Option Bool) with
   | some q => match op with
    | .eql => some (.bool q)
    | .neq => some (.bool (!q))
    | _ => none
   | none => none
  | _ => none
 | _, _ => none

def unA (op : UnOp) (x : AV) : Option AV :=
 match op, x with
 | .not, .bool b => some (.bool (!b))
 | .neg, .int k n => some (.int k (k.wrap (0 - n)))
 | .xor, .int k n => some (.int k (k.wrap (BitVec.ofInt k.bits (if k.signed then -1 else k.max) ^^^ BitVec.ofInt k.bits n).toNat))
 | _, _ => none

def fillA (place : Nat → Option (Nat × Nat)) (cells : List AV) : List (Nat × AV) → Option (List AV)
 | [] => some cells
 | (i, v) :: rest =>
  match place i with
  | none => none
  | some (off, size) =>
   if v.cells.length ≠ size ∨ off + v.cells.length > cells.length then none
   else fillA place (over cells off v.cells) rest

def evParts (t : TL) : List (Nat × Operand) → Option (List (Nat × AV))
 | [] => some []
 | (i, x) :: r => match ev t x with
  | none => none
  | some v => match evParts t r with
   | none => none
   | some vs => some ((i, v) :: vs)

def Sh.isAgg : Sh → Bool
 | .array .. | .struct _ => true
 | _ => false

def Sh.isIf : Sh → Bool
 | .iface => true
 | _ => false
def TI.cnt (i : TI) : Nat := if i.sh.isAgg then i.size else 1
def ofCells (agg : Bool) (cs : List AV) : Option AV :=
 if agg then some (.agg cs) else match cs with
  | [c] => some c
  | _ => none

def natA : AV → Option Nat
 | .int _ n => if 0 ≤ n then some n.toNat else none
 | _ => none
def optNat (t : TL) : Option Operand → Option (Option Nat)
 | none => some none
 | some x => match ev t x with
  | none => none
  | some v => match natA v with
   | none => none
   | some n => some (some n)

def cutB (b : ByteArray) (l h : Nat) : ByteArray := ⟨⟨(b.data.toList.drop l).take (h - l)⟩⟩
def sliceA (T : Tab) (tt : TypeId) (x : AV) (lo hi mx : Option Nat) : Option AV :=
 match T tt, x with
 | some { sh := .slice e, .. }, .slc g j off sz len room ex =>
  match T e with
  | none => none
  | some ie =>
  if ie.size ≠ sz then (if len = 0 ∧ lo.getD 0 = 0 ∧ hi.getD 0 = 0 ∧ mx = none then some (.slc g j off sz 0 room ex) else none) else
  let l := lo.getD 0
  let h := hi.getD len
  match mx with
  | none => if l ≤ h ∧ h ≤ room then some (.slc g j (off + l * sz) sz (h - l) (room - l) ex) else none
  | some m => if l ≤ h ∧ h ≤ m ∧ m ≤ room ∧ hi.isSome then some (.slc g j (off + l * sz) sz (h - l) (m - l) true) else none
 | some { sh := .slice e, .. }, .ro nl xs =>
  match T e with
  | none => none
  | some ie =>
  let l := lo.getD 0
  let h := hi.getD xs.length
  match mx with
  | none => if l ≤ h ∧ h ≤ xs.length ∧ xs.all (fun x => x.cells.length == ie.size) then some (.ro nl ((xs.drop l).take (h - l))) else none
  | some _ => none
 | some { sh := .slice e, .. }, .nils =>
  match T e with
  | none => none
  | some _ =>
  if lo.getD 0 = 0 ∧ hi.getD 0 = 0 ∧ mx.getD 0 = 0 ∧ (mx.isSome → hi.isSome) then some .nils else none
 | some { sh := .array n e, .. }, .ptr g j off =>
  match T e with
  | none => none
  | some ie =>
  let l := lo.getD 0
  let h := hi.getD n
  match mx with
  | none => if l ≤ h ∧ h ≤ n ∧ ie.size ≠ 0 then some (.slc g j (off + l * ie.size) ie.size (h - l) (n - l) true) else none
  | some _ => none
 | some { sh := .text, .. }, .str b =>
  let l := lo.getD 0
  let h := hi.getD b.size
  if l ≤ h ∧ h ≤ b.size ∧ mx = none then some (.str (cutB b l h)) else none
 | _, _ => none

def idxA (T : Tab) (tt : TypeId) (x : AV) (i : Nat) : Option AV :=
 match T tt, x with
 | some { sh := .slice e, .. }, .slc g j off sz len _ _ =>
  match T e with
  | none => none
  | some ie => if ie.size = sz ∧ i < len then some (.ptr g j (off + i * sz)) else none
 | some { sh := .slice e, .. }, .ro _ xs => match T e, xs[i]? with
  | some ie, some x => if x.cells.length = ie.size then some (.rop x.cells) else none
  | _, _ => none
 | some { sh := .array n e, .. }, .ptr g j off =>
  match T e with
  | none => none
  | some ie => if i < n then some (.ptr g j (off + i * ie.size)) else none
 | some { sh := .array n e, .. }, .rop cs =>
  match T e with
  | none => none
  | some ie => if i < n ∧ i * ie.size ≤ cs.length then some (.rop (cs.drop (i * ie.size))) else none
 | _, _ => none

def arrOk (T : Tab) (tt : TypeId) (x : AV) (s : St) : Bool :=
 match T tt, x with
 | some { sh := .array n e, .. }, .ptr g j off => match T e with
  | none => false
  | some ie => (s.read g j off (n * ie.size)).isSome
 | _, _ => true

def lenA (T : Tab) (t : TypeId) (x : AV) : Option Nat :=
 match T t with
 | none => none
 | some i => match i.sh with
  | .slice _ => x.slen
  | .text => match x with
   | .str b => some b.size
   | _ => none
  | .array n _ => some n
  | _ => none
def appZeros (T : Tab) (t t' : TypeId) (a x : AV) (s : St) : Option (AV × St) :=
 match T t, T t', a, x with
 | some { sh := .slice e, .. }, some { sh := .num _, .. }, .nils, .int .i64 n => match T e with
  | none => none
  | some ie =>
   if 0 < n ∧ n.toNat * ie.bytes ≤ maxBytes ∧ n ≤ 140737488355328 ∧ ie.zero.length = ie.size ∧ ie.size ≠ 0 ∧ ie.zero.all AV.leaf then
    some (.slc s.ctr 0 0 ie.size n.toNat n.toNat false, s.newG ⟨[⟨(List.replicate n.toNat ie.zero).flatten, 0, none⟩]⟩)
   else none
 | _, _, _, _ => none

def callA (T : Tab) (b : Builtin) (tys : List TypeId) (args : List AV) (s : St) : Option (AV × St) :=
 match b, tys, args with
 | .len, [t], [x] => match lenA T t x with
  | none => none
  | some n => some (.int .i64 n, s)
 | .cap, [t], [x] => match T t, x with
  | some { sh := .slice _, .. }, .nils => some (.int .i64 0, s)
  | some { sh := .slice _, .. }, .slc _ _ _ _ _ lo true => some (.int .i64 lo, s)
  | _, _ => none
 | .append, [t, t'], [a, x] =>
  if t ≠ t' then appZeros T t t' a x s else
  match T t with
  | some { sh := .slice e, .. } => match T e with
   | none => none
   | some ie => match x.slen, s.elems ie.size x with
    | some n, some ns => s.app ie.size ie.bytes a n ns
    | _, _ => none
  | _ => none
 | .copy, [t, t'], [d, x] =>
  if t ≠ t' then none else
  match T t with
  | some { sh := .slice e, .. } => match T e with
   | none => none
   | some ie => match x.slen, s.elems ie.size x, d with
    | some n, some ns, .slc g j off sz len _ _ =>
     if sz = ie.size ∧ sz ≠ 0 then
      match s.write g j off (ns.take (min n len * sz)) with
      | none => none
      | some s' => some (.int .i64 (min n len : Nat), s')
     else none
    | _, _, _ => none
  | _ => none
 | .max, _, [.int k x, .int k' y] => if k = k' then some (.int k (if x < y then y else x), s) else none
 | .min, _, [.int k x, .int k' y] => if k = k' then some (.int k (if y < x then y else x), s) else none
 | _, _, _ => none

def keyEq : AV → AV → Option Bool
 | .int k a, .int k' b => if k = k' then some (a == b) else none
 | .str a, .str b => some (a == b)
 | _, _ => none
def mpFind (k : AV) : List (AV × AV) → Nat → Option (Option (Nat × AV))
 | [], _ => some none
 | e :: es, i => match keyEq k e.1 with
  | some true => some (some (i, e.2))
  | some false => mpFind k es (i + 1)
  | none => none
def keyOk (T : Tab) (kt : TypeId) : AV → Bool
 | .int k _ => match T kt with
  | some { sh := .num k', .. } => k == k'
  | _ => false
 | .str _ => match T kt with
  | some { sh := .text, .. } => true
  | _ => false
 | _ => false
def St.entries (s : St) : AV → Option (List (AV × AV))
 | .nilm => some []
 | .mp g => match s.get g with
  | some ⟨[V]⟩ => match V.mp with
   | some (.mp es) => some es
   | _ => none
  | _ => none
 | _ => none
def St.loop (s : St) (g : Nat) : Option LRec := match s.get g with
 | some ⟨[V]⟩ => match V.mp with
  | some (.loop r) => some r
  | _ => none
 | none => none
 | _ => none
def St.setOwn (s : St) (g : Nat) (o : Own) : St := s.setG g ⟨[⟨[], 0, some o⟩]⟩
def St.newOwn (s : St) (o : Own) : St := s.newG ⟨[⟨[], 0, some o⟩]⟩
def St.dfr (s : St) (g : Nat) : Bool := match s.get g with
 | some ⟨[V]⟩ => match V.mp with
  | some (.dfr b) => b
  | _ => false
 | _ => false

def assertA (i : TI) (a : TypeId) (ok : Bool) : AV → Option AV
 | .iface tt v => if tt = a then some (if ok then .tup [v, .bool true] else v) else if ok then match ofCells i.sh.isAgg i.zero with
   | some z => some (.tup [z, .bool false])
   | none => none
  else none
 | .nili => if ok then match ofCells i.sh.isAgg i.zero with
   | some z => some (.tup [z, .bool false])
   | none => none
  else none
 | _ => none
def nilA (op : BinOp) : AV → Option AV
 | .nili => match op with
  | .eql => some (.bool true)
  | .neq => some (.bool false)
  | _ => none
 | .iface _ _ => match op with
  | .eql => some (.bool false)
  | .neq => some (.bool true)
  | _ => none
 | _ => none
def nilB (T : Tab) (op : BinOp) (xt : TypeId) (y : Operand) (vx : AV) : Option AV := match y, T xt with
 | .const .nilIface, some { sh := .iface, .. } => nilA op vx
 | _, _ => none
def evOp (T : Tab) (o : Op) (t : TL) (s : St) : Option (Res × St) :=
 match o with
 | .move x | .assign x => match ev t x with
  | none => none
  | some v => some (.val v, s)
 | .pick c a b => match ev t c with
  | some (.bool q) => match ev t a, ev t b with
   | some va, some vb => some (.val (if q then va else vb), s)
   | _, _ => none
  | _ => none
 | .alloc e => match T e with
  | none => none
  | some i => if i.zero.all AV.leaf then some (.val (.ptr s.ctr 0 0), s.newG ⟨[⟨i.zero, 0, none⟩]⟩) else none
 | .box _ x => match ev t x with
  | none => none
  | some v => if v.cells.all AV.leaf then some (.val (.ptr s.ctr 0 0), s.newG ⟨[⟨v.cells, 0, none⟩]⟩) else none
 | .build tt parts => match T tt with
  | none => none
  | some i => match evParts t parts.toList with
   | none => none
   | some ps =>
    match (match i.sh with
      | .struct fs => fillA (fun n => (fs[n]?).map fun f => (f.1, f.2.1)) i.zero ps
      | .array _ e => match T e with
        | none => none
        | some ie => fillA (fun n => some (n * ie.size, ie.size)) i.zero ps
      | _ => none) with
    | none => none
    | some cs => some (.val (.agg cs), s)
 | .buildSlice tt len parts => match T tt with
  | some { sh := .slice e, .. } => match T e with
   | none => none
   | some ie => match evParts t parts.toList with
    | none => none
    | some ps =>
     if len * ie.size > 2 ^ 24 ∨ ie.zero.length ≠ ie.size ∨ ie.size = 0 then none else
     match fillA (fun n => some (n * ie.size, ie.size)) (List.replicate len ie.zero).flatten ps with
     | none => none
     | some cs => if cs.all AV.leaf then some (.val (.slc s.ctr 0 0 ie.size len len true), s.newG ⟨[⟨cs, 0, none⟩]⟩) else none
  | _ => none
 | .load tt a => match T tt with
  | none => none
  | some i => match ev t a with
   | some (.ptr g j off) => match s.readL g j off i.cnt with
    | none => none
    | some cs => match ofCells i.sh.isAgg cs with
     | none => none
     | some v => some (.val v, s)
   | some (.rop cs) =>
    if i.cnt ≤ cs.length ∧ cs.all AV.leaf then
     match ofCells i.sh.isAgg (cs.take i.cnt) with
     | none => none
     | some v => some (.val v, s)
    else none
   | _ => none
 | .store tt a x => match T tt with
  | none => none
  | some i => match ev t a, ev t x with
   | some (.ptr g j off), some v =>
    if v.cells.length ≠ i.size then none else
    match s.write g j off v.cells with
    | none => none
    | some s' => some (.skip, s')
   | _, _ => none
 | .nilCheck x => match ev t x with
  | some (.ptr g j off) => some (.val (.ptr g j off), s)
  | some (.rop cs) => some (.val (.rop cs), s)
  | _ => none
 | .index tt x i => match T tt, ev t x, ev t i with
  | some { sh := .text, .. }, some (.str b), some vi => match natA vi with
   | none => none
   | some n => match b[n]? with
    | some c => some (.val (.int .u8 c.toNat), s)
    | none => none
  | some { sh := .array m e, .. }, some (.agg cs), some vi => match natA vi, T e with
   | some n, some ie => if n < m ∧ n * ie.size + ie.size ≤ cs.length ∧ (ie.sh.isAgg = false → ie.size = 1) then match ofCells ie.sh.isAgg ((cs.drop (n * ie.size)).take ie.size) with
     | some v => some (.val v, s)
     | none => none
    else none
   | _, _ => none
  | _, _, _ => none
 | .makeInterface tt x => match T tt, ev t x with
  | some i, some v => if i.sh.isIf then none else some (.val (.iface tt v), s)
  | _, _ => none
 | .typeAssert x _ a ok => match T a, ev t x with
  | some i, some v => if i.sh.isIf then none else match assertA i a ok v with
   | some r => some (.val r, s)
   | none => none
  | _, _ => none
 | .binOp op xt x y _ => match ev t x, ev t y with
  | some vx, some vy => match binA T op xt vx vy with
   | none => match nilB T op xt y vx with
    | none => none
    | some v => some (.val v, s)
   | some v => some (.val v, s)
  | _, _ => none
 | .unOp op _ x => match ev t x with
  | none => none
  | some vx => match unA op vx with
   | none => none
   | some v => some (.val v, s)
 | .convert src dst x => match T src, T dst, ev t x with
  | some { sh := .num _, .. }, some { sh := .num k', .. }, some (.int _ n) => some (.val (.int k' (k'.wrap n)), s)
  | _, _, _ => none
 | .makeFunc (.func f) first caps => if first.size ≠ 0 then
   if f < yb ∧ caps.size = 0 then match evs t first.toList with
    | none => none
    | some vs => some (.val (.mv f vs), s)
   else none
  else if f < yb then match evs t caps.toList with
   | none => none
   | some vs => some (.val (.fn f vs), s)
  else none
 | .makeSlice tt l c => match T tt with
  | some { sh := .slice e, .. } => match T e with
   | none => none
   | some ie => match ev t l, ev t c with
    | some (.int .i64 n), some (.int .i64 m) =>
     if 0 ≤ n ∧ n = m ∧ n.toNat * ie.bytes ≤ maxBytes ∧ n ≤ 140737488355328 ∧ ie.zero.length = ie.size ∧ ie.size ≠ 0 ∧ ie.zero.all AV.leaf then
      some (.val (.slc s.ctr 0 0 ie.size n.toNat n.toNat true), s.newG ⟨[⟨(List.replicate n.toNat ie.zero).flatten, 0, none⟩]⟩)
     else none
    | _, _ => none
  | _ => none
 | .slice tt x lo hi mx => match ev t x, optNat t lo, optNat t hi, optNat t mx with
  | some v, some l, some h, some m => if arrOk T tt v s then match sliceA T tt v l h m with
    | none => none
    | some r => some (.val r, s)
   else none
  | _, _, _, _ => none
 | .fieldAddr st x f => match T st with
  | some { sh := .struct fs, .. } => match fs[f]?, ev t x with
   | some (off, sz, _), some (.ptr g j o) => if sz = 0 then none else some (.val (.ptr g j (o + off)), s)
   | some (off, sz, _), some (.rop cs) => if sz = 0 then none else if off ≤ cs.length then some (.val (.rop (cs.drop off)), s) else none
   | _, _ => none
  | _ => none
 | .field st x f => match T st with
  | some { sh := .struct fs, .. } => match fs[f]?, ev t x with
   | some (off, sz, ag), some (.agg cs) =>
    if off + sz ≤ cs.length ∧ (ag = false → sz = 1) then
     match ofCells ag ((cs.drop off).take sz) with
     | none => none
     | some v => some (.val v, s)
    else none
   | _, _ => none
  | _ => none
 | .indexAddr tt x i => match ev t x, ev t i with
  | some vx, some vi => match natA vi with
   | none => none
   | some n => match idxA T tt vx n with
    | none => none
    | some v => some (.val v, s)
  | _, _ => none
 | .makeMap tt none => match T tt with
  | some { sh := .map _ _, .. } => some (.val (.mp s.ctr), s.newG ⟨[⟨[], 0, some (.mp [])⟩]⟩)
  | _ => none
 | .insert tt m k x | .mapUpdate tt m k x => match T tt with
  | some { sh := .map kt _, .. } => match ev t m, ev t k, ev t x with
   | some (.mp g), some vk, some vx => match s.entries (.mp g), keyOk T kt vk with
    | some es, true => match mpFind vk es 0 with
     | some none => some (.skip, s.setG g ⟨[⟨[], 0, some (.mp (es ++ [(vk, vx)]))⟩]⟩)
     | some (some (i, _)) => some (.skip, s.setG g ⟨[⟨[], 0, some (.mp (es.set i (vk, vx)))⟩]⟩)
     | none => none
    | _, _ => none
   | _, _, _ => none
  | _ => none
 | .lookup tt m k ok => match T tt with
  | some { sh := .map kt et, .. } => match T et with
   | none => none
   | some ie => match ev t m, ev t k with
    | some vm, some vk => match s.entries vm, keyOk T kt vk with
     | some es, true => match mpFind vk es 0 with
      | some (some (_, v)) => some (.val (if ok then .tup [v, .bool true] else v), s)
      | some none => match ofCells ie.sh.isAgg ie.zero with
       | some z => some (.val (if ok then .tup [z, .bool false] else z), s)
       | none => none
      | none => none
     | _, _ => none
    | _, _ => none
  | _ => none
 | .extract x i => match ev t x with
  | some (.tup vs) => match vs[i]? with
   | none => none
   | some v => some (.val v, s)
  | _ => none
 | .call c => match c.callee with
  | .value f => match ev t f, evs t c.args.toList with
   | some (.fn g caps), some args => some (.call g (args ++ caps), s)
   | some (.mv g first), some args => some (.call g (first ++ args), s)
   | _, _ => none
  | .builtin b => match evs t c.args.toList with
   | none => none
   | some args => match callA T b c.argTypes.toList args s with
    | none => none
    | some (v, s') => some (.val v, s')
  | _ => none
 | _ => none

def putA (t : TL) : Option Tmp → AV → TL
 | none, _ => t
 | some d, v => t.set d v

def guardA (ops : Array Oper) (t : TL) : Option (Nat × Bool) → Option Bool
 | none => some true
 | some (j, want) => match (ops[j]?).bind (·.dst) with
  | none => some false
  | some d => match t.get d with
   | .bool b => some (b == want)
   | .poison => none
   | _ => some false

def evStep (T : Tab) (call : FuncId → List AV → St → Option (End × St)) (ops : Array Oper) (o : Oper) (t : TL) (s : St) : Option (TL × St) :=
 match guardA ops t o.guard with
 | none => none
 | some false => some (putA t o.dst .undef, s)
 | some true => match evOp T o.op t s with
  | none => none
  | some (.val v, s') => some (putA t o.dst v, s')
  | some (.skip, s') => some (putA t o.dst .undef, s')
  | some (.call f args, s') => match call f args s' with
   | some (.ret v, s'') => some (putA t o.dst v, s'')
   | _ => none

def evOwn (T : Tab) (o : Op) (t : TL) (s : St) : Option (AV × List DefA × St) :=
 match o with
 | .convert src dst x => match T src, T dst, ev t x with
  | some { sh := .text, .. }, some { sh := .slice e, .. }, some (.str b) => match T e with
   | some { sh := .num .u8, size := 1, .. } => if b.size ≤ maxBytes then some (.slc s.ctr 0 0 1 b.size b.size false, t.ds, s.newOwn (.frz (b.data.toList.map fun c => .int .u8 c.toNat))) else none
   | _ => none
  | _, _, _ => none
 | .defer c => match c.callee, t.rd with
  | .value f, none => match ev t f, evs t c.args.toList with
   | some (.fn g caps), some args => if g < yb then some (.undef, .clo g (args ++ caps) :: t.ds, s) else none
   | _, _ => none
  | _, _ => none
 | _ => none
def evStepX (T : Tab) (call : FuncId → List AV → St → Option (End × St)) (ops : Array Oper) (o : Oper) (t : TL) (s : St) : Option (TL × St) :=
 match evStep T call ops o t s with
 | some r => some r
 | none => match guardA ops t o.guard with
  | some true => match evOwn T o.op t s with
   | some (v, ds, s') => some ({ putA t o.dst v with ds := ds }, s')
   | none => none
  | _ => none
def evPan (T : Tab) (call : FuncId → List AV → St → Option (End × St)) (ops : Array Oper) (o : Oper) (t : TL) (s : St) : Option (AV × St) :=
 match guardA ops t o.guard with
 | some true => match o.op with
  | .panic x => match ev t x with
   | some (.iface tt v) => some (.iface tt v, s)
   | _ => none
  | op => match evOp T op t s with
   | some (.call f args, s') => match call f args s' with
    | some (.pan v, s'') => some (v, s'')
    | _ => none
   | _ => none
 | _ => none

def evOps (T : Tab) (call : FuncId → List AV → St → Option (End × St)) (ops : Array Oper) : List Oper → TL → St → Option (TL × St)
 | [], t, s => some (t, s)
 | o :: rest, t, s => match evStepX T call ops o t s with
  | none => none
  | some (t', s') => evOps T call ops rest t' s'
def evOpsP (T : Tab) (call : FuncId → List AV → St → Option (End × St)) (ops : Array Oper) : List Oper → TL → St → Option (AV × TL × St)
 | [], _, _ => none
 | o :: rest, t, s => match evStepX T call ops o t s with
  | none => match evPan T call ops o t s with
   | none => none
   | some (v, s') => some (v, t, s')
  | some (t', s') => evOpsP T call ops rest t' s'

def Op.eff : Op → Bool
 | .alloc _ | .box .. | .buildSlice .. | .store .. | .makeSlice .. | .makeMap .. | .insert .. | .mapUpdate .. => true
 | .call { callee := .builtin b, .. } => !(b matches .len | .cap | .max | .min)
 | .call _ => true
 | _ => false

def readsA (t : TL) : Op → Option Nat
 | .load _ a => match ev t a with
  | some (.ptr g _ _) => some g
  | _ => none
 | .slice _ a _ _ _ => match ev t a with
  | some (.ptr g _ _) => some g
  | _ => none
 | .lookup _ a _ _ => match ev t a with
  | some (.mp g) => some g
  | _ => none
 | _ => none

def Oper.early (b : Bool) (o : Oper) : Bool := match o.op with
 | .alloc _ => b || o.guard.isNone
 | .box _ _ => b
 | .buildSlice _ _ _ => b
 | .makeSlice _ _ _ => b
 | .makeMap _ r => b && r.isNone
 | _ => false

def AV.eqB : AV → AV → Bool
 | .int k a, .int k' a' => k == k' && a == a'
 | .bool a, .bool a' => a == a'
 | .str a, .str a' => a.data == a'.data
 | .nilp, .nilp => true
 | .nils, .nils => true
 | .nilf, .nilf => true
 | .nili, .nili => true
 | .nilm, .nilm => true
 | .ptr g j o, .ptr g' j' o' => g == g' && j == j' && o == o'
 | .slc g j o sz len lo ex, .slc g' j' o' sz' len' lo' ex' => g == g' && j == j' && o == o' && sz == sz' && len == len' && lo == lo' && ex == ex'
 | .mp g, .mp g' => g == g'
 | _, _ => false
def AV.eqBs : List AV → List AV → Bool
 | [], [] => true
 | x :: r, y :: r' => AV.eqB x y && AV.eqBs r r'
 | _, _ => false

def earlyCells (T : Tab) (g : List AV) : Op → Option (List AV)
 | .alloc e => match T e with
  | none => none
  | some i => some i.zero
 | .makeMap tt _ => match T tt with
  | some { sh := .map _ _, .. } => some []
  | _ => none
 | _ => some g
def earlyG (cs : List AV) : Op → Grp
 | .makeMap _ _ => ⟨[⟨[], 0, some (.mp [])⟩]⟩
 | _ => ⟨[⟨cs, 0, none⟩]⟩
def hoist (b : Bool) (T : Tab) : List Oper → List (List AV) → St → Option (St × List (Option (Nat × List AV)))
 | [], _, s => some (s, [])
 | o :: rest, gs, s =>
  if Oper.early b o then match earlyCells T (gs.headD []) o.op with
   | none => none
   | some cs => if cs.all AV.leaf then match hoist b T rest gs.tail (s.newG (earlyG cs o.op)) with
     | none => none
     | some (s', l) => some (s', some (s.ctr, cs) :: l)
    else none
  else match hoist b T rest gs.tail s with
   | none => none
   | some (s', l) => some (s', none :: l)
def earlyVal (T : Tab) (ops : Array Oper) (o : Oper) (t : TL) (c : Nat) (cs : List AV) : Option AV :=
 match guardA ops t o.guard with
 | none => none
 | some false => some .undef
 | some true => match o.op with
  | .alloc _ => some (.ptr c 0 0)
  | .makeMap _ _ => some (.mp c)
  | op => match evOp T op t ⟨c, .leaf, []⟩ with
   | some (.val v, s1) => match s1.get c with
    | some ⟨[⟨cs', 0, none⟩]⟩ => if AV.eqBs cs' cs then some v else none
    | _ => none
   | _ => none

structure Entry where
 rd : Option Nat
 wr : List Nat
 al : Option Nat

def evLog (T : Tab) (call : FuncId → List AV → St → Option (End × St)) (ops : Array Oper) : List Oper → List (Option (Nat × List AV)) → TL → St → Option (TL × St × List Entry)
 | o :: rest, some (c, cs) :: hs, t, s => match earlyVal T ops o t c cs with
  | none => none
  | some v => match evLog T call ops rest hs (putA t o.dst v) s with
   | none => none
   | some (t'', s'', l) => some (t'', s'', ⟨none, [], some c⟩ :: l)
 | o :: rest, none :: hs, t, s => match evStep T call ops o t { s with wr := [] } with
  | none => none
  | some (t', s') => match evLog T call ops rest hs t' { s' with wr := s'.wr ++ s.wr } with
   | none => none
   | some (t'', s'', l) => some (t'', s'', ⟨(if guardA ops t o.guard = some true then readsA t o.op else none), s'.wr, none⟩ :: l)
 | _, _, t, s => some (t, s, [])
def evGuess (T : Tab) (call : FuncId → List AV → St → Option (End × St)) (ops : Array Oper) : List Oper → List (Option (Nat × List AV)) → TL → St → Option (List (List AV))
 | o :: rest, some (c, _) :: hs, t, s => match guardA ops t o.guard with
  | none => none
  | some false => (evGuess T call ops rest hs (putA t o.dst .undef) s).map ([] :: ·)
  | some true => match o.op with
   | .alloc _ => (evGuess T call ops rest hs (putA t o.dst (.ptr c 0 0)) s).map ([] :: ·)
   | .makeMap _ _ => (evGuess T call ops rest hs (putA t o.dst (.mp c)) s).map ([] :: ·)
   | op => match evOp T op t ⟨c, .leaf, []⟩ with
    | some (.val v, s1) => match s1.get c with
     | some ⟨[V]⟩ => (evGuess T call ops rest hs (putA t o.dst v) (s.setG c ⟨[V]⟩)).map (V.cells :: ·)
     | _ => none
    | _ => none
 | o :: rest, none :: hs, t, s => match evStep T call ops o t s with
  | none => none
  | some (t', s') => (evGuess T call ops rest hs t' s').map ([] :: ·)
 | _, _, _, _ => some []

def aheadB (B : Array Nat) (i j : Nat) : Bool := (B.getD j 0).testBit i
def Oper.turns (b : Bool) (o : Oper) : Bool := Op.eff o.op && !Oper.early b o

def drawOk (b : Bool) (ops : Array Oper) : Bool :=
 ((List.range ops.size).all fun j => match ops[j]? with
   | some o => o.after.all fun e => !Region.binds .any e || decide (e.on < j)
   | none => true) &&
 (List.range ops.size).all fun j => (List.range j).all fun i =>
  aheadB (Region.before ops) i j || match ops[i]?, ops[j]? with
   | some x, some y => Oper.apart ops x y && Oper.apart ops y x && !(Oper.turns b x && Oper.turns b y)
   | _, _ => true

def logOk (B : Array Nat) (l : List Entry) : Bool :=
 (List.range l.length).all fun i => match l[i]? with
  | none => true
  | some x =>
   (match x.rd with
   | none => true
   | some g => (List.range l.length).all fun e => aheadB B e i || aheadB B i e || match l[e]? with
     | none => true
     | some y => !y.wr.contains g) &&
   (match x.al with
   | none => true
   | some g => (List.range l.length).all fun e => aheadB B i e || match l[e]? with
     | none => true
     | some y => !y.wr.contains g)

def evTrace (T : Tab) (call : FuncId → List AV → St → Option (End × St)) (ops : Array Oper) : List Oper → List (Option (Nat × List AV)) → TL → St → List (TL × St)
 | o :: rest, some (c, cs) :: hs, t, s => (t, s) :: match earlyVal T ops o t c cs with
  | none => []
  | some v => evTrace T call ops rest hs (putA t o.dst v) s
 | o :: rest, none :: hs, t, s => (t, s) :: match evStep T call ops o t { s with wr := [] } with
  | none => []
  | some (t', s') => evTrace T call ops rest hs t' { s' with wr := s'.wr ++ s.wr }
 | _, _, t, s => [(t, s)]
def sameB (T : Tab) (ops : Array Oper) (l : List (TL × St)) (i e : Nat) : Bool :=
 match ops[i]?, l[i]?, l[e]?, l[e + 1]? with
 | some o, some a, some b, some c => match evOp T o.op a.1 b.2, evOp T o.op a.1 c.2 with
  | some (.val v, _), some (.val v', _) => AV.eqB v v'
  | _, _ => false
 | _, _, _, _ => false
def logOk2 (T : Tab) (ops : Array Oper) (tr : List (TL × St)) (B : Array Nat) (l : List Entry) : Bool :=
 (List.range l.length).all fun i => match l[i]? with
  | none => true
  | some x =>
   (match x.rd with
   | none => true
   | some g => (List.range l.length).all fun e => aheadB B e i || aheadB B i e || match l[e]? with
     | none => true
     | some y => !y.wr.contains g || sameB T ops tr i e) &&
   (match x.al with
   | none => true
   | some g => (List.range l.length).all fun e => aheadB B i e || match l[e]? with
     | none => true
     | some y => !y.wr.contains g)

def evDraw (T : Tab) (call : FuncId → List AV → St → Option (End × St)) (b : Bool) (gs : List (List AV)) (ops : Array Oper) (t : TL) (s : St) : Option (TL × St) :=
 match hoist b T ops.toList gs s with
 | none => none
 | some (s0, hs) => match evLog T call ops ops.toList hs t s0 with
  | none => none
  | some (t', s', l) => if logOk (Region.before ops) l then some (t', s') else if logOk2 T ops (evTrace T call ops ops.toList hs t s0) (Region.before ops) l then some (t', s') else none
def foretold (T : Tab) (call : FuncId → List AV → St → Option (End × St)) (ops : Array Oper) (t : TL) (s : St) : Option (List (List AV)) :=
 match hoist true T ops.toList [] s with
 | none => none
 | some (s0, hs) => evGuess T call ops ops.toList hs t s0

inductive Ex where
 | normal
 | exit (id : Nat)
 | goto (l : Nat)
 | ret
 | panic (v : AV)

def Ex.jump : Ex → Option (Option Code)
 | .normal => some none
 | .exit id => some (some (.exit id))
 | .goto l => some (some (.goto l))
 | .ret => some (some .ret)
 | .panic _ => none
def loopStart (t : TL) (s : St) : Option (Nat × List DefA × St) := match t.rd with
 | none => some (s.ctr, [.col s.ctr], s.newOwn (.dfr true))
 | some g => match s.loop g with
  | some r => some (r.dg, [], s)
  | none => none
def evCode (T : Tab) (call : FuncId → List AV → St → Option (End × St)) : Nat → Code → TL → St → Option (Ex × TL × St)
 | 0, _, _, _ => none
 | n + 1, c, t, s => match c with
  | .skip => some (.normal, t, s)
  | .label _ => some (.normal, t, s)
  | .region _ ops false => match evOps T call ops ops.toList t s with
   | none => match evOpsP T call ops ops.toList t s with
    | none => none
    | some (v, t', s') => some (.panic v, t', s')
   | some (t', s') => some (.normal, t', s')
  | .region _ ops true =>
   if drawOk false ops then match evDraw T call false [] ops t s with
    | none => none
    | some (t', s') => some (.normal, t', s')
   else if drawOk true ops then match foretold T call ops t s with
    | none => none
    | some gs => match evDraw T call true gs ops t s with
     | none => none
     | some (t', s') => some (.normal, t', s')
   else none
  | .seq a b => match evCode T call n a t s with
   | some (.normal, t', s') => evCode T call n b t' s'
   | r => r
  | .cond q a b => match ev t q with
   | some (.bool q) => evCode T call n (if q then a else b) t s
   | _ => none
  | .block id b => match evCode T call n b t s with
   | some (.exit id', t', s') => if id' = id then some (.normal, t', s') else some (.exit id', t', s')
   | r => r
  | .loop b => match evCode T call n b t s with
   | some (.normal, t', s') => evCode T call n (.loop b) t' s'
   | r => r
  | .exit id => some (.exit id, t, s)
  | .goto l => some (.goto l, t, s)
  | .ret => some (.ret, t, s)
  | .scope b => evScope T call n b b t s
  | .rangeFunc f ps asg body => match ev t f with
   | some (.fn gf caps) => if yb ≤ gf then none else match loopStart t s with
    | none => none
    | some (dg, mk, s1) => match call gf (.fn (yb + s1.ctr) [] :: caps) (s1.newOwn (.loop ⟨.ready, none, t, ps, asg, body, dg⟩)) with
     | some (.ret _, s2) => match s2.loop s1.ctr with
      | none => none
      | some r => if r.state == .busy then none else match r.pend with
       | none => some (.normal, { t with ds := mk ++ t.ds }, s2.setOwn s1.ctr (.loop { r with state := .exhausted }))
       | some c => evCode T call n c { t with ds := mk ++ t.ds } (s2.setOwn s1.ctr (.loop { r with state := .exhausted }))
     | _ => none
   | _ => none
  | .refuse _ => none
 where
 /-- A scope's body, from a place in it on. -/
 evScope (T : Tab) (call : FuncId → List AV → St → Option (End × St)) : Nat → Code → Code → TL → St → Option (Ex × TL × St)
  | 0, _, _, _, _ => none
  | n + 1, b, c, t, s => match evCode T call n c t s with
   | some (.goto l, t', s') => match findLabel b l with
    | some rest => evScope T call n b rest t' s'
    | none => some (.goto l, t', s')
   | r => r

def resA (T : Tab) (t : TL) (s : St) : List ResultVar → Option (List AV)
 | [] => some []
 | .tmp i :: r => match resA T t s r with
  | none => none
  | some vs => some (t.get i :: vs)
 | .cell a tt :: r => match T tt, t.get a with
  | some i, .ptr g j off => match s.read g j off i.cnt with
   | none => none
   | some cs => match ofCells i.sh.isAgg cs, resA T t s r with
    | some v, some vs => some (v :: vs)
    | _, _ => none
  | _, _ => none

def evRound (T : Tab) (call : FuncId → List AV → St → Option (End × St)) (n g : Nat) (args : List AV) (s : St) : Option (End × St) :=
 match s.loop g with
 | none => none
 | some r => if args.length = r.ps.size ∧ r.state == .ready then
   match evCode T call n r.asg { TL.setL r.ps.toList args r.t with ds := [], rd := some g } s with
   | some (.normal, t1, s1) => match s1.loop g with
    | none => none
    | some r1 => if r1.state == .ready then
      match evCode T call n r.body t1 (s1.setOwn g (.loop { r1 with state := .busy })) with
      | some (x, t2, s2) => match s2.loop g, t2.ds, x.jump with
       | some r2, [], some jp => some (.ret (.bool jp.isNone), s2.setOwn g (.loop { r2 with state := if jp.isNone then .ready else .done, pend := jp }))
       | _, _, _ => none
      | none => none
     else none
   | _ => none
  else none

def isRec : Op → Bool
 | .call { callee := .builtin .recover, args := as, .. } => as.size == 0
 | _ => false
inductive Md where
 | ret
 | pan (v : AV)
def evOpsS (T : Tab) (ops : Array Oper) : List Oper → TL → St → Md → Bool → Option (TL × St × Bool)
 | [], t, s, _, rc => some (t, s, rc)
 | o :: rest, t, s, md, rc => match guardA ops t o.guard with
  | none => none
  | some false => evOpsS T ops rest (putA t o.dst .undef) s md rc
  | some true => match isRec o.op, md, rc with
   | true, .pan v, false => evOpsS T ops rest (putA t o.dst v) s md true
   | true, _, _ => evOpsS T ops rest (putA t o.dst .nili) s md rc
   | false, _, _ => match evOp T o.op t s with
    | some (.val v, s') => evOpsS T ops rest (putA t o.dst v) s' md rc
    | some (.skip, s') => evOpsS T ops rest (putA t o.dst .undef) s' md rc
    | _ => none
def evCodeS (T : Tab) (call : FuncId → List AV → St → Option (End × St)) : Nat → Code → TL → St → Md → Bool → Option (Ex × TL × St × Bool)
 | 0, _, _, _, _, _ => none
 | n + 1, c, t, s, md, rc => match c with
  | .seq a b => match evCodeS T call n a t s md rc with
   | some (.normal, t', s', rc') => evCodeS T call n b t' s' md rc'
   | r => r
  | .cond q a b => match ev t q with
   | some (.bool q) => evCodeS T call n (if q then a else b) t s md rc
   | _ => none
  | .region _ ops false => match evOps T call ops ops.toList t s with
   | some (t', s') => some (.normal, t', s', rc)
   | none => match evOpsS T ops ops.toList t s md rc with
    | none => none
    | some (t', s', rc') => some (.normal, t', s', rc')
  | c => match evCode T call n c t s with
   | some (x, t', s') => some (x, t', s', rc)
   | none => none
def evDef (P : Program) (T : Tab) (gl : Nat → Option AV) (call : FuncId → List AV → St → Option (End × St)) (n : Nat) (f : FuncId) (args : List AV) (s : St) (md : Md) : Option (Md × St) :=
 match P.funcs[f]? with
 | none => none
 | some fn => match fn.body with
  | none => none
  | some c => if fn.results.size = 0 then match evCodeS T call n c (TL.start gl args fn.ntmps) s md false with
    | some (.normal, t, s', rc) | some (.ret, t, s', rc) => match t.ds with
     | [] => some (if rc then .ret else md, s')
     | _ => none
    | _ => none
   else none
def evLeave (P : Program) (T : Tab) (gl : Nat → Option AV) (call : FuncId → List AV → St → Option (End × St)) (n : Nat) (fn : Func) (t : TL) : List DefA → St → Md → Option (End × St)
 | [], s, .ret => match resA T t s fn.results.toList with
  | some [v] => some (.ret v, s)
  | some vs => some (.ret (.tup vs), s)
  | none => none
 | [], s, .pan v => some (.pan v, s)
 | .col g :: r, s, md => if s.dfr g then evLeave P T gl call n fn t r (s.setOwn g (.dfr false)) md else none
 | .clo f args :: r, s, md => match evDef P T gl call n f args s md with
  | none => none
  | some (md', s') => evLeave P T gl call n fn t r s' md'
def evBody (P : Program) (T : Tab) (gl : Nat → Option AV) (call : FuncId → List AV → St → Option (End × St)) (n : Nat) (f : FuncId) (args : List AV) (s : St) : Option (End × St) := match P.funcs[f]? with
  | none => none
  | some fn => match fn.body with
   | none => none
   | some c => match evCode T call n c (TL.start gl args fn.ntmps) s with
    | some (.normal, t, s') | some (.ret, t, s') => evLeave P T gl call n fn t t.ds s' .ret
    | some (.panic v, t, s') => evLeave P T gl call n fn t t.ds s' (.pan v)
    | _ => none
inductive XF where
 | idxByte
 | lib (g : List AV → Option AV)
def idxL (c : Nat) : List UInt8 → Nat → Int
 | [], _ => -1
 | b :: r, i => bif Nat.beq b.toNat c then (i : Int) else idxL c r (i + 1)
def extA : XF → List AV → Option AV
 | .lib g, args => g args
 | .idxByte, [.str b, .int .u8 c] => if 0 ≤ c ∧ c < 256 then some (.int .i64 (idxL c.toNat b.data.toList 0)) else none
 | _, _ => none
structure Kn where
 tab : FuncId → Option Bool
 gl : Nat → Option AV := fun _ => none
 ext : FuncId → Option XF := fun _ => none
instance : CoeFun Kn (fun _ => FuncId → Option Bool) := ⟨Kn.tab⟩
def evX (P : Program) (T : Tab) (K : Kn) : Nat → FuncId → List AV → St → Option (End × St)
 | 0, _, _, _ => none
 | n + 1, f, args, s => bif Nat.ble yb f then evRound T (evX P T K n) n (f - yb) args s else match K.ext f with
  | some x => match extA x args with
   | some v => some (.ret v, s)
   | none => none
  | none => match K f, args with
   | some b, [] => some (.ret (.bool b), s)
   | _, _ => evBody P T K.gl (evX P T K n) n f args s
end

end
end Go.Ab
namespace Go.Ab
open Go.RowKit

abbrev Loc := Nat → Nat → Option (Nat × Nat × Nat)
def Loc.le (ρ ρ' : Loc) : Prop := ∀ g j x, ρ g j = some x → ρ' g j = some x
theorem Loc.le_refl (ρ : Loc) : ρ.le ρ := fun _ _ _ h => h
theorem Loc.le_trans {a b c : Loc} (h : a.le b) (k : b.le c) : a.le c := fun g j x hx => k g j x (h g j x hx)

inductive VR (w0 : World) (B0 : Nat) (ρ : Loc) : AV → Value → Prop
 | int (k : IntKind) (n : Int) : VR w0 B0 ρ (.int k n) (.int k n)
 | bool (b : Bool) : VR w0 B0 ρ (.bool b) (.bool b)
 | str (s : ByteArray) : VR w0 B0 ρ (.str s) (.string s)
 | nilp : VR w0 B0 ρ .nilp (.pointer none)
 | nils : VR w0 B0 ρ .nils (.slice none 0 0)
 | nilf : VR w0 B0 ρ .nilf .nilFunc
 | nili : VR w0 B0 ρ .nili .nilIface
 | ptr (g j off b st n : Nat) : ρ g j = some (b, st, n) → VR w0 B0 ρ (.ptr g j off) (.pointer (some ⟨b, st + off, none⟩))
 | slc (g j off sz len lo : Nat) (ex : Bool) (b st n c : Nat) (A : Addr) : ρ g j = some (b, st, n) → len ≤ lo → lo ≤ c → (ex = true → c = lo) → (c ≠ 0 → A = ⟨b, st + off, none⟩) →
   st + off + c * sz ≤ n → VR w0 B0 ρ (.slc g j off sz len lo ex) (.slice (some A) len c)
 | ro (nl : Bool) (xs : List AV) (A : Option Addr) (c : Nat) (f : Nat → Nat → Value) : xs.length ≤ c → (nl = true ↔ A = none) → (A = none → c = 0) →
   (∀ (a : Addr), A = some a → xs ≠ [] → a.spot = none ∧ a.block < B0) →
   (∀ (i : Nat) (x : AV), xs[i]? = some x → ∀ (k : Nat) (u : AV), x.cells[k]? = some u → ∀ a, A = some a → w0.cell? ⟨a.block, a.off + i * x.cells.length + k, none⟩ = some (f i k)) →
   (∀ (i : Nat) (x : AV), xs[i]? = some x → ∀ (k : Nat) (u : AV), x.cells[k]? = some u → VR w0 B0 ρ u (f i k)) → VR w0 B0 ρ (.ro nl xs) (.slice A xs.length c)
 | rop (cs : List AV) (a : Addr) (f : Nat → Value) : a.spot = none → a.block < B0 → (∀ (k : Nat) (u : AV), cs[k]? = some u → w0.cell? ⟨a.block, a.off + k, none⟩ = some (f k)) →
   (∀ (k : Nat) (u : AV), cs[k]? = some u → VR w0 B0 ρ u (f k)) → VR w0 B0 ρ (.rop cs) (.pointer (some a))
 | agg (cs : List AV) (arr : Array Value) : cs.length = arr.size → (∀ (i : Nat) (u : AV) (v : Value), cs[i]? = some u → arr[i]? = some v → VR w0 B0 ρ u v) → VR w0 B0 ρ (.agg cs) (.agg arr)
 | tup (cs : List AV) (arr : Array Value) : cs.length = arr.size → (∀ (i : Nat) (u : AV) (v : Value), cs[i]? = some u → arr[i]? = some v → VR w0 B0 ρ u v) → VR w0 B0 ρ (.tup cs) (.tuple arr)
 | fn (f : FuncId) (cs : List AV) (arr : Array Value) : f < yb → cs.length = arr.size → (∀ (i : Nat) (u : AV) (v : Value), cs[i]? = some u → arr[i]? = some v → VR w0 B0 ρ u v) → VR w0 B0 ρ (.fn f cs) (.func (.func f) #[] arr)
 | mv (f : FuncId) (cs : List AV) (arr : Array Value) : f < yb → cs.length = arr.size → (∀ (i : Nat) (u : AV) (v : Value), cs[i]? = some u → arr[i]? = some v → VR w0 B0 ρ u v) → VR w0 B0 ρ (.mv f cs) (.func (.func f) arr #[])
 | yld (g b n : Nat) : ρ g 0 = some (b, 0, n) → VR w0 B0 ρ (.fn (yb + g) []) (.func (.yield b) #[] #[])
 | iface (t : TypeId) (u : AV) (v : Value) : VR w0 B0 ρ u v → VR w0 B0 ρ (.iface t u) (.iface t v)
 | mp (g b n : Nat) : ρ g 0 = some (b, 0, n) → VR w0 B0 ρ (.mp g) (.map (some b))
 | nilm : VR w0 B0 ρ .nilm (.map none)
 | undef : VR w0 B0 ρ .undef undef
 | poison (v : Value) : v.oneCell' = true → VR w0 B0 ρ .poison v

section
variable {w0 : World} {B0 : Nat} {ρ ρ' : Loc}

theorem VR.mono (h : ρ.le ρ') {x : AV} {v : Value} (r : VR w0 B0 ρ x v) : VR w0 B0 ρ' x v := by
 induction r with
 | int k n => exact .int k n
 | bool b => exact .bool b
 | str s => exact .str s
 | nilp => exact .nilp
 | nils => exact .nils
 | nilf => exact .nilf
 | nili => exact .nili
 | ptr g j off b st n hρ => exact .ptr g j off b st n (h _ _ _ hρ)
 | slc g j off sz len lo ex b st n c A hρ h1 h2 h3 h4 h5 => exact .slc g j off sz len lo ex b st n c A (h _ _ _ hρ) h1 h2 h3 h4 h5
 | ro nl xs A c f h1 h2 h3 h4 h5 h6 ih => exact .ro nl xs A c f h1 h2 h3 h4 h5 ih
 | rop cs a f h1 h2 h3 h4 ih => exact .rop cs a f h1 h2 h3 ih
 | agg cs arr h1 h2 ih => exact .agg cs arr h1 ih
 | tup cs arr h1 h2 ih => exact .tup cs arr h1 ih
 | fn f cs arr h0 h1 h2 ih => exact .fn f cs arr h0 h1 ih
 | mv f cs arr h0 h1 h2 ih => exact .mv f cs arr h0 h1 ih
 | yld g b n hρ => exact .yld g b n (h _ _ _ hρ)
 | iface t u v h1 ih => exact .iface t u v ih
 | mp g b n hρ => exact .mp g b n (h _ _ _ hρ)
 | nilm => exact .nilm
 | undef => exact .undef
 | poison v h => exact .poison v h

theorem VR.leaf {x : AV} {v : Value} (r : VR w0 B0 ρ x v) (h : x.leaf = true) : v.oneCell' = true := by
 cases r <;> first | rfl | (simp [AV.leaf] at h; done) | assumption

def CR (w0 : World) (B0 : Nat) (ρ : Loc) (cs : List AV) (vs : List Value) : Prop := cs.length = vs.length ∧ ∀ (i : Nat) (u : AV) (v : Value), cs[i]? = some u → vs[i]? = some v → VR w0 B0 ρ u v
theorem CR.mono (h : ρ.le ρ') {cs : List AV} {vs : List Value} (r : CR w0 B0 ρ cs vs) : CR w0 B0 ρ' cs vs := ⟨r.1, fun i u v hu hv => (r.2 i u v hu hv).mono h⟩
theorem CR.nil : CR w0 B0 ρ [] [] := ⟨rfl, by simp⟩
theorem CR.cons {u : AV} {v : Value} {cs : List AV} {vs : List Value} (h : VR w0 B0 ρ u v) (r : CR w0 B0 ρ cs vs) : CR w0 B0 ρ (u :: cs) (v :: vs) := by
 refine ⟨by simp [r.1], fun i x y hx hy => ?_⟩
 cases i with
 | zero => simp at hx hy; subst hx hy; exact h
 | succ i => simp at hx hy; exact r.2 i x y hx hy
theorem CR.append {a b : List AV} {x y : List Value} (h : CR w0 B0 ρ a x) (k : CR w0 B0 ρ b y) : CR w0 B0 ρ (a ++ b) (x ++ y) := by
 refine ⟨by simp [h.1, k.1], fun i u v hu hv => ?_⟩
 by_cases hi : i < a.length
 ·rw [gal hi] at hu
  rw [gal (by have := h.1; omega)] at hv
  exact h.2 i u v hu hv
 ·rw [gar (by omega)] at hu
  rw [gar (by have := h.1; omega)] at hv
  rw [h.1] at hu
  exact k.2 _ u v hu hv
theorem CR.take {a : List AV} {x : List Value} (h : CR w0 B0 ρ a x) (n : Nat) : CR w0 B0 ρ (a.take n) (x.take n) := by
 refine ⟨by simp [h.1], fun i u v hu hv => ?_⟩
 rw [List.getElem?_take] at hu hv
 split at hu
 ·rw [if_pos (by assumption)] at hv; exact h.2 i u v hu hv
 ·cases hu
theorem CR.drop {a : List AV} {x : List Value} (h : CR w0 B0 ρ a x) (n : Nat) : CR w0 B0 ρ (a.drop n) (x.drop n) := by
 refine ⟨by simp [h.1], fun i u v hu hv => ?_⟩
 rw [List.getElem?_drop] at hu hv
 exact h.2 _ u v hu hv
theorem CR.over {a c : List AV} {x y : List Value} (h : CR w0 B0 ρ a x) (k : CR w0 B0 ρ c y) (off : Nat) : CR w0 B0 ρ (over a off c) (x.take off ++ y ++ x.drop (off + y.length)) := by
 unfold Ab.over
 rw [← k.1]
 exact ((h.take off).append k).append (h.drop _)
theorem CR.leaf {cs : List AV} {vs : List Value} (h : CR w0 B0 ρ cs vs) (hl : cs.all AV.leaf = true) : ∀ v ∈ vs, v.oneCell' = true := by
 intro v hv
 obtain ⟨i, hi⟩ := List.mem_iff_getElem?.1 hv
 have hlt : i < cs.length := by rw [h.1]; exact (ges.1 hi).1
 obtain ⟨u, hu⟩ : ∃ u, cs[i]? = some u := ⟨cs[i], by simp [hlt]⟩
 exact (h.2 i u v hu hi).leaf (aet.1 hl u (mog hu))

theorem VR.cells {x : AV} {v : Value} (r : VR w0 B0 ρ x v) : CR w0 B0 ρ x.cells v.cells.toList := by
 have one : ∀ {x : AV} {v : Value}, VR w0 B0 ρ x v → x.cells = [x] → v.cells = #[v] → CR w0 B0 ρ x.cells v.cells.toList := by
  intro x v r h1 h2
  rw [h1, h2]
  exact CR.cons r CR.nil
 cases r with
 | agg cs arr h1 h2 => exact ⟨by simpa [AV.cells, Value.cells] using h1, fun i u v hu hv => h2 i u v hu (by simpa [Value.cells] using hv)⟩
 | poison v h => exact one (.poison v h) rfl (by cases v <;> first | rfl | (simp [Value.oneCell'] at h))
 | undef => exact one .undef rfl rfl
 | int k n => exact one (.int k n) rfl rfl
 | bool b => exact one (.bool b) rfl rfl
 | str s => exact one (.str s) rfl rfl
 | nilp => exact one .nilp rfl rfl
 | nils => exact one .nils rfl rfl
 | nilf => exact one .nilf rfl rfl
 | nili => exact one .nili rfl rfl
 | ptr g j off b st n hρ => exact one (.ptr g j off b st n hρ) rfl rfl
 | slc g j off sz len lo ex b st n c A hρ h1 h2 h3 h4 h5 => exact one (.slc g j off sz len lo ex b st n c A hρ h1 h2 h3 h4 h5) rfl rfl
 | ro nl xs A c f h1 h2 h3 h4 h5 h6 => exact one (.ro nl xs A c f h1 h2 h3 h4 h5 h6) rfl rfl
 | rop cs a f h1 h2 h3 h4 => exact one (.rop cs a f h1 h2 h3 h4) rfl rfl
 | tup cs arr h1 h2 => exact one (.tup cs arr h1 h2) rfl rfl
 | fn f cs arr h0 h1 h2 => exact one (.fn f cs arr h0 h1 h2) rfl rfl
 | mv f cs arr h0 h1 h2 => exact one (.mv f cs arr h0 h1 h2) rfl rfl
 | yld g b n hρ => exact one (.yld g b n hρ) rfl rfl
 | iface t u v h => exact one (.iface t u v h) rfl rfl
 | mp g b n hρ => exact one (.mp g b n hρ) rfl rfl
 | nilm => exact one .nilm rfl rfl

theorem VR.ofVal {v : Value} {x : AV} (h : Ab.ofVal v = some x) : VR w0 B0 ρ x v := by
 unfold Ab.ofVal at h
 split at h <;> (try cases h) <;> constructor
end

section

def EntR (w0 : World) (B0 : Nat) (ρ : Loc) (es : List (AV × AV)) (ents : Array MapEntry) : Prop :=
 es.length = ents.size ∧ ∀ (i : Nat) (e : AV × AV) (x : MapEntry), es[i]? = some e → ents[i]? = some x → VR w0 B0 ρ e.1 x.key ∧ VR w0 B0 ρ e.2 x.val

structure TR (w0 : World) (B0 : Nat) (ρ : Loc) (t : TL) (tm : Array Value) : Prop where
 n : t.n = tm.size
 at_ : ∀ i v, tm[i]? = some v → VR w0 B0 ρ (t.get i) v
 out : ∀ i, tm.size ≤ i → t.get i = .undef
 gl : ∀ g v, t.gl g = some v → VR w0 B0 ρ v (.pointer (some ⟨g, 0, none⟩))

theorem TR.mono {w0 : World} {B0 : Nat} {ρ ρ' : Loc} {t : TL} {tm : Array Value} (h : ρ.le ρ') (r : TR w0 B0 ρ t tm) : TR w0 B0 ρ' t tm := ⟨r.n, fun i v hv => (r.at_ i v hv).mono h, r.out, fun g v hv => (r.gl g v hv).mono h⟩
inductive OwnR (w0 : World) (B0 : Nat) (ρ : Loc) : Own → Obj → Prop
 | loop (r : LRec) (x : Loop) (b n : Nat) : x.state = r.state → x.pending = r.pend → TR w0 B0 ρ r.t x.tmps → x.params = r.ps → x.assign = r.asg → x.body = r.body → ρ r.dg 0 = some (b, 0, n) → x.defers = b → OwnR w0 B0 ρ (.loop r) (.loop x)
 | dfr (q : Bool) : OwnR w0 B0 ρ (.dfr q) (.deferred (if q then some [] else none))
 | frz (xs : List AV) (c : Array Value) (e : TypeId) (fz : Nat × Nat) : fz ≠ (0, 0) → xs.length ≤ c.size → xs.all AV.leaf = true → (∀ (i : Nat) (u : AV) (v : Value), xs[i]? = some u → c[i]? = some v → VR w0 B0 ρ u v) → OwnR w0 B0 ρ (.frz xs) (.cells c e fz)
theorem OwnR.mono {w0 : World} {B0 : Nat} {ρ ρ' : Loc} {o : Own} {x : Obj} (h : ρ.le ρ') (r : OwnR w0 B0 ρ o x) : OwnR w0 B0 ρ' o x := by
 cases r with
 | loop r x b n h1 h2 h3 h4 h5 h6 h7 h8 => exact .loop r x b n h1 h2 (h3.mono h) h4 h5 h6 (h _ _ _ h7) h8
 | dfr q => exact .dfr q
 | frz xs c e fz h1 h2 h3 h4 => exact .frz xs c e fz h1 h2 h3 fun i u v hu hv => (h4 i u v hu hv).mono h
inductive VerR (w0 : World) (B0 : Nat) (ρ : Loc) (w : World) (V : Ver) (b st n : Nat) : Prop
 | arr (c : Array Value) (e : TypeId) : w.heap[b]? = some (.cells c e (0, 0)) → c.size = n → st + V.cells.length ≤ n → V.cells.all AV.leaf = true → (∀ i u v, V.cells[i]? = some u → c[st + i]? = some v → VR w0 B0 ρ u v) →
   V.mp = none → VerR w0 B0 ρ w V b st n
 | map (es : List (AV × AV)) (ents : Array MapEntry) (clock : Nat) : w.heap[b]? = some (.map ents clock) → EntR w0 B0 ρ es ents → V.mp = some (.mp es) → V.cells = [] → VerR w0 B0 ρ w V b st n
 | own (o : Own) (x : Obj) : st = 0 → w.heap[b]? = some x → OwnR w0 B0 ρ o x → V.mp = some o → V.cells = [] → VerR w0 B0 ρ w V b st n

structure Sim (w0 : World) (B0 : Nat) (ρ : Loc) (s : St) (w : World) : Prop where
 low : Below B0 w0 w
 big : B0 ≤ w.heap.size
 ver : ∀ g j b st n, ρ g j = some (b, st, n) → B0 ≤ b ∧ ∃ G V, s.get g = some G ∧ G.vers[j]? = some V ∧ VerR w0 B0 ρ w V b st n
 al : ∀ g j j' b st st' n n' G V V', ρ g j = some (b, st, n) → ρ g j' = some (b, st', n') → s.get g = some G → G.vers[j]? = some V → G.vers[j']? = some V' → st + V'.delta = st' + V.delta ∧ n = n'
 sep : ∀ g g' j j' b st st' n n', ρ g j = some (b, st, n) → ρ g' j' = some (b, st', n') → g = g'
 ctr : ∀ g j x, ρ g j = some x → g < s.ctr

theorem TR.getD {w0 : World} {B0 : Nat} {ρ : Loc} {t : TL} {tm : Array Value} (h : TR w0 B0 ρ t tm) (i : Nat) : VR w0 B0 ρ (t.get i) (tm.getD i Go.undef) := by
 by_cases hi : i < tm.size
 ·refine h.at_ i _ ?_
  simp [hi]
 ·rw [h.out i (by omega), Array.getD_eq_getD_getElem?, Array.getElem?_eq_none (by omega), Option.getD_none]
  exact .undef

theorem TR.congr {w0 : World} {B0 : Nat} {ρ : Loc} {t t' : TL} {tm : Array Value} (h : TR w0 B0 ρ t tm) (hn : t.n = t'.n) (hg : ∀ i, t.get i = t'.get i) (hl : t.gl = t'.gl) : TR w0 B0 ρ t' tm := ⟨hn ▸ h.n, fun i v hv => hg i ▸ h.at_ i v hv, fun i hi => hg i ▸ h.out i hi, fun g v hv => h.gl g v (by rw [hl]; exact hv)⟩

theorem TR.eval {w0 : World} {B0 : Nat} {ρ : Loc} {t : TL} {a : Act} (h : TR w0 B0 ρ t a.tmps) {x : Operand} {u : AV} (he : ev t x = some u) : VR w0 B0 ρ u (a.eval x) := by
 cases x with
 | tmp i =>
  simp only [ev, sjj] at he
  subst he
  exact h.getD i
 | const v => exact VR.ofVal he
 | global g => exact h.gl g _ he
 | func f =>
  simp only [ev] at he
  split at he
  ·rename_i hf
   simp only [sjj] at he
   subst he
   exact .fn f [] #[] hf rfl (by simp)
  ·cases he

theorem TR.evs {w0 : World} {B0 : Nat} {ρ : Loc} {t : TL} {a : Act} (h : TR w0 B0 ρ t a.tmps) : ∀ {l : List Operand} {us : List AV}, evs t l = some us → CR w0 B0 ρ us (l.map a.eval) := by
 intro l
 induction l with
 | nil => intro us he; simp only [Ab.evs, sjj] at he; subst he; exact CR.nil
 | cons x r ih =>
  intro us he
  simp only [Ab.evs] at he
  cases h1 : ev t x with
  | none => simp [h1] at he
  | some u =>
   cases h2 : Ab.evs t r with
   | none => simp [h1, h2] at he
   | some vs =>
    simp only [h1, h2, sjj] at he
    subst he
    exact CR.cons (h.eval h1) (ih h2)

theorem TR.put {w0 : World} {B0 : Nat} {ρ : Loc} {t : TL} {a : Act} (h : TR w0 B0 ρ t a.tmps) {u : AV} {v : Value} (r : VR w0 B0 ρ u v) (d : Option Tmp) : TR w0 B0 ρ (putA t d u) (a.put d v).tmps := by
 cases d with
 | none => exact h
 | some d =>
  simp only [putA, Act.put]
  refine ⟨by rw [TL.n_set, h.n, Array.size_setIfInBounds], fun i x hx => ?_, fun i hi => ?_, fun g x hx => h.gl g x (by rw [TL.gl_set] at hx; exact hx)⟩
  ·rw [TL.get_set]
   rw [Array.getElem?_setIfInBounds] at hx
   by_cases hd : d = i
   ·subst hd
    rw [if_pos rfl] at hx
    split at hx
    ·cases hx
     rw [if_pos ⟨rfl, by rw [h.n]; assumption⟩]
     exact r
    ·cases hx
   ·rw [if_neg hd] at hx
    rw [if_neg (fun e => hd e.1.symm)]
    exact h.at_ i x hx
  ·rw [Array.size_setIfInBounds] at hi
   rw [TL.get_set, if_neg (fun e => by have := h.n; omega)]
   exact h.out i hi
theorem putA_n (t : TL) (d : Option Tmp) (v : AV) : (putA t d v).n = t.n := by
 cases d with
 | none => rfl
 | some d => exact TL.n_set _ _ _

inductive DfR (w0 : World) (B0 : Nat) (ρ : Loc) : DefA → Deferred → Prop
 | col (g b n : Nat) : ρ g 0 = some (b, 0, n) → DfR w0 B0 ρ (.col g) { target := .collected b, args := #[] }
 | clo (f : FuncId) (args : List AV) (cap dargs : Array Value) : f < yb → CR w0 B0 ρ args (dargs ++ cap).toList → DfR w0 B0 ρ (.clo f args) { target := .fn (.func f) cap, args := dargs }
theorem DfR.mono {w0 : World} {B0 : Nat} {ρ ρ' : Loc} {d : DefA} {x : Deferred} (h : ρ.le ρ') (r : DfR w0 B0 ρ d x) : DfR w0 B0 ρ' d x := by
 cases r with
 | col g b n h1 => exact .col g b n (h _ _ _ h1)
 | clo f args cap dargs h0 h1 => exact .clo f args cap dargs h0 (h1.mono h)
def DsR (w0 : World) (B0 : Nat) (ρ : Loc) : List DefA → List Deferred → Prop
 | [], [] => True
 | d :: ds, x :: xs => DfR w0 B0 ρ d x ∧ DsR w0 B0 ρ ds xs
 | _, _ => False
theorem DsR.mono {w0 : World} {B0 : Nat} {ρ ρ' : Loc} (h : ρ.le ρ') : ∀ {ds : List DefA} {xs : List Deferred}, DsR w0 B0 ρ ds xs → DsR w0 B0 ρ' ds xs
 | [], [], _ => trivial
 | _ :: _, _ :: _, r => ⟨r.1.mono h, DsR.mono h r.2⟩
 | [], _ :: _, r => r.elim
 | _ :: _, [], r => r.elim
def RdR (ρ : Loc) : Option Nat → Option Nat → Prop
 | none, none => True
 | some g, some b => ∃ n, ρ g 0 = some (b, 0, n)
 | _, _ => False
theorem RdR.mono {ρ ρ' : Loc} (h : ρ.le ρ') {x y : Option Nat} (r : RdR ρ x y) : RdR ρ' x y := by
 cases x <;> cases y <;> first | exact r | exact r.imp fun _ k => h _ _ _ k
theorem putA_ds (t : TL) (d : Option Tmp) (v : AV) : (putA t d v).ds = t.ds := by
 cases d with
 | none => rfl
 | some d => exact TL.ds_set _ _ _
theorem putA_rd (t : TL) (d : Option Tmp) (v : AV) : (putA t d v).rd = t.rd := by
 cases d with
 | none => rfl
 | some d => exact TL.rd_set _ _ _
end
end Go.Ab
namespace Go.Ab
open Go.RowKit
section
variable {w0 : World} {B0 : Nat} {ρ : Loc} {s s' : St} {w : World}

theorem St.get_newG_eq (s : St) (G : Grp) : (s.newG G).get s.ctr = some G := by simp [St.get, St.newG, Tr.get_set]
theorem St.get_newG_ne (s : St) (G : Grp) {k : Nat} (h : k ≠ s.ctr) : (s.newG G).get k = s.get k := by simp [St.get, St.newG, Tr.get_set, h]
theorem St.get_setG_eq (s : St) (g : Nat) (G : Grp) : (s.setG g G).get g = some G := by simp [St.get, St.setG, Tr.get_set]
theorem St.get_setG_ne (s : St) (g : Nat) (G : Grp) {k : Nat} (h : k ≠ g) : (s.setG g G).get k = s.get k := by simp [St.get, St.setG, Tr.get_set, h]

theorem EntR.mono {ρ ρ' : Loc} (hle : ρ.le ρ') {es : List (AV × AV)} {ents : Array MapEntry} (h : EntR w0 B0 ρ es ents) : EntR w0 B0 ρ' es ents :=
 ⟨h.1, fun i e x he hx => ⟨(h.2 i e x he hx).1.mono hle, (h.2 i e x he hx).2.mono hle⟩⟩
theorem VerR.mono {ρ' : Loc} {w' : World} {V : Ver} {b st n : Nat} (h : VerR w0 B0 ρ w V b st n) (hle : ρ.le ρ') (hb : w'.heap[b]? = w.heap[b]?) : VerR w0 B0 ρ' w' V b st n := by
 cases h with
 | arr c e h1 h2 h3 hlf h4 hm => exact .arr c e (by rw [hb]; exact h1) h2 h3 hlf (fun i u v hu hv => (h4 i u v hu hv).mono hle) hm
 | map es ents clock h1 h2 hm hc => exact .map es ents clock (by rw [hb]; exact h1) (h2.mono hle) hm hc
 | own o x h0 h1 h2 hm hc => exact .own o x h0 (by rw [hb]; exact h1) (h2.mono hle) hm hc
theorem VerR.cells {V : Ver} {b st n : Nat} {cur : Array Value} {e : TypeId} (h : VerR w0 B0 ρ w V b st n) (hb : w.heap[b]? = some (.cells cur e (0, 0))) :
  cur.size = n ∧ st + V.cells.length ≤ n ∧ V.cells.all AV.leaf = true ∧ (∀ i u v, V.cells[i]? = some u → cur[st + i]? = some v → VR w0 B0 ρ u v) ∧ V.mp = none := by
 cases h with
 | arr c e h1 h2 h3 hlf h4 hm =>
  rw [hb] at h1
  cases h1
  exact ⟨h2, h3, hlf, h4, hm⟩
 | map es ents clock h1 h2 hm hc =>
  rw [hb] at h1
  cases h1
 | own o x h0 h1 h2 hm hc =>
  rw [hb] at h1
  cases h1
  cases h2 with
  | frz xs c e fz h1 => exact (h1 rfl).elim
theorem VerR.lt {V : Ver} {b st n : Nat} (h : VerR w0 B0 ρ w V b st n) : b < w.heap.size := by
 cases h with
 | arr c e h1 => exact (Array.getElem?_eq_some_iff.1 h1).1
 | map es ents clock h1 => exact (Array.getElem?_eq_some_iff.1 h1).1
 | own o x h0 h1 => exact (Array.getElem?_eq_some_iff.1 h1).1

theorem Sim.wr (h : Sim w0 B0 ρ s w) (l : List Nat) : Sim w0 B0 ρ { s with wr := l } w := ⟨h.low, h.big, h.ver, h.al, h.sep, h.ctr⟩
theorem Sim.drew (h : Sim w0 B0 ρ s w) : Sim w0 B0 ρ s w.drew := ⟨h.low.drew, h.big, fun g j b st n hρ => by
  obtain ⟨h1, G, V, h2, h3, h4⟩ := h.ver g j b st n hρ
  exact ⟨h1, G, V, h2, h3, h4.mono (Loc.le_refl _) rfl⟩, h.al, h.sep, h.ctr⟩

def CellsAt (w : World) (a : Addr) (vs : List Value) : Prop := ∀ j v, vs[j]? = some v → w.cell? (a.add j) = some v

theorem add_eq (b o j : Nat) : (⟨b, o, none⟩ : Addr).add j = ⟨b, o + j, none⟩ := by unfold Addr.add; split <;> simp_all

theorem cells_of_block {c : Array Value} {e : TypeId} {fz : Nat × Nat} {b : Nat} (hb : w.heap[b]? = some (.cells c e fz)) (o : Nat) : w.cell? ⟨b, o, none⟩ = c[o]? := by simp [World.cell?, hb]

theorem Grp.read_spec {G : Grp} {j off n : Nat} {cs : List AV} (h : G.read j off n = some cs) : ∃ V, G.vers[j]? = some V ∧ (V.mp = none ∧ off + n ≤ V.cells.length) ∧ cs = (V.cells.drop off).take n := by
 unfold Grp.read at h
 cases hv : G.vers[j]? with
 | none => simp [hv] at h
 | some V =>
  simp only [hv] at h
  split at h
  ·rename_i hc
   simp only [sjj] at h
   exact ⟨V, rfl, ⟨by simpa using hc.1, hc.2⟩, h.symm⟩
  ·cases h

theorem VerR.read {V : Ver} {b st n off m : Nat} (h : VerR w0 B0 ρ w V b st n) (hm : off + m ≤ V.cells.length) :
  ∃ vs : List Value, vs.length = m ∧ CR w0 B0 ρ ((V.cells.drop off).take m) vs ∧ CellsAt w ⟨b, st + off, none⟩ vs := by
 cases h with
 | map es ents clock h1 h2 hm' hc =>
  rw [hc] at hm ⊢
  simp only [lnn] at hm
  obtain rfl : m = 0 := by omega
  exact ⟨[], rfl, by simpa using CR.nil, fun j v hj => by simp at hj⟩
 | own o x h0 h1 h2 hm' hc =>
  rw [hc] at hm ⊢
  simp only [lnn] at hm
  obtain rfl : m = 0 := by omega
  exact ⟨[], rfl, by simpa using CR.nil, fun j v hj => by simp at hj⟩
 | arr c e hb hc hle _ hv _ =>
  refine ⟨(c.toList.drop (st + off)).take m, by simp; omega, ⟨by simp; omega, fun i u v hu hv' => ?_⟩, fun i v hv' => ?_⟩
  ·rw [List.getElem?_take] at hu hv'
   split at hu
   ·rw [if_pos (by assumption), List.getElem?_drop] at hv'
    rw [List.getElem?_drop] at hu
    refine hv (off + i) u v hu ?_
    rw [← Array.getElem?_toList, ← Nat.add_assoc]
    exact hv'
   ·cases hu
  ·rw [List.getElem?_take] at hv'
   split at hv'
   ·rw [List.getElem?_drop] at hv'
    rw [add_eq, cells_of_block hb, ← Array.getElem?_toList]
    exact hv'
   ·cases hv'
theorem Sim.read (h : Sim w0 B0 ρ s w) {g j off m b st n : Nat} {cs : List AV} (hρ : ρ g j = some (b, st, n)) (hr : s.read g j off m = some cs) :
  ∃ vs : List Value, vs.length = m ∧ CR w0 B0 ρ cs vs ∧ CellsAt w ⟨b, st + off, none⟩ vs := by
 obtain ⟨_, G, V, hG, hV, hvr⟩ := h.ver g j b st n hρ
 unfold St.read at hr
 simp only [hG] at hr
 obtain ⟨V', hV', ⟨_, hle⟩, rfl⟩ := Grp.read_spec hr
 rw [hV] at hV'
 cases hV'
 exact hvr.read hle

def Loc.put (ρ : Loc) (g j : Nat) (x : Nat × Nat × Nat) : Loc := fun g' j' => if g' = g ∧ j' = j then some x else ρ g' j'
theorem Loc.put_le {ρ : Loc} {g j : Nat} {x : Nat × Nat × Nat} (h : ρ g j = none) : ρ.le (ρ.put g j x) := by
 intro g' j' y hy
 unfold Loc.put
 split
 ·rename_i h'
  rw [h'.1, h'.2, h] at hy
  cases hy
 ·exact hy
theorem Loc.put_eq {ρ : Loc} {g j : Nat} {x : Nat × Nat × Nat} : ρ.put g j x g j = some x := by simp [Loc.put]
theorem Loc.put_inv {ρ : Loc} {g j g' j' : Nat} {x y : Nat × Nat × Nat} (h : ρ.put g j x g' j' = some y) : (g' = g ∧ j' = j ∧ y = x) ∨ ρ g' j' = some y := by
 unfold Loc.put at h
 split at h
 ·cases h; rename_i h'; exact .inl ⟨h'.1, h'.2, rfl⟩
 ·exact .inr h

def Loc.lex (c : Nat) (ρ ρ' : Loc) : Prop := ρ.le ρ' ∧ ∀ g, g < c → (∀ j, ρ g j = none) → ∀ j, ρ' g j = none
theorem Loc.lex_refl (c : Nat) (ρ : Loc) : ρ.lex c ρ := ⟨Loc.le_refl _, fun _ _ h => h⟩
theorem Loc.lex_trans {c c' : Nat} {x y z : Loc} (h : x.lex c y) (k : y.lex c' z) (hc : c ≤ c') : x.lex c z := ⟨Loc.le_trans h.1 k.1, fun g hg hn => k.2 g (by omega) (h.2 g hg hn)⟩
theorem Loc.put_lex {ρ : Loc} {g j : Nat} {x : Nat × Nat × Nat} {c : Nat} (h : ρ g j = none) (hg : c ≤ g ∨ ∃ j' y, ρ g j' = some y) : ρ.lex c (ρ.put g j x) := by
 refine ⟨Loc.put_le h, fun g' hg' hn j' => ?_⟩
 unfold Loc.put
 split
 ·rename_i h'
  obtain ⟨rfl, rfl⟩ := h'
  rcases hg with hg | ⟨j2, y, hg⟩
  ·omega
  ·rw [hn] at hg; cases hg
 ·exact hn j'

theorem Sim.blk_lt (h : Sim w0 B0 ρ s w) {g j b st n : Nat} (hρ : ρ g j = some (b, st, n)) : b < w.heap.size := by
 obtain ⟨_, G, V, hG, hV, hr⟩ := h.ver g j b st n hρ
 exact hr.lt

theorem Sim.lay (h : Sim w0 B0 ρ s w) {g : Nat} {cs : List AV} {arr : Array Value} (e : TypeId) (hg : g < s.ctr) (hρ : ∀ j, ρ g j = none) (hG : s.get g = some ⟨[⟨cs, 0, none⟩]⟩)
  (hn : cs.length ≤ arr.size) (hlf : cs.all AV.leaf = true) (hc : ∀ (i : Nat) (u : AV) (v : Value), cs[i]? = some u → arr[i]? = some v → VR w0 B0 ρ u v) :
  ρ.le (ρ.put g 0 (w.heap.size, 0, arr.size)) ∧ Sim w0 B0 (ρ.put g 0 (w.heap.size, 0, arr.size)) s (w.alloc (.cells arr e)) := by
 have hle : ρ.le (ρ.put g 0 (w.heap.size, 0, arr.size)) := Loc.put_le (hρ 0)
 refine ⟨hle, ⟨h.low.alloc h.big _, by have := h.big; show B0 ≤ (w.heap.push _).size; rw [Array.size_push]; omega, ?_, ?_, ?_, ?_⟩⟩
 ·intro g' j' b st n hp
  rcases Loc.put_inv hp with ⟨rfl, rfl, hx⟩ | hp
  ·cases hx
   refine ⟨h.big, _, _, hG, rfl, VerR.arr arr e (heap_alloc_new _ _) rfl (by simpa using hn) hlf (fun i u v hu hv => ?_) rfl⟩
   simp only [Nat.zero_add] at hv
   exact (hc i u v hu hv).mono hle
  ·obtain ⟨h1, G, V, h2, h3, h4⟩ := h.ver g' j' b st n hp
   exact ⟨h1, G, V, h2, h3, h4.mono hle (Below.heap_alloc _ _ _ (h.blk_lt hp))⟩
 ·intro g1 j1 j2 b st st' n n' G V V' h1 h2 h3 h4 h5
  rcases Loc.put_inv h1 with ⟨rfl, rfl, hx⟩ | h1' <;> rcases Loc.put_inv h2 with ⟨h2a, rfl, hy⟩ | h2'
  ·cases hx; cases hy
   rw [h4] at h5; cases h5
   exact ⟨rfl, rfl⟩
  ·rw [hρ] at h2'; cases h2'
  ·subst h2a; rw [hρ] at h1'; cases h1'
  ·exact h.al _ _ _ _ _ _ _ _ _ _ _ h1' h2' h3 h4 h5
 ·intro g1 g2 j1 j2 b st st' n n' h1 h2
  rcases Loc.put_inv h1 with ⟨rfl, rfl, hx⟩ | h1' <;> rcases Loc.put_inv h2 with ⟨rfl, rfl, hy⟩ | h2'
  ·rfl
  ·cases hx; exact absurd (h.blk_lt h2') (by omega)
  ·cases hy; exact absurd (h.blk_lt h1') (by omega)
  ·exact h.sep _ _ _ _ _ _ _ _ _ h1' h2'
 ·intro g' j' x hp
  rcases Loc.put_inv hp with ⟨rfl, _, _⟩ | hp
  ·exact hg
  ·exact h.ctr _ _ _ hp

theorem Sim.layG (h : Sim w0 B0 ρ s w) {g : Nat} {V : Ver} {x : Obj} {n0 : Nat} (hg : g < s.ctr) (hρ : ∀ j, ρ g j = none) (hG : s.get g = some ⟨[V]⟩)
  (hv : ∀ (ρ' : Loc) (w' : World) (b : Nat), ρ.le ρ' → w'.heap[b]? = some x → VerR w0 B0 ρ' w' V b 0 n0) :
  ρ.le (ρ.put g 0 (w.heap.size, 0, n0)) ∧ Sim w0 B0 (ρ.put g 0 (w.heap.size, 0, n0)) s (w.alloc x) := by
 have hle : ρ.le (ρ.put g 0 (w.heap.size, 0, n0)) := Loc.put_le (hρ 0)
 refine ⟨hle, ⟨h.low.alloc h.big _, by have := h.big; show B0 ≤ (w.heap.push _).size; rw [Array.size_push]; omega, ?_, ?_, ?_, ?_⟩⟩
 ·intro g' j' b st n hp
  rcases Loc.put_inv hp with ⟨rfl, rfl, hx⟩ | hp
  ·cases hx
   exact ⟨h.big, _, _, hG, rfl, hv _ _ _ hle (heap_alloc_new _ _)⟩
  ·obtain ⟨h1, G, V, h2, h3, h4⟩ := h.ver g' j' b st n hp
   exact ⟨h1, G, V, h2, h3, h4.mono hle (Below.heap_alloc _ _ _ (h.blk_lt hp))⟩
 ·intro g1 j1 j2 b st st' n n' G V V' h1 h2 h3 h4 h5
  rcases Loc.put_inv h1 with ⟨rfl, rfl, hx⟩ | h1' <;> rcases Loc.put_inv h2 with ⟨h2a, rfl, hy⟩ | h2'
  ·cases hx; cases hy
   rw [h4] at h5; cases h5
   exact ⟨rfl, rfl⟩
  ·rw [hρ] at h2'; cases h2'
  ·subst h2a; rw [hρ] at h1'; cases h1'
  ·exact h.al _ _ _ _ _ _ _ _ _ _ _ h1' h2' h3 h4 h5
 ·intro g1 g2 j1 j2 b st st' n n' h1 h2
  rcases Loc.put_inv h1 with ⟨rfl, rfl, hx⟩ | h1' <;> rcases Loc.put_inv h2 with ⟨rfl, rfl, hy⟩ | h2'
  ·rfl
  ·cases hx; exact absurd (h.blk_lt h2') (by omega)
  ·cases hy; exact absurd (h.blk_lt h1') (by omega)
  ·exact h.sep _ _ _ _ _ _ _ _ _ h1' h2'
 ·intro g' j' x hp
  rcases Loc.put_inv hp with ⟨rfl, _, _⟩ | hp
  ·exact hg
  ·exact h.ctr _ _ _ hp

theorem getElem?_over {l cs : List AV} {off i : Nat} (h : off + cs.length ≤ l.length) : (over l off cs)[i]? = if off ≤ i ∧ i < off + cs.length then cs[i - off]? else l[i]? := by
 unfold over
 by_cases h1 : i < off
 ·rw [if_neg (by omega), aas, gal (by simp; omega), List.getElem?_take, if_pos h1]
 ·by_cases h2 : i < off + cs.length
  ·rw [if_pos (by omega), aas, gar (by simp; omega), gal (by simp; omega)]
   simp only [List.length_take]
   rw [Nat.min_eq_left (by omega)]
  ·rw [if_neg (by omega), gar (by simp; omega)]
   simp only [laa, List.length_take, List.getElem?_drop]
   rw [Nat.min_eq_left (by omega)]
   congr 1
   omega
theorem length_over {l cs : List AV} {off : Nat} (h : off + cs.length ≤ l.length) : (over l off cs).length = l.length := by
 unfold over
 simp
 omega
theorem getElem?_row {l cs : List Value} {off i : Nat} (h : off + cs.length ≤ l.length) : (l.take off ++ cs ++ l.drop (off + cs.length))[i]? = if off ≤ i ∧ i < off + cs.length then cs[i - off]? else l[i]? := by
 by_cases h1 : i < off
 ·rw [if_neg (by omega), aas, gal (by simp; omega), List.getElem?_take, if_pos h1]
 ·by_cases h2 : i < off + cs.length
  ·rw [if_pos (by omega), aas, gar (by simp; omega), gal (by simp; omega)]
   simp only [List.length_take]
   rw [Nat.min_eq_left (by omega)]
  ·rw [if_neg (by omega), gar (by simp; omega)]
   simp only [laa, List.length_take, List.getElem?_drop]
   rw [Nat.min_eq_left (by omega)]
   congr 1
   omega
theorem length_poke (V : Ver) (a n : Nat) : (V.poke a n).cells.length = V.cells.length := by simp [Ver.poke]
theorem getElem?_poke (V : Ver) (a n i : Nat) : (V.poke a n).cells[i]? = (V.cells[i]?).map fun c => if a ≤ V.delta + i ∧ V.delta + i < a + n then .poison else c := by
 simp [Ver.poke, List.getElem?_mapIdx]

theorem all_over {l cs : List AV} {off : Nat} (h : cs.all AV.leaf = true) (k : l.all AV.leaf = true) : (over l off cs).all AV.leaf = true := by
 unfold over
 simp only [List.all_append, Bool.and_eq_true, aet] at h k ⊢
 exact ⟨⟨fun x hx => k x (List.mem_of_mem_take hx), h⟩, fun x hx => k x (List.mem_of_mem_drop hx)⟩
theorem all_poke {V : Ver} {a n : Nat} (k : V.cells.all AV.leaf = true) : (V.poke a n).cells.all AV.leaf = true := by
 simp only [Ver.poke, aet] at k ⊢
 intro x hx
 obtain ⟨i, h, rfl⟩ := List.mem_mapIdx.1 hx
 split
 ·rfl
 ·exact k _ (List.getElem_mem _)
theorem Grp.write_spec {G G' : Grp} {j off : Nat} {cs : List AV} (h : G.write j off cs = some G') : ∃ V, G.vers[j]? = some V ∧ (V.mp.isNone = true ∧ off + cs.length ≤ V.cells.length) ∧
  G'.vers.length = G.vers.length ∧ G'.vers[j]? = some { V with cells := over V.cells off cs } ∧ ∀ k U, k ≠ j → G.vers[k]? = some U → G'.vers[k]? = some (U.poke (V.delta + off) cs.length) := by
 unfold Grp.write at h
 cases hv : G.vers[j]? with
 | none => simp [hv] at h
 | some V =>
  simp only [hv] at h
  split at h
  ·simp only [sjj] at h
   subst h
   refine ⟨V, rfl, by assumption, by simp, by simp [List.getElem?_mapIdx, hv], fun k U hk hU => by simp [List.getElem?_mapIdx, hU, hk]⟩
  ·cases h
theorem St.write_spec {g j off : Nat} {cs : List AV} (h : s.write g j off cs = some s') : ∃ G G', s.get g = some G ∧ G.write j off cs = some G' ∧ s' = s.setG g G' ∧ cs.all AV.leaf = true := by
 unfold St.write at h
 split at h
 ·cases hg : s.get g with
  | none => simp [hg] at h
  | some G =>
   simp only [hg] at h
   cases hw : G.write j off cs with
   | none => simp [hw] at h
   | some G' =>
    simp only [hw, sjj] at h
    exact ⟨G, G', rfl, hw, h.symm, by assumption⟩
 ·cases h

theorem Sim.row (h : Sim w0 B0 ρ s w) {g j off b st n : Nat} {cs : List AV} (hρ : ρ g j = some (b, st, n)) (hw : s.write g j off cs = some s') : ∃ cur e, w.heap[b]? = some (.cells cur e (0, 0)) := by
 obtain ⟨G, G', hG, hGw, _, _⟩ := St.write_spec hw
 obtain ⟨_, G1, V, hG1, hV, hvr⟩ := h.ver g j b st n hρ
 rw [hG] at hG1
 cases hG1
 obtain ⟨V1, hV1, ⟨hm, _⟩, _⟩ := Grp.write_spec hGw
 rw [hV] at hV1
 cases hV1
 cases hvr with
 | arr c e h1 => exact ⟨c, e, h1⟩
 | map es ents clock h1 h2 h3 => rw [h3] at hm; cases hm
 | own o x h0 h1 h2 h3 => rw [h3] at hm; cases hm
theorem Sim.readF (h : Sim w0 B0 ρ s w) {g j off b st n m : Nat} {cs : List AV} (hρ : ρ g j = some (b, st, n)) (hr : s.readF g j off m = some cs) : ∃ vs : List Value, vs.length = m ∧ CR w0 B0 ρ cs vs ∧ CellsAt w ⟨b, st + off, none⟩ vs := by
 unfold St.readF at hr
 split at hr
 ·rename_i V hG
  split at hr
  ·rename_i xs hmp
   split at hr
   ·rename_i hc
    obtain ⟨rfl, hle⟩ := hc
    simp only [sjj] at hr
    subst hr
    obtain ⟨_, G, V', q2, q3, q4⟩ := h.ver g 0 b st n hρ
    rw [hG] at q2
    cases q2
    simp at q3
    subst q3
    cases q4 with
    | arr c e h1 h2 h3 h4 h5 h6 => rw [h6] at hmp; cases hmp
    | map es ents clock h1 h2 h3 h4 => rw [h3] at hmp; cases hmp
    | own o x hst h1 h2 h3 h4 =>
     rw [h3] at hmp
     cases hmp
     cases h2 with
     | frz _ c e fz k1 k2 k3 k4 =>
     subst hst
     refine ⟨(c.toList.drop off).take m, by simp; omega, ⟨by simp; omega, fun i u v hu hv' => ?_⟩, fun i v hv' => ?_⟩
     ·rw [List.getElem?_take] at hu hv'
      split at hu
      ·rw [if_pos (by assumption), List.getElem?_drop] at hv'
       rw [List.getElem?_drop] at hu
       exact k4 (off + i) u v hu (by rw [← Array.getElem?_toList]; exact hv')
      ·cases hu
     ·rw [List.getElem?_take] at hv'
      split at hv'
      ·rw [List.getElem?_drop] at hv'
       rw [add_eq, cells_of_block h1, Nat.zero_add, ← Array.getElem?_toList]
       exact hv'
      ·cases hv'
   ·cases hr
  ·cases hr
 ·cases hr
theorem Sim.readL (h : Sim w0 B0 ρ s w) {g j off b st n m : Nat} {cs : List AV} (hρ : ρ g j = some (b, st, n)) (hr : s.readL g j off m = some cs) : ∃ vs : List Value, vs.length = m ∧ CR w0 B0 ρ cs vs ∧ CellsAt w ⟨b, st + off, none⟩ vs := by
 unfold St.readL at hr
 split at hr
 ·rename_i hr'
  cases hr
  exact h.read hρ hr'
 ·exact h.readF hρ hr
theorem VerR.row {V : Ver} {b st n : Nat} (h : VerR w0 B0 ρ w V b st n) (hm : V.mp = none) : ∃ cur e, w.heap[b]? = some (.cells cur e (0, 0)) := by
 cases h with
 | arr c e h1 => exact ⟨c, e, h1⟩
 | map es ents clock h1 h2 h3 => rw [h3] at hm; cases hm
 | own o x h0 h1 h2 h3 => rw [h3] at hm; cases hm

theorem VerR.write {V : Ver} {b st n off : Nat} {cs : List AV} {vs : List Value} {cur : Array Value} {e : TypeId} (h : VerR w0 B0 ρ w V b st n) (hb : w.heap[b]? = some (.cells cur e (0, 0)))
  (hle : off + cs.length ≤ V.cells.length) (hc : CR w0 B0 ρ cs vs) (hcl : cs.all AV.leaf = true) :
  VerR w0 B0 ρ (w.setRow b (cur.toList.take (st + off) ++ vs ++ cur.toList.drop (st + off + vs.length)).toArray) { V with cells := over V.cells off cs } b st n := by
 obtain ⟨h2, h3, hlf, h4, hm⟩ := h.cells hb
 refine .arr _ e (setRow_heap w b cur _ e _ hb) ?_ (by rw [length_over hle]; exact h3) (all_over hcl hlf) (fun i u v hu hv => ?_) hm
 ·have := hc.1
  simp
  omega
 ·rw [getElem?_over hle] at hu
  have hr := getElem?_row (l := cur.toList) (cs := vs) (off := st + off) (i := st + i) (by have := hc.1; simp; omega)
  rw [List.getElem?_toArray, hr] at hv
  by_cases hin : off ≤ i ∧ i < off + cs.length
  ·rw [if_pos hin] at hu
   rw [if_pos (by have := hc.1; omega)] at hv
   rw [show st + i - (st + off) = i - off by omega] at hv
   exact hc.2 _ u v hu hv
  ·rw [if_neg hin] at hu
   rw [if_neg (by have := hc.1; omega)] at hv
   exact h4 i u v hu (by simpa using hv)
theorem VerR.poke {V U : Ver} {b st b' st' n' off : Nat} {vs : List Value} {cur : Array Value} {e : TypeId} {m : Nat} (h : VerR w0 B0 ρ w U b' st' n') (hb : w.heap[b]? = some (.cells cur e (0, 0)))
  (hm : m = vs.length) (hfit : st + off + vs.length ≤ cur.size) (hone : ∀ v ∈ vs, v.oneCell' = true) (hal : b = b' → st + U.delta = st' + V.delta) :
  VerR w0 B0 ρ (w.setRow b (cur.toList.take (st + off) ++ vs ++ cur.toList.drop (st + off + vs.length)).toArray) (U.poke (V.delta + off) m) b' st' n' := by
 subst hm
 by_cases hbb : b = b'
 ·subst hbb
  have hal := hal rfl
  obtain ⟨h2, h3, hlf, h4, hmp⟩ := h.cells hb
  refine .arr _ e (setRow_heap w b cur _ e _ hb) (by simp; omega) (by rw [length_poke]; exact h3) (all_poke hlf) (fun i u v hu hv => ?_) hmp
  rw [getElem?_poke] at hu
  have hr := getElem?_row (l := cur.toList) (cs := vs) (off := st + off) (i := st' + i) (by simp; omega)
  rw [List.getElem?_toArray, hr] at hv
  cases hU : U.cells[i]? with
  | none => simp [hU] at hu
  | some u0 =>
   simp only [hU, Option.map_some, sjj] at hu
   by_cases hin : V.delta + off ≤ U.delta + i ∧ U.delta + i < V.delta + off + vs.length
   ·rw [if_pos hin] at hu
    rw [if_pos (by omega)] at hv
    subst hu
    exact .poison v (hone v (mog hv))
   ·rw [if_neg hin] at hu
    rw [if_neg (by omega)] at hv
    subst hu
    exact h4 i u0 v hU (by simpa using hv)
 ·cases h with
  | map es ents clock h1 h2 hmp hc => exact .map es ents clock (by rw [setRow_other w b b' _ (fun h => hbb h.symm)]; exact h1) h2 hmp (by simp [Ver.poke, hc])
  | own o x h0 h1 h2 hmp hc => exact .own o x h0 (by rw [setRow_other w b b' _ (fun h => hbb h.symm)]; exact h1) h2 hmp (by simp [Ver.poke, hc])
  | arr c e' h1 h2 h3 hlf h4 hmp =>
  refine .arr c e' (by rw [setRow_other w b b' _ (fun h => hbb h.symm)]; exact h1) h2 (by rw [length_poke]; exact h3) (all_poke hlf) (fun i u v hu hv => ?_) hmp
  rw [getElem?_poke] at hu
  cases hU : U.cells[i]? with
  | none => simp [hU] at hu
  | some u0 =>
   simp only [hU, Option.map_some, sjj] at hu
   have hh := h4 i u0 v hU hv
   split at hu
   ·subst hu
    exact .poison v (hh.leaf (aet.1 hlf _ (mog hU)))
   ·subst hu; exact hh

theorem Below.setRow' {B : Nat} {a w : World} (h : Below B a w) {b : Nat} (hb : B ≤ b) (cs : Array Value) : Below B a (w.setRow b cs) :=
 h.trans ⟨rfl, rfl, rfl, by simp, fun k hk => setRow_other w b k cs (by omega)⟩

theorem Sim.write (h : Sim w0 B0 ρ s w) {g j off b st n : Nat} {cs : List AV} {vs : List Value} {cur : Array Value} {e : TypeId} (hρ : ρ g j = some (b, st, n)) (hw : s.write g j off cs = some s')
  (hc : CR w0 B0 ρ cs vs) (hb : w.heap[b]? = some (.cells cur e (0, 0))) :
  st + off + vs.length ≤ cur.size ∧ Sim w0 B0 ρ s' (w.setRow b (cur.toList.take (st + off) ++ vs ++ cur.toList.drop (st + off + vs.length)).toArray) := by
 obtain ⟨G, G', hG, hGw, rfl, hlf⟩ := St.write_spec hw
 obtain ⟨hB, G1, V, hG1, hV, hvr⟩ := h.ver g j b st n hρ
 rw [hG] at hG1
 cases hG1
 obtain ⟨V1, hV1, ⟨_, hle⟩, hlen, hj, hk⟩ := Grp.write_spec hGw
 rw [hV] at hV1
 cases hV1
 have hfit : st + off + vs.length ≤ cur.size := by
  obtain ⟨h2, h3, _⟩ := hvr.cells hb
  have := hc.1
  omega
 refine ⟨hfit, ⟨Below.setRow' h.low hB _, by simpa using h.big, ?_, ?_, h.sep, h.ctr⟩⟩
 ·intro g' j' b' st' n' hρ'
  obtain ⟨hB', G2, V2, hG2, hV2, hvr2⟩ := h.ver g' j' b' st' n' hρ'
  refine ⟨hB', ?_⟩
  by_cases hg : g' = g
  ·subst hg
   rw [hG] at hG2
   cases hG2
   by_cases hjj : j' = j
   ·subst hjj
    rw [hρ] at hρ'
    cases hρ'
    rw [hV] at hV2
    cases hV2
    exact ⟨G', _, St.get_setG_eq _ _ _, hj, hvr2.write hb hle hc hlf⟩
   ·refine ⟨G', _, St.get_setG_eq _ _ _, hk j' V2 hjj hV2, ?_⟩
    exact hvr2.poke hb hc.1 hfit (hc.leaf hlf) (fun hbb => by
      subst hbb
      exact (h.al _ _ _ _ _ _ _ _ _ _ _ hρ hρ' hG hV hV2).1)
  ·refine ⟨G2, V2, by rw [St.get_setG_ne _ _ _ hg]; exact hG2, hV2, hvr2.mono (Loc.le_refl _) (setRow_other w b b' _ (fun hbb => ?_))⟩
   subst hbb
   exact hg (h.sep _ _ _ _ _ _ _ _ _ hρ' hρ)
 ·intro g1 j1 j2 b1 st1 st2 n1 n2 G3 U1 U2 h1 h2 h3 h4 h5
  by_cases hg : g1 = g
  ·subst hg
   rw [St.get_setG_eq] at h3
   cases h3
   -- deltas are as they were
   have hd : ∀ (k : Nat) (U : Ver), G'.vers[k]? = some U → ∃ U0 : Ver, G.vers[k]? = some U0 ∧ U0.delta = U.delta := by
    intro k U hU
    by_cases hkj : k = j
    ·subst hkj
     rw [hj] at hU
     cases hU
     exact ⟨V, hV, rfl⟩
    ·have hkl : k < G.vers.length := by rw [← hlen]; exact (ges.1 hU).1
     have := hk k G.vers[k] hkj (by simp [hkl])
     rw [hU] at this
     cases this
     exact ⟨G.vers[k], by simp [hkl], rfl⟩
   obtain ⟨V1, hV1, e1⟩ := hd j1 U1 h4
   obtain ⟨V2, hV2, e2⟩ := hd j2 U2 h5
   have := h.al _ _ _ _ _ _ _ _ _ _ _ h1 h2 hG hV1 hV2
   rw [← e1, ← e2]
   exact this
  ·rw [St.get_setG_ne _ _ _ hg] at h3
   exact h.al _ _ _ _ _ _ _ _ _ _ _ h1 h2 h3 h4 h5

theorem Sim.grow_new (h : Sim w0 B0 ρ s w) {g a m d : Nat} {G : Grp} {cs : List AV} {arr : Array Value} (e : TypeId) (hg : g < s.ctr) (hG : s.get g = some G) (hρ : ρ g G.vers.length = none)
  (hn : cs.length ≤ arr.size) (hlf : cs.all AV.leaf = true) (hc : ∀ (i : Nat) (u : AV) (v : Value), cs[i]? = some u → arr[i]? = some v → VR w0 B0 ρ u v) :
  ρ.le (ρ.put g G.vers.length (w.heap.size, 0, arr.size)) ∧
   Sim w0 B0 (ρ.put g G.vers.length (w.heap.size, 0, arr.size)) (s.setG g ⟨(G.vers.map fun U => U.poke a m) ++ [⟨cs, d, none⟩]⟩) (w.alloc (.cells arr e)) := by
 have hle : ρ.le (ρ.put g G.vers.length (w.heap.size, 0, arr.size)) := Loc.put_le hρ
 have hold : ∀ (j : Nat) (V : Ver), G.vers[j]? = some V → (((G.vers.map fun U => U.poke a m) ++ [(⟨cs, d, none⟩ : Ver)]))[j]? = some (V.poke a m) := by
  intro j V hV
  have hj : j < G.vers.length := (ges.1 hV).1
  rw [gal (by simpa using hj), gmm, hV]
  rfl
 have hnew : (((G.vers.map fun U => U.poke a m) ++ [(⟨cs, d, none⟩ : Ver)]))[G.vers.length]? = some ⟨cs, d, none⟩ := by
  rw [gar (by simp)]
  simp
 have hlt : ∀ {j x}, ρ g j = some x → j < G.vers.length := by
  intro j x hx
  obtain ⟨b, st, n⟩ := x
  obtain ⟨_, G1, V1, hG1, hV1, _⟩ := h.ver g j b st n hx
  rw [hG] at hG1
  cases hG1
  exact (ges.1 hV1).1
 refine ⟨hle, ⟨h.low.alloc h.big _, by have := h.big; show B0 ≤ (w.heap.push _).size; rw [Array.size_push]; omega, ?_, ?_, ?_, ?_⟩⟩
 ·intro g' j' b st n hp
  rcases Loc.put_inv hp with ⟨rfl, rfl, hx⟩ | hp
  ·cases hx
   refine ⟨h.big, _, _, St.get_setG_eq _ _ _, hnew, VerR.arr arr e (heap_alloc_new _ _) rfl (by simpa using hn) hlf (fun i u v hu hv => ?_) rfl⟩
   simp only [Nat.zero_add] at hv
   exact (hc i u v hu hv).mono hle
  ·obtain ⟨h1, G2, V2, h2, h3, h4⟩ := h.ver g' j' b st n hp
   refine ⟨h1, ?_⟩
   have hsame := Below.heap_alloc w (.cells arr e) b (h.blk_lt hp)
   by_cases hgg : g' = g
   ·subst hgg
    rw [hG] at h2
    cases h2
    refine ⟨_, _, St.get_setG_eq _ _ _, hold j' V2 h3, ?_⟩
    cases h4 with
    | map es ents clock h5 h6 h7 h8 => exact .map es ents clock (by rw [hsame]; exact h5) (h6.mono hle) h7 (by simp [Ver.poke, h8])
    | own o x h0 h5 h6 h7 h8 => exact .own o x h0 (by rw [hsame]; exact h5) (h6.mono hle) h7 (by simp [Ver.poke, h8])
    | arr c e' h5 h6 h7 h8 h9 hmp =>
    refine .arr c e' (by rw [hsame]; exact h5) h6 (by rw [length_poke]; exact h7) (all_poke h8) (fun i u v hu hv => ?_) hmp
    rw [getElem?_poke] at hu
    cases hU : V2.cells[i]? with
    | none => simp [hU] at hu
    | some u0 =>
     simp only [hU, Option.map_some, sjj] at hu
     have hh := h9 i u0 v hU hv
     split at hu
     ·subst hu; exact .poison v (hh.leaf (aet.1 h8 _ (mog hU)))
     ·subst hu; exact hh.mono hle
   ·exact ⟨G2, V2, by rw [St.get_setG_ne _ _ _ hgg]; exact h2, h3, h4.mono hle hsame⟩
 ·intro g1 j1 j2 b st st' n n' G3 U1 U2 h1 h2 h3 h4 h5
  rcases Loc.put_inv h1 with ⟨rfl, rfl, hx⟩ | h1' <;> rcases Loc.put_inv h2 with ⟨h2a, rfl, hy⟩ | h2'
  ·cases hx; cases hy
   rw [h4] at h5; cases h5
   exact ⟨rfl, rfl⟩
  ·cases hx; exact absurd (h.blk_lt h2') (by omega)
  ·cases hy; exact absurd (h.blk_lt h1') (by omega)
  ·by_cases hgg : g1 = g
   ·subst hgg
    rw [St.get_setG_eq] at h3
    cases h3
    have l1 := hlt h1'
    have l2 := hlt h2'
    have e1 := hold j1 G.vers[j1] (by simp [l1])
    have e2 := hold j2 G.vers[j2] (by simp [l2])
    rw [h4] at e1
    rw [h5] at e2
    cases e1
    cases e2
    exact h.al _ _ _ _ _ _ _ _ _ G.vers[j1] G.vers[j2] h1' h2' hG (by simp [l1]) (by simp [l2])
   ·rw [St.get_setG_ne _ _ _ hgg] at h3
    exact h.al _ _ _ _ _ _ _ _ _ _ _ h1' h2' h3 h4 h5
 ·intro g1 g2 j1 j2 b st st' n n' h1 h2
  rcases Loc.put_inv h1 with ⟨rfl, rfl, hx⟩ | h1' <;> rcases Loc.put_inv h2 with ⟨rfl, rfl, hy⟩ | h2'
  ·rfl
  ·cases hx; exact absurd (h.blk_lt h2') (by omega)
  ·cases hy; exact absurd (h.blk_lt h1') (by omega)
  ·exact h.sep _ _ _ _ _ _ _ _ _ h1' h2'
 ·intro g' j' x hp
  rcases Loc.put_inv hp with ⟨rfl, _, _⟩ | hp
  ·exact hg
  ·exact h.ctr _ _ _ hp

theorem Sim.grow_in (h : Sim w0 B0 ρ s w) {g j off b st n k : Nat} {G : Grp} {V : Ver} {old cs : List AV} {vs : List Value} {cur : Array Value} {e : TypeId} (hρ : ρ g j = some (b, st, n)) (hG : s.get g = some G)
  (hV : G.vers[j]? = some V) (hρ' : ρ g G.vers.length = none) (hold : G.read j off k = some old) (hc : CR w0 B0 ρ cs vs) (hlf : cs.all AV.leaf = true) (hb : w.heap[b]? = some (.cells cur e (0, 0)))
  (hfit : st + off + k + vs.length ≤ n) :
  ρ.le (ρ.put g G.vers.length (b, st + off, n)) ∧
   Sim w0 B0 (ρ.put g G.vers.length (b, st + off, n)) (s.setG g ⟨(G.vers.map fun U => U.poke (V.delta + off + k) cs.length) ++ [⟨old ++ cs, V.delta + off, none⟩]⟩)
    (w.setRow b (cur.toList.take (st + off + k) ++ vs ++ cur.toList.drop (st + off + k + vs.length)).toArray) := by
 have hle : ρ.le (ρ.put g G.vers.length (b, st + off, n)) := Loc.put_le hρ'
 obtain ⟨hB, G1, V1, hG1, hV1, hvr⟩ := h.ver g j b st n hρ
 rw [hG] at hG1
 cases hG1
 rw [hV] at hV1
 cases hV1
 obtain ⟨V1, hV1, ⟨_, hole⟩, hoeq⟩ := Grp.read_spec hold
 rw [hV] at hV1
 cases hV1
 have hsz : cur.size = n := by
  exact (hvr.cells hb).1
 have hone := hc.leaf hlf
 have holdv : ∀ (j : Nat) (V : Ver), G.vers[j]? = some V → ∀ (a m d : Nat) (cs' : List AV), (((G.vers.map fun U => U.poke a m) ++ [(⟨cs', d, none⟩ : Ver)]))[j]? = some (V.poke a m) := by
  intro j V hV a m d cs'
  have hj : j < G.vers.length := (ges.1 hV).1
  rw [gal (by simpa using hj), gmm, hV]
  rfl
 have hnew : ∀ (a m d : Nat) (cs' : List AV), (((G.vers.map fun U => U.poke a m) ++ [(⟨cs', d, none⟩ : Ver)]))[G.vers.length]? = some ⟨cs', d, none⟩ := by
  intro a m d cs'
  rw [gar (by simp)]
  simp
 have hlt : ∀ {j x}, ρ g j = some x → j < G.vers.length := by
  intro j x hx
  obtain ⟨b, st, n⟩ := x
  obtain ⟨_, G1, V1, hG1, hV1, _⟩ := h.ver g j b st n hx
  rw [hG] at hG1
  cases hG1
  exact (ges.1 hV1).1
 have hlfold : old.all AV.leaf = true := by
  obtain ⟨h2, h3, h4, h5, _⟩ := hvr.cells hb
  subst hoeq
  rw [aet] at h4 ⊢
  exact fun x hx => h4 x (List.mem_of_mem_drop (List.mem_of_mem_take hx))
 have hol : old.length = k := by subst hoeq; simp; omega
 refine ⟨hle, ⟨Below.setRow' h.low hB _, by simpa using h.big, ?_, ?_, ?_, ?_⟩⟩
 ·intro g' j' b' st' n' hp
  rcases Loc.put_inv hp with ⟨rfl, rfl, hx⟩ | hp'
  ·cases hx
   refine ⟨hB, _, _, St.get_setG_eq _ _ _, hnew _ _ _ _, ?_⟩
   obtain ⟨h2, h3, h4, h5, _⟩ := hvr.cells hb
   refine .arr _ e (setRow_heap w b cur _ e _ hb) (by simp; omega) (by simp [hol, hc.1]; omega) (by simp [hlfold, hlf]) (fun i u v hu hv => ?_) rfl
   have hr := getElem?_row (l := cur.toList) (cs := vs) (off := st + off + k) (i := st + off + i) (by simp; omega)
   rw [List.getElem?_toArray, hr] at hv
   by_cases hin : i < k
   ·rw [gal (by omega)] at hu
    rw [if_neg (by omega)] at hv
    subst hoeq
    rw [List.getElem?_take, if_pos hin, List.getElem?_drop] at hu
    exact (h5 (off + i) u v hu (by rw [← Array.getElem?_toList, ← Nat.add_assoc]; exact hv)).mono hle
   ·rw [gar (by omega)] at hu
    have hlt2 : i - old.length < cs.length := (ges.1 hu).1
    rw [if_pos (by have := hc.1; omega)] at hv
    rw [show st + off + i - (st + off + k) = i - old.length by omega] at hv
    exact (hc.2 _ u v hu hv).mono hle
  ·obtain ⟨h1, G2, V2, h2, h3, h4⟩ := h.ver g' j' b' st' n' hp'
   refine ⟨h1, ?_⟩
   by_cases hgg : g' = g
   ·subst hgg
    rw [hG] at h2
    cases h2
    refine ⟨_, _, St.get_setG_eq _ _ _, holdv j' V2 h3 _ _ _ _, ?_⟩
    have hpk := VerR.poke (V := V) (off := off + k) (vs := vs) (m := cs.length) h4 hb hc.1 (by omega) hone (st := st) (fun hbb => by
      subst hbb
      exact (h.al _ _ _ _ _ _ _ _ _ _ _ hρ hp' hG hV h3).1)
    rw [← Nat.add_assoc, ← Nat.add_assoc] at hpk
    exact hpk.mono hle rfl
   ·refine ⟨G2, V2, by rw [St.get_setG_ne _ _ _ hgg]; exact h2, h3, h4.mono hle (setRow_other w b b' _ (fun hbb => ?_))⟩
    subst hbb
    exact hgg (h.sep _ _ _ _ _ _ _ _ _ hp' hρ)
 ·intro g1 j1 j2 b1 st1 st2 n1 n2 G3 U1 U2 h1 h2 h3 h4 h5
  have key : ∀ (j2 st2 n2 : Nat) (U2 : Ver), ρ g j2 = some (b, st2, n2) → ((G.vers.map fun U => U.poke (V.delta + off + k) cs.length) ++ [(⟨old ++ cs, V.delta + off, none⟩ : Ver)])[j2]? = some U2 → st + U2.delta = st2 + V.delta ∧ n = n2 := by
   intro j2 st2 n2 U2 h2 h5
   have l2 := hlt h2
   have e2 := holdv j2 G.vers[j2] (by simp [l2]) (V.delta + off + k) cs.length (V.delta + off) (old ++ cs)
   rw [h5] at e2
   cases e2
   exact h.al _ _ _ _ _ _ _ _ _ V G.vers[j2] hρ h2 hG hV (by simp [l2])
  rcases Loc.put_inv h1 with ⟨rfl, rfl, hx⟩ | h1' <;> rcases Loc.put_inv h2 with ⟨h2a, rfl, hy⟩ | h2'
  ·cases hx; cases hy
   rw [h4] at h5; cases h5
   exact ⟨rfl, rfl⟩
  ·cases hx
   rw [St.get_setG_eq] at h3
   cases h3
   have := key j2 st2 n2 U2 h2' h5
   rw [hnew] at h4
   cases h4
   dsimp only
   omega
  ·cases hy
   subst h2a
   rw [St.get_setG_eq] at h3
   cases h3
   have := key j1 st1 n1 U1 h1' h4
   rw [hnew] at h5
   cases h5
   dsimp only
   omega
  ·by_cases hgg : g1 = g
   ·subst hgg
    rw [St.get_setG_eq] at h3
    cases h3
    have l1 := hlt h1'
    have l2 := hlt h2'
    have e1 := holdv j1 G.vers[j1] (by simp [l1]) (V.delta + off + k) cs.length (V.delta + off) (old ++ cs)
    have e2 := holdv j2 G.vers[j2] (by simp [l2]) (V.delta + off + k) cs.length (V.delta + off) (old ++ cs)
    rw [h4] at e1
    rw [h5] at e2
    cases e1
    cases e2
    exact h.al _ _ _ _ _ _ _ _ _ G.vers[j1] G.vers[j2] h1' h2' hG (by simp [l1]) (by simp [l2])
   ·rw [St.get_setG_ne _ _ _ hgg] at h3
    exact h.al _ _ _ _ _ _ _ _ _ _ _ h1' h2' h3 h4 h5
 ·intro g1 g2 j1 j2 b1 st1 st2 n1 n2 h1 h2
  rcases Loc.put_inv h1 with ⟨rfl, rfl, hx⟩ | h1' <;> rcases Loc.put_inv h2 with ⟨rfl, rfl, hy⟩ | h2'
  ·rfl
  ·cases hx; exact (h.sep _ _ _ _ _ _ _ _ _ h2' hρ).symm
  ·cases hy; exact h.sep _ _ _ _ _ _ _ _ _ h1' hρ
  ·exact h.sep _ _ _ _ _ _ _ _ _ h1' h2'
 ·intro g' j' x hp
  rcases Loc.put_inv hp with ⟨rfl, _, _⟩ | hp
  ·exact h.ctr _ _ _ hρ
  ·exact h.ctr _ _ _ hp
end
end Go.Ab
namespace Go.Ab
open Go.RowKit

def aggD : TypeDesc → Bool
 | .struct _ | .array _ _ => true
 | _ => false

def FlatOk (P : Program) (t : TypeId) (z : List AV) : Prop := ∀ (w0 : World) (B0 : Nat) (ρ : Loc) (as bs : List AV) (xs ys : Array Value) (q : Bool) (w : World) (x y : Operand),
 CR w0 B0 ρ as xs.toList → CR w0 B0 ρ bs ys.toList → flatEq z as bs = some q →
  (do eqGuard .eql t x y (.agg xs) (.agg ys); binOp .eql t (.agg xs) (.agg ys) : Sem Value).run P w = .ok (.bool q) w ∧
  (do eqGuard .neq t x y (.agg xs) (.agg ys); binOp .neq t (.agg xs) (.agg ys) : Sem Value).run P w = .ok (.bool (!q)) w

def ifcD : TypeDesc → Bool
 | .interface _ => true
 | _ => false
def ShOk (P : Program) (t : TypeId) : Sh → Prop
 | .scalar => ∃ d, P.underlying t = some d ∧ aggD d = false ∧ ifcD d = false
 | .iface => ∃ ms, P.underlying t = some (.interface ms)
 | .text => P.underlying t = some .string
 | .num k => P.underlying t = some (.int k)
 | .map k e => P.underlying t = some (.map k e)
 | .boolean => P.underlying t = some .bool
 | .slice e => P.underlying t = some (.slice e)
 | .array n e => P.underlying t = some (.array n e)
 | .struct fs => ∃ fields : Array Field, P.underlying t = some (.struct fields) ∧ fields.size = fs.length ∧ ∀ (k : Nat) (f : Field) (q : Nat × Nat × Bool), fields[k]? = some f → fs[k]? = some q →
   f.offset = q.1 ∧ (∃ ti, P.info? f.type = some ti ∧ ti.size = q.2.1) ∧ ∃ d, P.underlying f.type = some d ∧ aggD d = q.2.2

structure TiOk (P : Program) (t : TypeId) (i : TI) : Prop where
 info : ∃ ti z, P.info? t = some ti ∧ ti.size = i.size ∧ ti.bytes = i.bytes ∧ ti.zero = some z ∧ z.cells.size = i.zero.length ∧ ∀ (k : Nat) (u : AV) (v : Value), i.zero[k]? = some u → z.cells[k]? = some v → Ab.ofVal v = some u
 sh : ShOk P t i.sh
 zl : i.zero.length = i.size
 za : ∀ ti z, P.info? t = some ti → ti.zero = some z → (i.sh.isAgg = true → ∃ arr, z = .agg arr) ∧ (i.sh.isAgg = false → z.oneCell' = true)
 flat : i.flat = true → FlatOk P t i.zero
def TabOk (P : Program) (T : Tab) : Prop := ∀ t i, T t = some i → TiOk P t i

theorem ShOk.under {P : Program} {t : TypeId} {s : Sh} (h : ShOk P t s) : ∃ d, P.underlying t = some d ∧ aggD d = s.isAgg := by
 cases s with
 | scalar => exact h.imp fun _ k => ⟨k.1, k.2.1⟩
 | iface => obtain ⟨ms, h⟩ := h; exact ⟨_, h, rfl⟩
 | text => exact ⟨_, h, rfl⟩
 | num k => exact ⟨_, h, rfl⟩
 | map k e => exact ⟨_, h, rfl⟩
 | boolean => exact ⟨_, h, rfl⟩
 | slice e => exact ⟨_, h, rfl⟩
 | array n e => exact ⟨_, h, rfl⟩
 | struct fs => obtain ⟨fields, h, _⟩ := h; exact ⟨_, h, rfl⟩

theorem ShOk.nif {P : Program} {t : TypeId} {s : Sh} (h : ShOk P t s) (k : s.isIf = false) : ∃ d, P.underlying t = some d ∧ ifcD d = false := by
 cases s with
 | scalar => exact h.imp fun _ k => ⟨k.1, k.2.2⟩
 | iface => cases k
 | text => exact ⟨_, h, rfl⟩
 | num k => exact ⟨_, h, rfl⟩
 | map k e => exact ⟨_, h, rfl⟩
 | boolean => exact ⟨_, h, rfl⟩
 | slice e => exact ⟨_, h, rfl⟩
 | array n e => exact ⟨_, h, rfl⟩
 | struct fs => obtain ⟨fields, h, _⟩ := h; exact ⟨_, h, rfl⟩

section
variable {P : Program} {w0 : World} {B0 : Nat} {ρ : Loc} {s s' : St} {w : World} {T : Tab}

theorem run_isAgg' {t : TypeId} {d : TypeDesc} (h : P.underlying t = some d) (w : World) : (isAgg t).run P w = .ok (aggD d) w := by
 unfold isAgg
 simp only [Sem.run_bind, run_underlying h, Result.andThen_ok]
 cases d <;> rfl
theorem run_typeInfo' {t : TypeId} {ti : TypeInfo} (h : P.info? t = some ti) (w : World) : (typeInfo t).run P w = .ok ti w := by
 simp [typeInfo, h]
theorem run_sizeOf' {t : TypeId} {ti : TypeInfo} (h : P.info? t = some ti) (w : World) : (sizeOf t).run P w = .ok ti.size w := by
 simp [sizeOf, run_typeInfo' h]
theorem run_zeroValue' {t : TypeId} {ti : TypeInfo} {z : Value} (h : P.info? t = some ti) (hz : ti.zero = some z) (w : World) : (zeroValue t).run P w = .ok z w := by
 simp [zeroValue, run_typeInfo' h, hz]

theorem TiOk.zeroCR {t : TypeId} {i : TI} (h : TiOk P t i) : ∃ ti z, P.info? t = some ti ∧ ti.size = i.size ∧ ti.bytes = i.bytes ∧ ti.zero = some z ∧ ∀ w0 B0 ρ, CR w0 B0 ρ i.zero z.cells.toList := by
 obtain ⟨ti, z, h1, h2, h3, h4, h5, h6⟩ := h.info
 exact ⟨ti, z, h1, h2, h3, h4, fun w0 B0 ρ => ⟨by simp [h5], fun k u v hu hv => VR.ofVal (h6 k u v hu (by simpa using hv))⟩⟩

theorem run_loadVar' {t : TypeId} {i : TI} (h : TiOk P t i) {a : Addr} {vs : List Value} (hl : vs.length = i.cnt) (hc : CellsAt w a vs) :
  (loadVar t a).run P w = .ok (if i.sh.isAgg then .agg vs.toArray else vs.getD 0 Go.undef) w := by
 obtain ⟨ti, z, h1, h2, _⟩ := h.info
 obtain ⟨d, hd, hag⟩ := h.sh.under
 unfold TI.cnt at hl
 unfold loadVar
 simp only [Sem.run_bind, run_isAgg' hd, Result.andThen_ok, hag]
 cases hs : i.sh.isAgg with
 | true =>
  simp only [hs, if_true] at hl
  have := run_loadCells_list (P := P) w a vs hc
  rw [hl] at this
  simp [run_sizeOf' h1, h2, this]
 | false =>
  simp only [hs, Bool.false_eq_true, if_false] at hl
  match vs, hl with
  | [v], _ =>
   have h0 := hc 0 v rfl
   have ha : a.add 0 = a := by simp [Addr.add]
   rw [ha] at h0
   simp [h0]

theorem ofCells_VR {ag : Bool} {cs : List AV} {vs : List Value} {v : AV} (h : ofCells ag cs = some v) (r : CR w0 B0 ρ cs vs) : VR w0 B0 ρ v (if ag then .agg vs.toArray else vs.getD 0 Go.undef) := by
 unfold ofCells at h
 cases ag with
 | true =>
  simp only [if_true, sjj] at h ⊢
  subst h
  exact .agg cs _ (by simpa using r.1) (fun i u v hu hv => r.2 i u v hu (by simpa using hv))
 | false =>
  simp only [Bool.false_eq_true, if_false] at h ⊢
  split at h
  ·rename_i c
   simp only [sjj] at h
   subst h
   have hl := r.1
   match vs, hl with
   | [v], _ => exact r.2 0 c v rfl rfl
  ·cases h

def Callable (P : Program) (f : FuncId) : Prop := ∃ fn, P.funcs[f]? = some fn ∧ fn.body.isNone = false ∧ (fn.name == "runtime.NumGoroutine") = false
theorem run_callFunc {f : FuncId} {args : Array Value} (h : Callable P f) (w : World) : (callFunc f args).run P w = .ok (.enter f args) w := by
 obtain ⟨fn, k1, k2, k3⟩ := h
 simp only [callFunc, Sem.run_bind, Sem.run_pure, Result.andThen_ok, run_program, k1, k3, k2, Bool.false_eq_true, if_false]
inductive OpS (P : Program) (w0 : World) (B0 : Nat) (ρ : Loc) (c : Nat) (a : Act) (o : Oper) (s' : St) (w : World) : Res → Prop
 | val (v : AV) (v' : Value) (w' : World) (ρ' : Loc) : (execOp a.eval o).run P w = .ok (.value v') w' → ρ.lex c ρ' → Sim w0 B0 ρ' s' w' → VR w0 B0 ρ' v v' → OpS P w0 B0 ρ c a o s' w (.val v)
 | skip (w' : World) : (execOp a.eval o).run P w = .ok .skip w' → Sim w0 B0 ρ s' w' → OpS P w0 B0 ρ c a o s' w .skip
 | round (g : Nat) (args : List AV) (args' : Array Value) (b n : Nat) : ρ g 0 = some (b, 0, n) → (execOp a.eval o).run P w = (Instr.yield b args').run P w → Sim w0 B0 ρ s' w → CR w0 B0 ρ args args'.toList → OpS P w0 B0 ρ c a o s' w (.call (yb + g) args)
 | call (f : FuncId) (args : List AV) (args' : Array Value) : f < yb → (execOp a.eval o).run P w = (callFunc f args').run P w → Sim w0 B0 ρ s' w → CR w0 B0 ρ args args'.toList → OpS P w0 B0 ρ c a o s' w (.call f args)

theorem OpS.pure {a : Act} {o : Oper} {v : AV} {v' : Value} (h : (execOp a.eval o).run P w = .ok (.value v') w) (hs : Sim w0 B0 ρ s w) (r : VR w0 B0 ρ v v') {c : Nat} : OpS P w0 B0 ρ c a o s w (.val v) :=
 .val v v' w ρ h (Loc.lex_refl _ _) hs r

variable {a : Act} {o : Oper} {t : TL} {r : Res}

theorem s_move (ht : TR w0 B0 ρ t a.tmps) (hs : Sim w0 B0 ρ s w) {x : Operand} (ho : o.op = .move x ∨ o.op = .assign x) (h : evOp T o.op t s = some (r, s')) : OpS P w0 B0 ρ s.ctr a o s' w r := by
 have : (match ev t x with | none => none | some v => some (Res.val v, s)) = some (r, s') := by
  rcases ho with ho | ho <;> (rw [ho] at h; exact h)
 cases he : ev t x with
 | none => simp [he] at this
 | some v =>
  simp only [he, sjj, pjj] at this
  obtain ⟨rfl, rfl⟩ := this
  refine .pure ?_ hs (ht.eval he)
  rcases ho with ho | ho <;> simp [execOp, ho]
theorem s_pick (ht : TR w0 B0 ρ t a.tmps) (hs : Sim w0 B0 ρ s w) {c x y : Operand} (ho : o.op = .pick c x y) (h : evOp T o.op t s = some (r, s')) : OpS P w0 B0 ρ s.ctr a o s' w r := by
 rw [ho] at h
 simp only [evOp] at h
 cases hc : ev t c with
 | none => simp [hc] at h
 | some vc =>
  simp only [hc] at h
  cases vc with
  | bool q =>
   simp only at h
   cases hx : ev t x with
   | none => simp [hx] at h
   | some vx =>
    cases hy : ev t y with
    | none => simp [hx, hy] at h
    | some vy =>
     simp only [hx, hy, sjj, pjj] at h
     obtain ⟨rfl, rfl⟩ := h
     have hq := ht.eval hc
     generalize he : a.eval c = vc at hq
     cases hq
     refine .pure (v' := if q then a.eval x else a.eval y) ?_ hs ?_
     ·simp [execOp, ho, he, asBool]
     ·cases q
      ·exact ht.eval hy
      ·exact ht.eval hx
  | _ => simp at h
theorem Sim.fresh (hs : Sim w0 B0 ρ s w) (j : Nat) : ρ s.ctr j = none := by
 cases hq : ρ s.ctr j with
 | none => rfl
 | some x => exact absurd (hs.ctr _ _ _ hq) (by omega)
theorem Sim.newG (hs : Sim w0 B0 ρ s w) (G0 : Grp) : Sim w0 B0 ρ (s.newG G0) w := by
 refine ⟨hs.low, hs.big, fun g j b st n hg => ?_, fun g j j' b st st' n n' G V V' h1 h2 h3 h4 h5 => ?_, hs.sep, fun g j x hx => by have := hs.ctr g j x hx; simp [St.newG]; omega⟩
 ·obtain ⟨q1, G, V, q2, q3, q4⟩ := hs.ver g j b st n hg
  exact ⟨q1, G, V, by rw [St.get_newG_ne _ _ (by have := hs.ctr _ _ _ hg; omega)]; exact q2, q3, q4⟩
 ·rw [St.get_newG_ne _ _ (by have := hs.ctr _ _ _ h1; omega)] at h3
  exact hs.al _ _ _ _ _ _ _ _ _ _ _ h1 h2 h3 h4 h5
theorem Sim.new (hs : Sim w0 B0 ρ s w) {cs : List AV} {arr : Array Value} (e : TypeId) (hn : cs.length ≤ arr.size) (hlf : cs.all AV.leaf = true)
  (hc : ∀ (i : Nat) (u : AV) (v : Value), cs[i]? = some u → arr[i]? = some v → VR w0 B0 ρ u v) :
  ∃ ρ', ρ.lex s.ctr ρ' ∧ ρ' s.ctr 0 = some (w.heap.size, 0, arr.size) ∧ Sim w0 B0 ρ' (s.newG ⟨[⟨cs, 0, none⟩]⟩) (w.alloc (.cells arr e)) := by
 have h := (hs.newG ⟨[⟨cs, 0, none⟩]⟩).lay (g := s.ctr) (cs := cs) (arr := arr) e (by simp [St.newG]) hs.fresh (St.get_newG_eq _ _) hn hlf hc
 exact ⟨_, Loc.put_lex (hs.fresh 0) (.inl (nlr _)), Loc.put_eq, h.2⟩
theorem CR.arr {cs : List AV} {arr : Array Value} (h : CR w0 B0 ρ cs arr.toList) : cs.length ≤ arr.size ∧ ∀ (i : Nat) (u : AV) (v : Value), cs[i]? = some u → arr[i]? = some v → VR w0 B0 ρ u v :=
 ⟨Nat.le_of_eq (h.1.trans Array.length_toList), fun i u v hu hv => h.2 i u v hu (by simpa using hv)⟩

theorem s_alloc (hT : TabOk P T) (hs : Sim w0 B0 ρ s w) {e : TypeId} (ho : o.op = .alloc e) (h : evOp T o.op t s = some (r, s')) : OpS P w0 B0 ρ s.ctr a o s' w r := by
 rw [ho] at h
 simp only [evOp] at h
 cases hi : T e with
 | none => simp [hi] at h
 | some i =>
  simp only [hi] at h
  split at h
  ·rename_i hlf
   simp only [sjj, pjj] at h
   obtain ⟨rfl, rfl⟩ := h
   obtain ⟨ti, z, h1, h2, h3, h4, h5⟩ := (hT e i hi).zeroCR
   have hz := (h5 w0 B0 ρ).arr
   obtain ⟨ρ', hle, hnew, hs'⟩ := hs.new e hz.1 hlf hz.2
   refine .val _ (.pointer (some ⟨w.heap.size, 0, none⟩)) _ _ ?_ hle hs' (.ptr _ _ _ w.heap.size 0 z.cells.size hnew)
   simp only [execOp, ho, Instr.alloc, Sem.run_bind, run_zeroValue' h1 h4, newVar, newRow, Result.andThen_ok, run_newObj, Sem.run_pure]
   rfl
  ·cases h
theorem s_box (ht : TR w0 B0 ρ t a.tmps) (hs : Sim w0 B0 ρ s w) {e : TypeId} {x : Operand} (ho : o.op = .box e x) (h : evOp T o.op t s = some (r, s')) : OpS P w0 B0 ρ s.ctr a o s' w r := by
 rw [ho] at h
 simp only [evOp] at h
 cases hx : ev t x with
 | none => simp [hx] at h
 | some v =>
  simp only [hx] at h
  split at h
  ·rename_i hlf
   simp only [sjj, pjj] at h
   obtain ⟨rfl, rfl⟩ := h
   have hv := (ht.eval hx).cells.arr
   obtain ⟨ρ', hle, hnew, hs'⟩ := hs.new e hv.1 hlf hv.2
   refine .val _ (.pointer (some ⟨w.heap.size, 0, none⟩)) _ _ ?_ hle hs' (.ptr _ _ _ w.heap.size 0 _ hnew)
   simp only [execOp, ho, Instr.box, Sem.run_bind, newVar, newRow, Result.andThen_ok, run_newObj, Sem.run_pure]
   rfl
  ·cases h
theorem s_load (hT : TabOk P T) (ht : TR w0 B0 ρ t a.tmps) (hs : Sim w0 B0 ρ s w) {tt : TypeId} {x : Operand} (ho : o.op = .load tt x) (h : evOp T o.op t s = some (r, s')) : OpS P w0 B0 ρ s.ctr a o s' w r := by
 rw [ho] at h
 simp only [evOp] at h
 cases hi : T tt with
 | none => simp [hi] at h
 | some i =>
  simp only [hi] at h
  have hti := hT tt i hi
  cases hx : ev t x with
  | none => simp [hx] at h
  | some vx =>
   simp only [hx] at h
   have hr := ht.eval hx
   cases vx with
   | ptr g j off =>
    simp only at h
    cases hrd : s.readL g j off i.cnt with
    | none => simp [hrd] at h
    | some cs =>
     simp only [hrd] at h
     cases hof : ofCells i.sh.isAgg cs with
     | none => simp [hof] at h
     | some v =>
      simp only [hof, sjj, pjj] at h
      obtain ⟨rfl, rfl⟩ := h
      generalize he : a.eval x = vx' at hr
      cases hr with
      | ptr _ _ _ b st n hρ =>
      obtain ⟨vs, hl, hcr, hat⟩ := hs.readL hρ hrd
      refine .pure ?_ hs (ofCells_VR hof hcr)
      simp only [execOp, ho, he, Instr.loadAt, Instr.sureAddr, Sem.run_bind, Sem.run_pure, Result.andThen_ok, run_loadVar' hti hl hat]
   | rop cs =>
    simp only at h
    split at h
    ·rename_i hc
     cases hof : ofCells i.sh.isAgg (cs.take i.cnt) with
     | none => simp [hof] at h
     | some v =>
      simp only [hof, sjj, pjj] at h
      obtain ⟨rfl, rfl⟩ := h
      generalize he : a.eval x = vx' at hr
      cases hr with
      | rop _ ad f hsp hB hcell hrel =>
      generalize hn : i.cnt = n at hof hc
      have hcr : CR w0 B0 ρ (cs.take n) ((List.range n).map f) := by
       refine ⟨by simp; omega, fun k u v hu hv => ?_⟩
       rw [List.getElem?_take] at hu
       split at hu
       ·rename_i hk
        rw [gmm, List.getElem?_range hk] at hv
        simp only [Option.map_some, sjj] at hv
        subst hv
        exact hrel k u hu
       ·cases hu
      have hat : CellsAt w ad ((List.range n).map f) := by
       intro k v hv
       have hk : k < n := by have := (ges.1 hv).1; simpa using this
       rw [gmm, List.getElem?_range hk] at hv
       simp only [Option.map_some, sjj] at hv
       subst hv
       obtain ⟨u, hu⟩ : ∃ u, cs[k]? = some u := ⟨cs[k]'(by omega), by simp⟩
       have h1 := hcell k u hu
       have had : ad = ⟨ad.block, ad.off, none⟩ := by cases ad; simp at hsp; simp [hsp]
       rw [had, add_eq]
       rw [hs.low.cell (by exact hB)]
       exact h1
      refine .pure ?_ hs (ofCells_VR hof hcr)
      simp only [execOp, ho, he, Instr.loadAt, Instr.sureAddr, Sem.run_bind, Sem.run_pure, Result.andThen_ok, run_loadVar' hti (vs := (List.range n).map f) (by simp [hn]) hat]
    ·cases h
   | _ => simp at h
theorem run_storeVar' {tt : TypeId} {i : TI} (h : TiOk P tt i) {b o' n : Nat} {v : Value} {cur : Array Value} {e : TypeId} (hb : w.heap[b]? = some (.cells cur e (0, 0))) (hl : v.cells.size = i.size)
  (hfit : o' + v.cells.toList.length ≤ cur.size) (h1 : ∀ u ∈ v.cells.toList, u.oneCell' = true) :
  (storeVar tt ⟨b, o', none⟩ v).run P w = .ok () (w.setRow b (cur.toList.take o' ++ v.cells.toList ++ cur.toList.drop (o' + v.cells.toList.length)).toArray) := by
 obtain ⟨ti, z, q1, q2, _⟩ := h.info
 have := run_storeCells_at P b o' e v.cells.toList 0 cur w hb (by simpa using hfit) h1
 simp only [storeVar, Sem.run_bind, run_sizeOf' q1, Result.andThen_ok, q2, hl, ne_eq, not_true_eq_false, if_false]
 simpa using this
theorem s_store (hT : TabOk P T) (ht : TR w0 B0 ρ t a.tmps) (hs : Sim w0 B0 ρ s w) {tt : TypeId} {x y : Operand} (ho : o.op = .store tt x y) (h : evOp T o.op t s = some (r, s')) : OpS P w0 B0 ρ s.ctr a o s' w r := by
 rw [ho] at h
 simp only [evOp] at h
 cases hi : T tt with
 | none => simp [hi] at h
 | some i =>
  simp only [hi] at h
  have hti := hT tt i hi
  cases hx : ev t x with
  | none => simp [hx] at h
  | some vx =>
  cases hy : ev t y with
  | none => cases vx <;> simp [hx, hy] at h
  | some vy =>
   have hr := ht.eval hx
   have hry := ht.eval hy
   cases vx with
   | ptr g j off =>
    simp only [hx, hy] at h
    split at h
    ·cases h
    ·rename_i hsz
     cases hw : s.write g j off vy.cells with
     | none => simp [hw] at h
     | some s1 =>
      simp only [hw, sjj, pjj] at h
      obtain ⟨rfl, rfl⟩ := h
      generalize he : a.eval x = vx' at hr
      cases hr with
      | ptr _ _ _ b st n hρ =>
      obtain ⟨cur, e, hb⟩ := hs.row hρ hw
      have hcr := hry.cells
      obtain ⟨hfit, hs'⟩ := hs.write hρ hw hcr hb
      obtain ⟨_, _, _, _, _, hlf⟩ := St.write_spec hw
      refine .skip _ ?_ hs'
      have hst := run_storeVar' (w := w) hti (n := n) hb (v := a.eval y) (by have := hcr.1; simp at this; omega) hfit (hcr.leaf hlf)
      simp only [execOp, ho, he, Instr.storeAt, Instr.sureAddr, Sem.run_bind, Sem.run_pure, Result.andThen_ok, hst]
   | _ => simp [hx, hy] at h
end
end Go.Ab
namespace Go.Ab
open Go.RowKit
section
variable {P : Program} {w0 : World} {B0 : Nat} {ρ : Loc} {s s' : St} {w : World} {T : Tab}
variable {a : Act} {o : Oper} {t : TL} {r : Res}

def PR (w0 : World) (B0 : Nat) (ρ : Loc) : List (Nat × AV) → List (Nat × Value) → Prop
 | [], [] => True
 | (i, u) :: r, (j, v) :: q => i = j ∧ VR w0 B0 ρ u v ∧ PR w0 B0 ρ r q
 | _, _ => False
theorem TR.parts (ht : TR w0 B0 ρ t a.tmps) : ∀ {l : List (Nat × Operand)} {ps : List (Nat × AV)}, evParts t l = some ps → PR w0 B0 ρ ps (l.map fun x => (x.1, a.eval x.2)) := by
 intro l
 induction l with
 | nil => intro ps h; simp only [evParts, sjj] at h; subst h; trivial
 | cons x r ih =>
  intro ps h
  obtain ⟨i, x⟩ := x
  simp only [evParts] at h
  cases h1 : ev t x with
  | none => simp [h1] at h
  | some u =>
   cases h2 : evParts t r with
   | none => simp [h1, h2] at h
   | some vs =>
    simp only [h1, h2, sjj] at h
    subst h
    exact ⟨rfl, ht.eval h1, ih h2⟩

theorem foldl_set (off : Nat) : ∀ (l : List Value) (k : Nat) (arr : Array Value), off + k + l.length ≤ arr.size →
  ((l.zipIdx k).foldl (fun (cs : Array Value) (p : Value × Nat) => cs.setIfInBounds (off + p.2) p.1) arr).toList = arr.toList.take (off + k) ++ l ++ arr.toList.drop (off + k + l.length)
 | [], k, arr, h => by simp
 | v :: l, k, arr, h => by
  have hlt : off + k < arr.size := by simp at h; omega
  rw [List.zipIdx_cons, fcc]
  have ih := foldl_set off l (k + 1) (arr.setIfInBounds (off + k) v) (by simp at h ⊢; omega)
  simp only at ih ⊢
  rw [ih]
  apply List.ext_getElem?
  intro i
  have e1 := getElem?_row (l := (arr.setIfInBounds (off + k) v).toList) (cs := l) (off := off + (k + 1)) (i := i) (by simp at h ⊢; omega)
  have e2 := getElem?_row (l := arr.toList) (cs := v :: l) (off := off + k) (i := i) (by simp at h ⊢; omega)
  rw [e1, e2]
  simp only [lcc, Array.toList_setIfInBounds, List.getElem?_set]
  by_cases h1 : i = off + k
  ·subst h1
   have q1 : ¬ (off + (k + 1) ≤ off + k ∧ off + k < off + (k + 1) + l.length) := by omega
   have q2 : off + k ≤ off + k ∧ off + k < off + k + (l.length + 1) := by omega
   have q3 : off + k < arr.toList.length := by simpa using hlt
   rw [if_neg q1, if_pos q2]
   simp [hlt]
  ·by_cases h2 : off + (k + 1) ≤ i ∧ i < off + (k + 1) + l.length
   ·rw [if_pos h2, if_pos (by omega)]
    rw [show i - (off + k) = (i - (off + (k + 1))) + 1 by omega]
    simp
   ·have q2 : ¬ (off + k ≤ i ∧ i < off + k + (l.length + 1)) := by omega
    rw [if_neg h2, if_neg q2, if_neg (fun e => h1 e.symm)]

theorem fill_spec (place : Nat → Option (Nat × Nat)) : ∀ (ps : List (Nat × AV)) (qs : List (Nat × Value)) (cs cs' : List AV) (arr : Array Value), PR w0 B0 ρ ps qs → CR w0 B0 ρ cs arr.toList → fillA place cs ps = some cs' →
  ∃ arr', Instr.fill place arr qs = some arr' ∧ CR w0 B0 ρ cs' arr'.toList := by
 intro ps
 induction ps with
 | nil =>
  intro qs cs cs' arr hp hc h
  cases qs with
  | nil => simp only [fillA, sjj] at h; subst h; exact ⟨arr, rfl, hc⟩
  | cons q qs => exact hp.elim
 | cons p ps ih =>
  intro qs cs cs' arr hp hc h
  cases qs with
  | nil => exact hp.elim
  | cons q qs =>
   obtain ⟨i, u⟩ := p
   obtain ⟨j, v⟩ := q
   obtain ⟨rfl, hr, hp⟩ := hp
   simp only [fillA] at h
   simp only [Instr.fill]
   cases hpl : place i with
   | none => simp [hpl] at h
   | some os =>
    obtain ⟨off, size⟩ := os
    simp only [hpl] at h ⊢
    split at h
    ·cases h
    ·rename_i hn
     have hcl := hr.cells
     have hl : u.cells.length = v.cells.size := by have := hcl.1; rwa [Array.length_toList] at this
     have hl2 : cs.length = arr.size := by have := hc.1; rwa [Array.length_toList] at this
     have hn' : ¬ (v.cells.size ≠ size ∨ off + v.cells.size > arr.size) := by rw [← hl, ← hl2]; exact hn
     rw [if_neg (by simpa using hn')]
     refine ih qs _ cs' _ hp ?_ h
     have hf := foldl_set off v.cells.toList 0 arr (by simp; omega)
     have e : (v.cells.zipIdx.foldl (fun (cs : Array Value) (x : Value × Nat) => match x with | (c, j) => cs.setIfInBounds (off + j) c) arr).toList = arr.toList.take off ++ v.cells.toList ++ arr.toList.drop (off + v.cells.toList.length) := by
      rw [← Array.foldl_toList, Array.toList_zipIdx]
      simpa using hf
     rw [e]
     exact hc.over hcl off

theorem s_build (hT : TabOk P T) (ht : TR w0 B0 ρ t a.tmps) (hs : Sim w0 B0 ρ s w) {tt : TypeId} {parts : Array (Nat × Operand)} (ho : o.op = .build tt parts) (h : evOp T o.op t s = some (r, s')) : OpS P w0 B0 ρ s.ctr a o s' w r := by
 rw [ho] at h
 simp only [evOp] at h
 cases hi : T tt with
 | none => simp [hi] at h
 | some i =>
  simp only [hi] at h
  have hti := hT tt i hi
  cases hps : evParts t parts.toList with
  | none => simp [hps] at h
  | some ps =>
   simp only [hps] at h
   have hpr := ht.parts hps
   obtain ⟨ti, z, h1, h2, h3, h4, h5⟩ := hti.zeroCR
   have hz := h5 w0 B0 ρ
   have hsh := hti.sh
   have fin : ∀ arr : Array Value, ∀ cs, P.built tt (parts.toList.map fun x => (x.1, a.eval x.2)) = some arr → CR w0 B0 ρ cs arr.toList → OpS P w0 B0 ρ s.ctr a o s w (.val (.agg cs)) := by
    intro arr cs hb hcr
    refine .pure (v' := .agg arr) ?_ hs (.agg cs arr (by have := hcr.1; rwa [Array.length_toList] at this) (fun i u v hu hv => hcr.2 i u v hu (by simpa using hv)))
    have hb' : P.built tt (parts.map fun (x : Nat × Operand) => (x.1, a.eval x.2)).toList = some arr := by rw [Array.toList_map]; exact hb
    have := run_build (P := P) w tt _ arr hb'
    simp only [execOp, ho, Sem.run_bind, Sem.run_pure]
    rw [this]
    rfl
   cases hshape : i.sh with
   | struct fs =>
    rw [hshape] at hsh h
    simp only at h
    obtain ⟨fields, hu, hfs, hf⟩ := hsh
    cases hfill : fillA (fun n => (fs[n]?).map fun f => (f.1, f.2.1)) i.zero ps with
    | none => simp [hfill] at h
    | some cs =>
     simp only [hfill, sjj, pjj] at h
     obtain ⟨rfl, rfl⟩ := h
     have hplaces : fields.toList.mapM (fun f => (P.info? f.type).map fun i => (f.offset, i.size)) = some (fs.map fun f => (f.1, f.2.1)) := by
      refine mapM_some_of_get _ _ (by simp [hfs]) (fun k f hk => ?_)
      have hk' : fields[k]? = some f := by simpa using hk
      have hlt : k < fs.length := by rw [← hfs]; exact (Array.getElem?_eq_some_iff.1 hk').1
      obtain ⟨e1, ⟨tf, e2, e3⟩, _⟩ := hf k f fs[k] hk' (by simp [hlt])
      simp [e2, e3, hlt, e1]
     obtain ⟨arr, hfl, hcr⟩ := fill_spec _ ps _ i.zero cs z.cells hpr hz hfill
     refine fin arr cs ?_ hcr
     unfold Program.built
     simp only [h1, hu, h4, hplaces]
     have e : (fun (n : Nat) => ((fs.map fun (f : Nat × Nat × Bool) => (f.1, f.2.1)).toArray)[n]?) = fun (n : Nat) => (fs[n]?).map fun f => (f.1, f.2.1) := by
      funext n
      simp
     rw [e]
     exact hfl
   | array n e =>
    rw [hshape] at hsh h
    simp only at h
    cases hie : T e with
    | none => simp [hie] at h
    | some ie =>
     simp only [hie] at h
     obtain ⟨te, ze, k1, k2, _⟩ := (hT e ie hie).info
     cases hfill : fillA (fun n => some (n * ie.size, ie.size)) i.zero ps with
     | none => simp [hfill] at h
     | some cs =>
      simp only [hfill, sjj, pjj] at h
      obtain ⟨rfl, rfl⟩ := h
      obtain ⟨arr, hfl, hcr⟩ := fill_spec _ ps _ i.zero cs z.cells hpr hz hfill
      refine fin arr cs ?_ hcr
      have hu : P.underlying tt = some (.array n e) := hsh
      unfold Program.built
      simp only [h1, hu, h4, k1, k2]
      exact hfl
   | scalar => rw [hshape] at h; simp at h
   | iface => rw [hshape] at h; simp at h
   | text => rw [hshape] at h; simp at h
   | num k => rw [hshape] at h; simp at h
   | map k e => rw [hshape] at h; simp at h
   | boolean => rw [hshape] at h; simp at h
   | slice e => rw [hshape] at h; simp at h

theorem flatten_get {cs : List AV} {arr : Array Value} (hz : CR w0 B0 ρ cs arr.toList) (hn : cs.length ≠ 0) (len : Nat) : CR w0 B0 ρ (List.replicate len cs).flatten ((Array.range (len * cs.length)).map (fun x => arr[x % arr.size]!)).toList := by
 have hl : cs.length = arr.size := by have := hz.1; rwa [Array.length_toList] at this
 refine ⟨by simp, fun i u v hu hv => ?_⟩
 have hlt : i < len * cs.length := by have := (ges.1 hu).1; simpa using this
 have hmod : i % cs.length < cs.length := Nat.mod_lt _ (by omega)
 have e1 : (List.replicate len cs).flatten[i]? = cs[i % cs.length]? := by
  clear hu hv
  induction len generalizing i with
  | zero => simp at hlt
  | succ len ih =>
   rw [List.replicate_succ, List.flatten_cons]
   by_cases hi : i < cs.length
   ·rw [gal hi, Nat.mod_eq_of_lt hi]
   ·rw [gar (by omega), ih (i - cs.length) (by rw [Nat.add_mul] at hlt; omega) (Nat.mod_lt _ (by omega))]
    congr 1
    rw [Nat.mod_eq_sub_mod (by omega : i ≥ cs.length)]
 rw [e1] at hu
 have hv' : arr[i % arr.size]! = v := by simpa [hlt] using hv
 refine hz.2 (i % cs.length) u v hu ?_
 rw [← hv', ← hl]
 have hm2 : i % cs.length < arr.size := by omega
 simp [hm2]

def EarlyRun (P : Program) (w0 : World) (B0 : Nat) (ρ : Loc) (a : Act) (o : Oper) (w : World) (c : Nat) (cs : List AV) (v : AV) : Prop :=
 ∃ (arr : Array Value) (e : TypeId) (v' : Value), (execOp a.eval o).run P w = .ok (.value v') (w.alloc (.cells arr e)) ∧ cs.length ≤ arr.size ∧ cs.all AV.leaf = true ∧
  (∀ (i : Nat) (u : AV) (x : Value), cs[i]? = some u → arr[i]? = some x → VR w0 B0 ρ u x) ∧ ∀ ρ' : Loc, ρ' c 0 = some (w.heap.size, 0, arr.size) → VR w0 B0 ρ' v v'

theorem e_buildSlice (hT : TabOk P T) (ht : TR w0 B0 ρ t a.tmps) {tt : TypeId} {len : Nat} {parts : Array (Nat × Operand)} (ho : o.op = .buildSlice tt len parts)
  (h : evOp T o.op t s = some (r, s')) : ∃ v cs, r = .val v ∧ s' = s.newG ⟨[⟨cs, 0, none⟩]⟩ ∧ EarlyRun P w0 B0 ρ a o w s.ctr cs v := by
 rw [ho] at h
 simp only [evOp] at h
 split at h
 ·rename_i e sz by_ zr fl hi
  have hu : P.underlying tt = some (.slice e) := (hT tt _ hi).sh
  cases hie : T e with
  | none => simp [hie] at h
  | some ie =>
   simp only [hie] at h
   cases hps : evParts t parts.toList with
   | none => simp [hps] at h
   | some ps =>
    simp only [hps] at h
    have hpr := ht.parts hps
    obtain ⟨ti, z, h1, h2, h3, h4, h5⟩ := (hT e ie hie).zeroCR
    have hz := h5 w0 B0 ρ
    split at h
    ·cases h
    ·rename_i hn
     have hn1 : ¬ (len * ie.size > 2 ^ 24) := fun q => hn (.inl q)
     have hn2 : ie.zero.length = ie.size := Decidable.of_not_not fun q => hn (.inr (.inl q))
     have hn3 : ie.size ≠ 0 := fun q => hn (.inr (.inr q))
     cases hfill : fillA (fun n => some (n * ie.size, ie.size)) (List.replicate len ie.zero).flatten ps with
     | none => simp [hfill] at h
     | some cs =>
      simp only [hfill] at h
      split at h
      ·rename_i hlf
       simp only [sjj, pjj] at h
       obtain ⟨rfl, rfl⟩ := h
       have hzz := flatten_get hz (by omega) len
       have hzl : z.cells.size = ie.size := by have := hz.1; rw [Array.length_toList] at this; omega
       rw [hn2, hzl] at hzz
       obtain ⟨arr, hfl, hcr⟩ := fill_spec _ ps _ _ cs _ hpr hzz hfill
       have ha := hcr.arr
       have hlen : cs.length = arr.size := by have := hcr.1; rwa [Array.length_toList] at this
       have hcl : arr.size = len * ie.size := by
        have : ∀ (ps : List (Nat × AV)) (c c' : List AV), fillA (fun n => some (n * ie.size, ie.size)) c ps = some c' → c'.length = c.length := by
         intro ps
         induction ps with
         | nil => intro c c' hh; simp only [fillA, sjj] at hh; subst hh; rfl
         | cons p ps ih =>
          intro c c' hh
          obtain ⟨i, u⟩ := p
          simp only [fillA] at hh
          split at hh
          ·cases hh
          ·rename_i hq
           rw [ih _ _ hh, length_over (by omega)]
        have := this _ _ _ hfill
        rw [← hlen, this]
        simp [hn2]
       refine ⟨_, cs, rfl, rfl, arr, e, .slice (some ⟨w.heap.size, 0, none⟩) len len, ?_, ha.1, hlf, ha.2, fun ρ' hnew => .slc _ _ _ _ _ _ _ w.heap.size 0 arr.size len ⟨w.heap.size, 0, none⟩ hnew (nlr _) (nlr _) (fun _ => rfl) (fun _ => rfl) (by omega)⟩
       have hfl' : Instr.fill (fun i => some (i * ti.size, ti.size)) (Array.map (fun x => z.cells[x % ti.size]!) (Array.range (len * ti.size))) (parts.map fun (x : Nat × Operand) => (x.1, a.eval x.2)).toList = some arr := by
        rw [h2, Array.toList_map]
        exact hfl
       by_cases hl0 : len * ti.size = 0
       ·have hl0' : len = 0 := by rw [h2] at hl0; rcases Nat.mul_eq_zero.1 hl0 with q | q <;> omega
        subst hl0'
        simp only [execOp, ho, Sem.run_bind, Sem.run_pure, Instr.buildSlice, run_underlying hu, run_sizeOf' h1, Result.andThen_ok, newRow]
        rw [if_neg (by rw [h2]; exact hn1)]
        simp only [Nat.zero_mul] at hfl' ⊢
        simp only [Sem.run_bind, Sem.run_pure, Result.andThen_ok, if_true]
        have e0 : (Array.map (fun x => (#[] : Array Value)[x % (#[] : Array Value).size]!) (Array.range 0)) = (Array.map (fun x => z.cells[x % ti.size]!) (Array.range 0)) := by simp
        rw [e0]
        simp only [hfl', Sem.run_bind, run_newObj, Sem.run_pure, Result.andThen_ok]
        rfl
       ·simp only [execOp, ho, Sem.run_bind, Sem.run_pure, Instr.buildSlice, run_underlying hu, run_sizeOf' h1, Result.andThen_ok, newRow]
        rw [if_neg (by rw [h2]; exact hn1), if_neg hl0]
        simp only [Sem.run_bind, Sem.run_pure, run_zeroValue' h1 h4, Result.andThen_ok]
        rw [hzl, ← h2]
        simp only [hfl', Sem.run_bind, run_newObj, Sem.run_pure, Result.andThen_ok]
        rfl
      ·cases h
 ·cases h

theorem e_box (ht : TR w0 B0 ρ t a.tmps) {e : TypeId} {x : Operand} (ho : o.op = .box e x) (h : evOp T o.op t s = some (r, s')) :
  ∃ v cs, r = .val v ∧ s' = s.newG ⟨[⟨cs, 0, none⟩]⟩ ∧ EarlyRun P w0 B0 ρ a o w s.ctr cs v := by
 rw [ho] at h
 simp only [evOp] at h
 cases hx : ev t x with
 | none => simp [hx] at h
 | some v =>
  simp only [hx] at h
  split at h
  ·rename_i hlf
   simp only [sjj, pjj] at h
   obtain ⟨rfl, rfl⟩ := h
   have hv := (ht.eval hx).cells.arr
   refine ⟨_, v.cells, rfl, rfl, (a.eval x).cells, e, .pointer (some ⟨w.heap.size, 0, none⟩), ?_, hv.1, hlf, hv.2, fun ρ' hnew => .ptr _ _ _ w.heap.size 0 _ hnew⟩
   simp only [execOp, ho, Instr.box, Sem.run_bind, newVar, newRow, Result.andThen_ok, run_newObj, Sem.run_pure]
   rfl
  ·cases h
theorem e_alloc (hT : TabOk P T) {e : TypeId} {ti : TI} (ho : o.op = .alloc e) (hti : T e = some ti) (hlf : ti.zero.all AV.leaf = true) (c : Nat) : EarlyRun P w0 B0 ρ a o w c ti.zero (.ptr c 0 0) := by
 obtain ⟨info, z, i1, i2, i3, i4, i5⟩ := (hT e ti hti).zeroCR
 have hz := (i5 w0 B0 ρ).arr
 refine ⟨z.cells, e, .pointer (some ⟨w.heap.size, 0, none⟩), ?_, hz.1, hlf, hz.2, fun ρ' hnew => .ptr _ _ _ w.heap.size 0 z.cells.size hnew⟩
 simp only [execOp, ho, Instr.alloc, Sem.run_bind, run_zeroValue' i1 i4, newVar, newRow, Result.andThen_ok, run_newObj, Sem.run_pure]
 rfl
theorem s_buildSlice (hT : TabOk P T) (ht : TR w0 B0 ρ t a.tmps) (hs : Sim w0 B0 ρ s w) {tt : TypeId} {len : Nat} {parts : Array (Nat × Operand)} (ho : o.op = .buildSlice tt len parts)
  (h : evOp T o.op t s = some (r, s')) : OpS P w0 B0 ρ s.ctr a o s' w r := by
 obtain ⟨v, cs, rfl, rfl, arr, e, v', h1, h2, h3, h4, h5⟩ := e_buildSlice (P := P) (w0 := w0) (B0 := B0) (ρ := ρ) (w := w) (a := a) hT ht ho h
 obtain ⟨ρ', hle, hnew, hs'⟩ := hs.new e h2 h3 h4
 exact .val v v' _ ρ' h1 hle hs' (h5 ρ' hnew)
end
end Go.Ab
namespace Go.Ab
open Go.RowKit
section
variable {P : Program} {w0 : World} {B0 : Nat} {ρ : Loc} {s s' : St} {w : World} {T : Tab}
variable {a : Act} {o : Oper} {t : TL} {r : Res}

theorem intA_sound {op : BinOp} {k : IntKind} {m n : Int} {v : AV} (h : intA op k m n = some v) (xt : TypeId) (x y : Operand) (hop : op ≠ .shl ∧ op ≠ .shr) :
  ∃ v', (do eqGuard op xt x y (.int k m) (.int k n); binOp op xt (.int k m) (.int k n) : Sem Value).run P w = .ok v' w ∧ VR w0 B0 ρ v v' := by
 cases op <;> simp only [intA] at h <;>
  first
   | (cases h; done)
   | (exact absurd rfl hop.1)
   | (exact absurd rfl hop.2)
   | (simp only [sjj] at h; subst h; refine ⟨_, ?_, VR.int _ _⟩; simp [eqGuard, binOp, Op.intArith, Op.intBits]; done)
   | (simp only [sjj] at h; subst h; refine ⟨_, ?_, VR.bool _⟩; simp [eqGuard, binOp, Op.intCmp]; done)
   | (split at h
      · cases h
      · rename_i hn; simp only [sjj] at h; subst h; refine ⟨_, ?_, VR.int _ _⟩; simp [eqGuard, binOp, Op.intDiv, hn]; done)
theorem shiftA_sound {op : BinOp} {k k' : IntKind} {m n : Int} {v : AV} (h : shiftA op k m n = some v) (hop : op = .shl ∨ op = .shr) (xt : TypeId) (x y : Operand) :
  ∃ v', (do eqGuard op xt x y (.int k m) (.int k' n); binOp op xt (.int k m) (.int k' n) : Sem Value).run P w = .ok v' w ∧ VR w0 B0 ρ v v' := by
 unfold shiftA at h
 split at h
 ·cases h
 ·rename_i hn
  rcases hop with rfl | rfl <;> simp only [sjj] at h <;> subst h <;> refine ⟨_, ?_, VR.int _ _⟩ <;> simp [eqGuard, binOp, Op.shift, hn]
theorem strA_sound {op : BinOp} {m n : ByteArray} {v : AV} (h : strA op m n = some v) (xt : TypeId) (x y : Operand) :
  ∃ v', (do eqGuard op xt x y (.string m) (.string n); binOp op xt (.string m) (.string n) : Sem Value).run P w = .ok v' w ∧ VR w0 B0 ρ v v' := by
 cases op <;> simp only [strA] at h <;>
  first
   | (cases h; done)
   | (simp only [sjj] at h; subst h; refine ⟨_, ?_, VR.bool _⟩; simp [eqGuard, binOp, Op.stringOp, beq_toListBytes]; done)
   | (split at h
      · cases h
      · rename_i hn; simp only [sjj] at h; subst h; refine ⟨_, ?_, VR.str _⟩; simp only [eqGuard, binOp, Op.stringOp, hn]; simp; done)

theorem equal_bool {t : TypeId} (hu : P.underlying t = some .bool) (a b : Bool) (w : World) : (Op.equal t (.bool a) (.bool b)).run P w = .ok (a == b) w := by
 have e : ∀ d, (Op.equalIn (d + 1) t (.bool a) (.bool b)).run P w = .ok (a == b) w := fun d => by simp [Op.equalIn, run_underlying hu]
 exact e 9999
theorem equal_slice_nil {t e : TypeId} (hu : P.underlying t = some (.slice e)) (A : Option Addr) (n c : Nat) (w : World) : (Op.equal t (.slice A n c) (.slice none 0 0)).run P w = .ok A.isNone w := by
 have e : ∀ d, (Op.equalIn (d + 1) t (.slice A n c) (.slice none 0 0)).run P w = .ok A.isNone w := fun d => by cases A <;> simp [Op.equalIn, run_underlying hu]
 exact e 9999
theorem binA_sound (hT : TabOk P T) {op : BinOp} {xt : TypeId} {vx vy v : AV} {x' y' : Value} (h : binA T op xt vx vy = some v) (hx : VR w0 B0 ρ vx x') (hy : VR w0 B0 ρ vy y') (x y : Operand) :
  ∃ v', (do eqGuard op xt x y x' y'; binOp op xt x' y' : Sem Value).run P w = .ok v' w ∧ VR w0 B0 ρ v v' := by
 unfold binA at h
 split at h
 ·-- two whole numbers
  rename_i k m k' n
  cases hx
  cases hy
  split at h
  ·exact shiftA_sound h (.inl rfl) xt x y
  ·exact shiftA_sound h (.inr rfl) xt x y
  ·rename_i h1 h2
   split at h
   ·rename_i hk
    subst hk
    exact intA_sound h xt x y ⟨h1, h2⟩
   ·cases h
 ·cases hx
  cases hy
  exact strA_sound h xt x y
 ·cases hx
  cases hy
  split at h
  ·rename_i hi
   have hu : P.underlying xt = some .bool := (hT xt _ hi).sh
   split at h
   ·simp only [sjj] at h; subst h
    exact ⟨_, by simp [eqGuard, binOp, equal_bool hu], VR.bool _⟩
   ·simp only [sjj] at h; subst h
    exact ⟨_, by simp [eqGuard, binOp, equal_bool hu], VR.bool _⟩
   ·cases h
  ·cases h
 ·rename_i as bs
  cases hx with
  | agg _ xs h1 h2 =>
  cases hy with
  | agg _ ys h3 h4 =>
  split at h
  ·rename_i z hi
   have hf := (hT xt _ hi).flat rfl
   have c1 : CR w0 B0 ρ as xs.toList := ⟨by simpa using h1, fun i u v hu hv => h2 i u v hu (by simpa using hv)⟩
   have c2 : CR w0 B0 ρ bs ys.toList := ⟨by simpa using h3, fun i u v hu hv => h4 i u v hu (by simpa using hv)⟩
   split at h
   ·cases hq : flatEq z as bs with
    | none => simp [hq] at h
    | some q =>
     simp only [hq, Option.map_some, sjj] at h
     subst h
     exact ⟨_, (hf w0 B0 ρ as bs xs ys q w x y c1 c2 hq).1, VR.bool _⟩
   ·cases hq : flatEq z as bs with
    | none => simp [hq] at h
    | some q =>
     simp only [hq, Option.map_some, sjj] at h
     subst h
     exact ⟨_, (hf w0 B0 ρ as bs xs ys q w x y c1 c2 hq).2, VR.bool _⟩
   ·cases h
  ·cases h
 ·cases hy
  split at h
  ·rename_i e _ _ _ _ hi
   have hu : P.underlying xt = some (.slice e) := (hT xt _ hi).sh
   split at h
   ·rename_i q hq
    have key : ∃ A n c, x' = .slice A n c ∧ A.isNone = q := by
     split at hq
     ·cases hx; simp only [sjj] at hq; exact ⟨none, 0, 0, rfl, by simp [← hq]⟩
     ·simp only [sjj] at hq
      subst hq
      cases hx with
      | ro nl xs A c f h1 h2 =>
       refine ⟨A, _, c, rfl, ?_⟩
       exact Bool.eq_iff_iff.2 (by rw [h2]; cases A <;> simp)
     ·simp only [sjj] at hq
      cases hx
      exact ⟨_, _, _, rfl, by simp [← hq]⟩
     ·cases hq
    obtain ⟨A, n, c, rfl, rfl⟩ := key
    split at h
    ·simp only [sjj] at h; subst h
     refine ⟨_, ?_, VR.bool _⟩
     simp [eqGuard, binOp, equal_slice_nil hu]
    ·simp only [sjj] at h; subst h
     refine ⟨_, ?_, VR.bool _⟩
     simp [eqGuard, binOp, equal_slice_nil hu]
    ·cases h
   ·cases h
  ·cases h
 ·cases h

theorem nilB_sound (hT : TabOk P T) {op : BinOp} {xt : TypeId} {vx v : AV} {x' : Value} {x y : Operand} (h : nilB T op xt y vx = some v) (hx : VR w0 B0 ρ vx x') (a : Act) :
  ∃ v', (do eqGuard op xt x y x' (a.eval y); binOp op xt x' (a.eval y) : Sem Value).run P w = .ok v' w ∧ VR w0 B0 ρ v v' := by
 unfold nilB at h
 split at h
 ·rename_i i hi
  have hy : a.eval (.const .nilIface) = .nilIface := rfl
  rw [hy]
  obtain ⟨ms, hu⟩ := (hT xt _ hi).sh
  have e1 : (Op.equal xt .nilIface .nilIface).run P w = .ok true w := by
   have e : ∀ d, (Op.equalIn (d + 1) xt .nilIface .nilIface).run P w = .ok true w := fun d => by simp [Op.equalIn, run_underlying hu]
   exact e 9999
  have e2 : ∀ t u, (Op.equal xt (.iface t u) .nilIface).run P w = .ok false w := fun t u => by
   have e : ∀ d, (Op.equalIn (d + 1) xt (.iface t u) .nilIface).run P w = .ok false w := fun d => by simp [Op.equalIn, run_underlying hu]
   exact e 9999
  unfold nilA at h
  split at h
  ·cases hx
   split at h <;> first
    | (cases h; done)
    | (cases h; exact ⟨_, by simp [eqGuard, binOp, e1], VR.bool _⟩)
  ·cases hx
   split at h <;> first
    | (cases h; done)
    | (cases h; exact ⟨_, by simp [eqGuard, binOp, e2], VR.bool _⟩)
  ·cases h
 ·cases h
theorem s_binOp (hT : TabOk P T) (ht : TR w0 B0 ρ t a.tmps) (hs : Sim w0 B0 ρ s w) {op : BinOp} {xt yt : TypeId} {x y : Operand} (ho : o.op = .binOp op xt x y yt) (h : evOp T o.op t s = some (r, s')) : OpS P w0 B0 ρ s.ctr a o s' w r := by
 rw [ho] at h
 simp only [evOp] at h
 cases hx : ev t x with
 | none => simp [hx] at h
 | some vx =>
  cases hy : ev t y with
  | none => simp [hx, hy] at h
  | some vy =>
   simp only [hx, hy] at h
   cases hb : binA T op xt vx vy with
   | none =>
    simp only [hb] at h
    cases hn : nilB T op xt y vx with
    | none => simp [hn] at h
    | some v =>
     simp only [hn, sjj, pjj] at h
     obtain ⟨rfl, rfl⟩ := h
     obtain ⟨v', h1, h2⟩ := nilB_sound (P := P) (w := w) (x := x) hT hn (ht.eval hx) a
     refine .pure (v' := v') ?_ hs h2
     have e : (execOp a.eval o).run P w = ((do eqGuard op xt x y (a.eval x) (a.eval y); binOp op xt (a.eval x) (a.eval y) : Sem Value).run P w).andThen fun v w => .ok (.value v) w := by
      simp only [execOp, ho, Sem.run_bind, Sem.run_pure]
     rw [e, h1]
     rfl
   | some v =>
    simp only [hb, sjj, pjj] at h
    obtain ⟨rfl, rfl⟩ := h
    obtain ⟨v', h1, h2⟩ := binA_sound (P := P) (w := w) hT hb (ht.eval hx) (ht.eval hy) x y
    refine .pure (v' := v') ?_ hs h2
    have e : (execOp a.eval o).run P w = ((do eqGuard op xt x y (a.eval x) (a.eval y); binOp op xt (a.eval x) (a.eval y) : Sem Value).run P w).andThen fun v w => .ok (.value v) w := by
     simp only [execOp, ho, Sem.run_bind, Sem.run_pure]
    rw [e, h1]
    rfl
theorem s_unOp (ht : TR w0 B0 ρ t a.tmps) (hs : Sim w0 B0 ρ s w) {op : UnOp} {xt : TypeId} {x : Operand} (ho : o.op = .unOp op xt x) (h : evOp T o.op t s = some (r, s')) : OpS P w0 B0 ρ s.ctr a o s' w r := by
 rw [ho] at h
 simp only [evOp] at h
 cases hx : ev t x with
 | none => simp [hx] at h
 | some vx =>
  simp only [hx] at h
  cases hb : unA op vx with
  | none => simp [hb] at h
  | some v =>
   simp only [hb, sjj, pjj] at h
   obtain ⟨rfl, rfl⟩ := h
   have hr := ht.eval hx
   generalize he : a.eval x = x' at hr
   unfold unA at hb
   split at hb
   ·cases hr
    simp only [sjj] at hb; subst hb
    exact .pure (by simp [execOp, ho, he, Op.unary]) hs (VR.bool _)
   ·cases hr
    simp only [sjj] at hb; subst hb
    exact .pure (by simp [execOp, ho, he, Op.unary, Op.intArith]) hs (VR.int _ _)
   ·cases hr
    simp only [sjj] at hb; subst hb
    exact .pure (by simp only [execOp, ho, he, Op.unary, Op.intBits]; rfl) hs (VR.int _ _)
   ·cases hb
theorem s_convert (hT : TabOk P T) (ht : TR w0 B0 ρ t a.tmps) (hs : Sim w0 B0 ρ s w) {src dst : TypeId} {x : Operand} (ho : o.op = .convert src dst x) (h : evOp T o.op t s = some (r, s')) : OpS P w0 B0 ρ s.ctr a o s' w r := by
 rw [ho] at h
 simp only [evOp] at h
 split at h
 ·rename_i h1 h2 h3
  simp only [sjj, pjj] at h
  obtain ⟨rfl, rfl⟩ := h
  have k1 : P.underlying src = _ := (hT _ _ h1).sh
  have k2 : P.underlying dst = _ := (hT _ _ h2).sh
  have hr := ht.eval h3
  generalize he : a.eval x = x' at hr
  cases hr
  exact .pure (by simp only [execOp, ho, he, Sem.run_bind, convert, run_underlying k1, run_underlying k2, Result.andThen_ok, Conv.intToInt, Sem.run_pure]) hs (VR.int _ _)
 ·cases h
theorem s_nilCheck (ht : TR w0 B0 ρ t a.tmps) (hs : Sim w0 B0 ρ s w) {x : Operand} (ho : o.op = .nilCheck x) (h : evOp T o.op t s = some (r, s')) : OpS P w0 B0 ρ s.ctr a o s' w r := by
 rw [ho] at h
 simp only [evOp] at h
 cases hx : ev t x with
 | none => simp [hx] at h
 | some vx =>
  have hr := ht.eval hx
  generalize he : a.eval x = x' at hr
  simp only [hx] at h
  cases hr with
  | ptr g j off b st n hρ =>
   simp only [sjj, pjj] at h
   obtain ⟨rfl, rfl⟩ := h
   exact .pure (by simp [execOp, ho, he]) hs (.ptr g j off b st n hρ)
  | rop cs ad f h1 h2 h3 h4 =>
   simp only [sjj, pjj] at h
   obtain ⟨rfl, rfl⟩ := h
   exact .pure (by simp [execOp, ho, he]) hs (.rop cs ad f h1 h2 h3 h4)
  | _ => simp at h
theorem s_makeFunc (ht : TR w0 B0 ρ t a.tmps) (hs : Sim w0 B0 ρ s w) {fn : Fn} {first caps : Array Operand} (ho : o.op = .makeFunc fn first caps) (h : evOp T o.op t s = some (r, s')) : OpS P w0 B0 ρ s.ctr a o s' w r := by
 rw [ho] at h
 cases fn with
 | func f =>
  simp only [evOp] at h
  split at h
  ·split at h
   ·rename_i hb
    have hc' : caps = #[] := Array.eq_empty_of_size_eq_zero hb.2
    cases hc : evs t first.toList with
    | none => simp [hc] at h
    | some vs =>
    simp only [hc, sjj, pjj] at h
    obtain ⟨rfl, rfl⟩ := h
    have hcr := ht.evs hc
    refine .pure (v' := .func (.func f) (first.map a.eval) #[]) (by simp [execOp, ho, hc', Instr.makeFunc]) hs (.mv f vs _ hb.1 (by have := hcr.1; simpa using this) (fun i u v hu hv => hcr.2 i u v hu ?_))
    rw [← Array.toList_map]
    simpa using hv
   ·cases h
  ·rename_i hf
   have hf' : first = #[] := by
    have : first.size = 0 := Decidable.of_not_not hf
    exact Array.eq_empty_of_size_eq_zero this
   split at h
   ·rename_i hyb
    cases hc : evs t caps.toList with
    | none => simp [hc] at h
    | some vs =>
    simp only [hc, sjj, pjj] at h
    obtain ⟨rfl, rfl⟩ := h
    have hcr := ht.evs hc
    refine .pure (v' := .func (.func f) #[] (caps.map a.eval)) (by simp [execOp, ho, hf', Instr.makeFunc]) hs (.fn f vs _ hyb (by have := hcr.1; simpa using this) (fun i u v hu hv => hcr.2 i u v hu ?_))
    rw [← Array.toList_map]
    simpa using hv
   ·cases h
 | _ => simp [evOp] at h
theorem s_fieldAddr (hT : TabOk P T) (ht : TR w0 B0 ρ t a.tmps) (hs : Sim w0 B0 ρ s w) {st : TypeId} {x : Operand} {f : Nat} (ho : o.op = .fieldAddr st x f) (h : evOp T o.op t s = some (r, s')) : OpS P w0 B0 ρ s.ctr a o s' w r := by
 rw [ho] at h
 simp only [evOp] at h
 split at h
 ·rename_i fs _ _ _ _ hi
  obtain ⟨fields, hu, hfs, hf⟩ := (hT st _ hi).sh
  cases hq : fs[f]? with
  | none => simp [hq] at h
  | some q =>
   obtain ⟨off, sz, ag⟩ := q
   obtain ⟨fl, hfl⟩ : ∃ fl, fields[f]? = some fl := ⟨fields[f]'(by rw [hfs]; exact (ges.1 hq).1), by simp⟩
   obtain ⟨e1, ⟨tf, e2, e3⟩, _⟩ := hf f fl _ hfl hq
   cases hx : ev t x with
   | none => simp [hq, hx] at h
   | some vx =>
    have hr := ht.eval hx
    generalize he : a.eval x = x' at hr
    simp only [hq, hx] at h
    have run : ∀ ad : Addr, sz ≠ 0 → x' = .pointer (some ad) → (execOp a.eval o).run P w = .ok (.value (.pointer (some (ad.add off)))) w := by
     intro ad hz hx'
     simp only at e1 e3
     simp [execOp, ho, he, hx', Instr.fieldAt, run_underlying hu, hfl, Instr.sureAddr, fieldPlace, run_sizeOf' e2, e3, hz, e1]
    cases hr with
    | ptr g j o' b st' n hρ =>
     simp only at h
     split at h
     ·cases h
     ·rename_i hz
      simp only [sjj, pjj] at h
      obtain ⟨rfl, rfl⟩ := h
      refine .pure (run _ hz rfl) hs ?_
      rw [add_eq, Nat.add_assoc]
      exact .ptr g j _ b st' n hρ
    | rop cs ad fn h1 h2 h3 h4 =>
     simp only at h
     split at h
     ·cases h
     ·rename_i hz
      split at h
      ·rename_i hle
       simp only [sjj, pjj] at h
       obtain ⟨rfl, rfl⟩ := h
       refine .pure (run _ hz rfl) hs ?_
       have had : ad = ⟨ad.block, ad.off, none⟩ := by cases ad; simp at h1; simp [h1]
       rw [had, add_eq]
       refine .rop _ _ (fun k => fn (off + k)) rfl h2 (fun k u hu => ?_) (fun k u hu => ?_)
       ·rw [List.getElem?_drop] at hu
        have := h3 _ u hu
        rw [← Nat.add_assoc] at this
        exact this
       ·rw [List.getElem?_drop] at hu
        exact h4 _ u hu
      ·cases h
    | _ => simp at h
 ·cases h
theorem s_field (hT : TabOk P T) (ht : TR w0 B0 ρ t a.tmps) (hs : Sim w0 B0 ρ s w) {st : TypeId} {x : Operand} {f : Nat} (ho : o.op = .field st x f) (h : evOp T o.op t s = some (r, s')) : OpS P w0 B0 ρ s.ctr a o s' w r := by
 rw [ho] at h
 simp only [evOp] at h
 split at h
 ·rename_i fs _ _ _ _ hi
  obtain ⟨fields, hu, hfs, hf⟩ := (hT st _ hi).sh
  cases hq : fs[f]? with
  | none => simp [hq] at h
  | some q =>
   obtain ⟨off, sz, ag⟩ := q
   obtain ⟨fl, hfl⟩ : ∃ fl, fields[f]? = some fl := ⟨fields[f]'(by rw [hfs]; exact (ges.1 hq).1), by simp⟩
   obtain ⟨e1, ⟨tf, e2, e3⟩, d, e4, e5⟩ := hf f fl _ hfl hq
   simp only at e1 e3 e5
   cases hx : ev t x with
   | none => simp [hq, hx] at h
   | some vx =>
    have hr := ht.eval hx
    generalize he : a.eval x = x' at hr
    simp only [hq, hx] at h
    cases hr with
    | agg cs arr h1 h2 =>
     simp only at h
     split at h
     ·rename_i hc
      cases hof : ofCells ag ((cs.drop off).take sz) with
      | none => simp [hof] at h
      | some v =>
       simp only [hof, sjj, pjj] at h
       obtain ⟨rfl, rfl⟩ := h
       have hcr : CR w0 B0 ρ cs arr.toList := ⟨by simpa using h1, fun i u v hu hv => h2 i u v hu (by simpa using hv)⟩
       have hv := ofCells_VR hof ((hcr.drop off).take sz)
       refine .pure ?_ hs hv
       cases ag with
       | true =>
        have ex : arr.extract off (off + sz) = (List.take sz (List.drop off arr.toList)).toArray := by
         apply Array.ext'
         simp [Array.toList_extract, List.take_drop]
        simp [execOp, ho, he, Instr.field, run_underlying hu, hfl, asAgg, part, run_isAgg' e4, e5, run_sizeOf' e2, e3, e1, ex]
       | false =>
        have h1sz : sz = 1 := hc.2 rfl
        subst h1sz
        have hlt : off < arr.size := by omega
        have eg : (List.take 1 (List.drop off arr.toList)).getD 0 Go.undef = arr[off] := by
         simp [List.getD, hlt]
        simp only [Bool.false_eq_true, if_false]
        rw [eg]
        simp [execOp, ho, he, Instr.field, run_underlying hu, hfl, asAgg, part, run_isAgg' e4, e5, e1, hlt]
     ·cases h
    | _ => simp at h
 ·cases h
theorem s_extract (ht : TR w0 B0 ρ t a.tmps) (hs : Sim w0 B0 ρ s w) {x : Operand} {i : Nat} (ho : o.op = .extract x i) (h : evOp T o.op t s = some (r, s')) : OpS P w0 B0 ρ s.ctr a o s' w r := by
 rw [ho] at h
 simp only [evOp] at h
 cases hx : ev t x with
 | none => simp [hx] at h
 | some vx =>
  have hr := ht.eval hx
  generalize he : a.eval x = x' at hr
  simp only [hx] at h
  cases hr with
  | tup vs arr h1 h2 =>
   simp only at h
   cases hv : vs[i]? with
   | none => simp [hv] at h
   | some v =>
    simp only [hv, sjj, pjj] at h
    obtain ⟨rfl, rfl⟩ := h
    have hlt : i < arr.size := by rw [← h1]; exact (ges.1 hv).1
    refine .pure (v' := arr[i]) ?_ hs (h2 i v _ hv (by simp [hlt]))
    simp [execOp, ho, he, Instr.extract, hlt]
  | _ => simp at h
end
end Go.Ab
namespace Go.Ab
open Go.RowKit
theorem cutB_eq {b : ByteArray} {l h : Nat} (h1 : l ≤ h) (h2 : h ≤ b.size) : cutB b l h = b.extract l h := by
 refine ByteArray.ext (Array.ext' ?_)
 rw [ByteArray.data_extract, Array.toList_extract, List.extract_eq_take_drop]
 rfl
section
variable {P : Program} {w0 : World} {B0 : Nat} {ρ : Loc} {s s' : St} {w : World} {T : Tab}
variable {a : Act} {o : Oper} {t : TL} {r : Res}

theorem VR.nat {u : AV} {v : Value} {n : Nat} (h : VR w0 B0 ρ u v) (hn : natA u = some n) : ∃ k m, v = .int k m ∧ 0 ≤ m ∧ m.toNat = n := by
 unfold natA at hn
 split at hn
 ·rename_i k m
  split at hn
  ·rename_i h0
   simp only [sjj] at hn
   cases h
   exact ⟨k, m, rfl, h0, hn⟩
  ·cases hn
 ·cases hn

theorem roAddr {a : Addr} (h : a.spot = none) : a = ⟨a.block, a.off, none⟩ := by cases a; simp at h; simp [h]

theorem s_indexAddr (hT : TabOk P T) (ht : TR w0 B0 ρ t a.tmps) (hs : Sim w0 B0 ρ s w) {tt : TypeId} {x y : Operand} (ho : o.op = .indexAddr tt x y) (h : evOp T o.op t s = some (r, s')) : OpS P w0 B0 ρ s.ctr a o s' w r := by
 rw [ho] at h
 simp only [evOp] at h
 cases hx : ev t x with
 | none => simp [hx] at h
 | some vx =>
  cases hy : ev t y with
  | none => simp [hx, hy] at h
  | some vy =>
   simp only [hx, hy] at h
   cases hn : natA vy with
   | none => simp [hn] at h
   | some n =>
    simp only [hn] at h
    cases hi : idxA T tt vx n with
    | none => simp [hi] at h
    | some v =>
     simp only [hi, sjj, pjj] at h
     obtain ⟨rfl, rfl⟩ := h
     obtain ⟨k, m, he, hm0, hmn⟩ := (ht.eval hy).nat hn
     have hr := ht.eval hx
     generalize hex : a.eval x = x' at hr
     have hmi : m = (n : Int) := by omega
     have runS : ∀ (e : TypeId) (ti : TypeInfo) (ad : Addr) (len c : Nat), P.underlying tt = some (.slice e) → P.info? e = some ti → x' = .slice (some ad) len c → n < len →
       (execOp a.eval o).run P w = .ok (.value (.pointer (some (ad.add (n * ti.size))))) w := by
      intro e ti ad len c hu hie hx' hlt
      have h1 : 0 ≤ m ∧ m < (len : Int) := by omega
      simp [execOp, ho, hex, he, hx', Instr.indexAt, asIntOf, run_underlying hu, run_sizeOf' hie, h1, hmn]
     have runA : ∀ (e : TypeId) (q : Nat) (ti : TypeInfo) (ad : Addr), P.underlying tt = some (.array q e) → P.info? e = some ti → x' = .pointer (some ad) → n < q →
       (execOp a.eval o).run P w = .ok (.value (.pointer (some (ad.add (n * ti.size))))) w := by
      intro e q ti ad hu hie hx' hlt
      have h1 : 0 ≤ m ∧ m < (q : Int) := by omega
      simp [execOp, ho, hex, he, hx', Instr.indexAt, Instr.sureAddr, asIntOf, run_underlying hu, run_sizeOf' hie, h1, hmn]
     unfold idxA at hi
     split at hi
     ·rename_i e _ _ _ _ g j off sz len _ _ hti
      have hu : P.underlying tt = some (.slice e) := (hT tt _ hti).sh
      cases hie : T e with
      | none => simp [hie] at hi
      | some ie =>
       simp only [hie] at hi
       split at hi
       ·rename_i hc
        simp only [sjj] at hi
        subst hi
        obtain ⟨ti, z, h1, h2, _⟩ := (hT e ie hie).info
        cases hr with
        | slc _ _ _ _ _ lo ex b st nn c A hρ q1 q2 q3 q4 q5 =>
        have hA := q4 (by omega)
        refine .pure (runS e ti A len c hu h1 rfl hc.2) hs ?_
        rw [hA, add_eq, h2, hc.1, Nat.add_assoc]
        exact .ptr g j _ b st nn hρ
       ·cases hi
     ·rename_i e _ _ _ _ nl xs hti
      have hu : P.underlying tt = some (.slice e) := (hT tt _ hti).sh
      split at hi
      ·rename_i ie x0 hie hx0
       split at hi
       ·rename_i hc
        simp only [sjj] at hi
        subst hi
        obtain ⟨ti, z, h1, h2, _⟩ := (hT e ie hie).info
        cases hr with
        | ro _ _ A c f q1 q2 q3 q4 q5 q6 =>
        have hlt : n < xs.length := (ges.1 hx0).1
        cases A with
        | none => have := q3 rfl; omega
        | some ad =>
         obtain ⟨hsp, hB⟩ := q4 ad rfl (by intro q; simp [q] at hlt)
         refine .pure (runS e ti ad xs.length c hu h1 rfl hlt) hs ?_
         rw [roAddr hsp, add_eq, h2, ← hc]
         exact .rop _ _ (fun kk => f n kk) rfl hB (fun kk u hu' => q5 n x0 hx0 kk u hu' ad rfl) (fun kk u hu' => q6 n x0 hx0 kk u hu')
       ·cases hi
      ·cases hi
     ·rename_i q e _ _ _ _ g j off hti
      have hu : P.underlying tt = some (.array q e) := (hT tt _ hti).sh
      cases hie : T e with
      | none => simp [hie] at hi
      | some ie =>
       simp only [hie] at hi
       split at hi
       ·rename_i hc
        simp only [sjj] at hi
        subst hi
        obtain ⟨ti, z, h1, h2, _⟩ := (hT e ie hie).info
        cases hr with
        | ptr _ _ _ b st nn hρ =>
        refine .pure (runA e q ti _ hu h1 rfl hc) hs ?_
        rw [add_eq, h2, Nat.add_assoc]
        exact .ptr g j _ b st nn hρ
       ·cases hi
     ·rename_i q e _ _ _ _ cs hti
      have hu : P.underlying tt = some (.array q e) := (hT tt _ hti).sh
      cases hie : T e with
      | none => simp [hie] at hi
      | some ie =>
       simp only [hie] at hi
       split at hi
       ·rename_i hc
        simp only [sjj] at hi
        subst hi
        obtain ⟨ti, z, h1, h2, _⟩ := (hT e ie hie).info
        cases hr with
        | rop _ ad f q1 q2 q3 q4 =>
        refine .pure (runA e q ti _ hu h1 rfl hc.1) hs ?_
        rw [roAddr q1, add_eq, h2]
        refine .rop _ _ (fun kk => f (n * ie.size + kk)) rfl q2 (fun kk u hu' => ?_) (fun kk u hu' => ?_)
        ·rw [List.getElem?_drop] at hu'
         have := q3 _ u hu'
         rw [← Nat.add_assoc] at this
         exact this
        ·rw [List.getElem?_drop] at hu'
         exact q4 _ u hu'
       ·cases hi
     ·cases hi

theorem wrap_small {n : Int} (h0 : 0 ≤ n) (h1 : n ≤ 140737488355328) : IntKind.i64.wrap n = n := by
 simp only [IntKind.wrap, IntKind.signed, IntKind.bits]
 simp
 omega
theorem e_makeSlice (hT : TabOk P T) (ht : TR w0 B0 ρ t a.tmps) {tt : TypeId} {x y : Operand} (ho : o.op = .makeSlice tt x y) (h : evOp T o.op t s = some (r, s')) : ∃ v cs, r = .val v ∧ s' = s.newG ⟨[⟨cs, 0, none⟩]⟩ ∧ EarlyRun P w0 B0 ρ a o w s.ctr cs v := by
 rw [ho] at h
 simp only [evOp] at h
 split at h
 ·rename_i e _ _ _ _ hti
  have hu : P.underlying tt = some (.slice e) := (hT tt _ hti).sh
  cases hie : T e with
  | none => simp [hie] at h
  | some ie =>
   simp only [hie] at h
   split at h
   ·rename_i n m hx hy
    split at h
    ·rename_i hc
     obtain ⟨c1, rfl, c3, c4, c5, c6, c7⟩ := hc
     simp only [sjj, pjj] at h
     obtain ⟨rfl, rfl⟩ := h
     have hrx := ht.eval hx
     have hry := ht.eval hy
     generalize hex : a.eval x = x' at hrx
     generalize hey : a.eval y = y' at hry
     cases hrx
     cases hry
     obtain ⟨ti, z, h1, h2, h3, h4, h5⟩ := (hT e ie hie).zeroCR
     have hz := h5 w0 B0 ρ
     have hzz := flatten_get hz (by omega) n.toNat
     have hzl : z.cells.size = ie.size := by have := hz.1; rw [Array.length_toList] at this; omega
     have hlf : (List.replicate n.toNat ie.zero).flatten.all AV.leaf = true := by
      rw [aet] at c7 ⊢
      intro u hu'
      rw [List.mem_flatten] at hu'
      obtain ⟨l, hl, hul⟩ := hu'
      rw [List.eq_of_mem_replicate hl] at hul
      exact c7 u hul
     have harr := hzz.arr
     refine ⟨_, _, rfl, rfl, _, e, (.slice (some ⟨w.heap.size, 0, none⟩) n.toNat n.toNat), ?_, harr.1, hlf, harr.2, fun ρ' hnew => .slc _ _ _ _ _ _ _ w.heap.size 0 _ n.toNat ⟨w.heap.size, 0, none⟩ hnew (nlr _) (nlr _) (fun _ => rfl) (fun _ => rfl) (by simp [c5])⟩
     have hw := wrap_small c1 c4
     have hb : ¬ ((ti.bytes : Int) * n > 2 ^ 48) := by
      have e1 : ((ie.bytes * n.toNat : Nat) : Int) = (ie.bytes : Int) * n := by
       rw [Int.natCast_mul, Int.toNat_of_nonneg c1]
      rw [h3, ← e1]
      unfold maxBytes at c3
      rw [Nat.mul_comm] at c3
      have : ((ie.bytes * n.toNat : Nat) : Int) ≤ 140737488355328 := Int.ofNat_le.2 c3
      have p48 : (2 : Int) ^ 48 = 281474976710656 := rfl
      rw [p48]
      omega
     have hn0 : ¬ n < 0 := by omega
     simp only [execOp, ho, hex, hey, Instr.makeSlice, asInt, asIntOf, Sem.run_bind, Sem.run_pure, run_underlying hu, Result.andThen_ok, run_typeInfo' h1, hw]
     have hcond : ((decide (n < 0) || decide ((ti.bytes : Int) * n > 2 ^ 48)) = true) = False := by
      simp only [Bool.or_eq_true, dtt, eq_iff_iff, iff_false, not_or]
      exact ⟨hn0, hb⟩
     simp only [Bool.or_eq_true, dtt, hn0, hb, or_self, gt_iff_lt, Int.lt_irrefl, if_false, Sem.run_bind, run_askRoom, Result.andThen_ok, run_sizeOf' h1]
     by_cases hl0 : n.toNat * ti.size = 0
     ·have hl0' : n.toNat = 0 := by rw [h2] at hl0; rcases Nat.mul_eq_zero.1 hl0 with q | q <;> omega
      rw [if_pos hl0]
      have e0 : (Array.map (fun x => (#[] : Array Value)[x % (#[] : Array Value).size]!) (Array.range (n.toNat * ti.size))) = (Array.map (fun x => z.cells[x % z.cells.size]!) (Array.range (n.toNat * ie.zero.length))) := by
       rw [hl0, hl0', Nat.zero_mul]; simp
      simp only [Sem.run_bind, Sem.run_pure, Result.andThen_ok, newRow, run_newObj, e0]
      rfl
     ·rw [if_neg hl0]
      have e1 : ti.size = ie.zero.length := by omega
      simp only [Sem.run_bind, Sem.run_pure, Result.andThen_ok, run_zeroValue' h1 h4, newRow, run_newObj, e1]
      rfl
    ·cases h
   ·cases h
 ·cases h

theorem s_makeSlice (hT : TabOk P T) (ht : TR w0 B0 ρ t a.tmps) (hs : Sim w0 B0 ρ s w) {tt : TypeId} {x y : Operand} (ho : o.op = .makeSlice tt x y) (h : evOp T o.op t s = some (r, s')) : OpS P w0 B0 ρ s.ctr a o s' w r := by
 obtain ⟨v, cs, rfl, rfl, arr, e, v', h1, h2, h3, h4, h5⟩ := e_makeSlice (P := P) (w0 := w0) (B0 := B0) (ρ := ρ) (w := w) (a := a) hT ht ho h
 obtain ⟨ρ', hle, hnew, hs'⟩ := hs.new e h2 h3 h4
 exact .val v v' _ ρ' h1 hle hs' (h5 ρ' hnew)

theorem TR.optNat (ht : TR w0 B0 ρ t a.tmps) {x : Option Operand} {n : Option Nat} (h : optNat t x = some n) :
  (x = none ∧ n = none) ∨ ∃ y k m, x = some y ∧ a.eval y = .int k m ∧ 0 ≤ m ∧ n = some m.toNat := by
 cases x with
 | none => simp only [Ab.optNat, sjj] at h; exact .inl ⟨rfl, h.symm⟩
 | some y =>
  simp only [Ab.optNat] at h
  cases hy : ev t y with
  | none => simp [hy] at h
  | some v =>
   simp only [hy] at h
   cases hn : natA v with
   | none => simp [hn] at h
   | some q =>
    simp only [hn, sjj] at h
    subst h
    obtain ⟨k, m, h1, h2, h3⟩ := (ht.eval hy).nat hn
    exact .inr ⟨y, k, m, rfl, h1, h2, by rw [h3]⟩
def OptV (x : Option Value) (n : Option Nat) : Prop := (x = none ∧ n = none) ∨ ∃ k m, x = some (.int k m) ∧ 0 ≤ m ∧ n = some m.toNat
theorem TR.optV (ht : TR w0 B0 ρ t a.tmps) {x : Option Operand} {n : Option Nat} (h : Ab.optNat t x = some n) : OptV (x.map a.eval) n := by
 rcases ht.optNat h with ⟨rfl, rfl⟩ | ⟨y, k, m, rfl, h1, h2, rfl⟩
 ·exact .inl ⟨rfl, rfl⟩
 ·exact .inr ⟨k, m, by simp [h1], h2, rfl⟩
theorem run_sliceBound {k : IntKind} {m : Int} {y : Nat} {c : BoundsCode} (h0 : 0 ≤ m) (h1 : m.toNat ≤ y) (w : World) : (Instr.sliceBound (.int k m) y c).run P w = .ok m.toNat w := by
 have h2 : 0 ≤ m ∧ m ≤ (y : Int) := by omega
 simp only [Instr.sliceBound, asIntOf, Sem.run_bind, Sem.run_pure, Result.andThen_ok, if_pos h2]
theorem run_bounds2 {q : Bool} {len cap : Nat} {lo hi : Option Value} {l h : Option Nat} (hl : OptV lo l) (hh : OptV hi h) (h1 : l.getD 0 ≤ h.getD len) (h2 : h.getD len ≤ cap) (w : World) :
  (Instr.sliceBounds q len cap lo hi none).run P w = .ok (l.getD 0, h.getD len, cap) w := by
 rcases hl with ⟨rfl, rfl⟩ | ⟨k, m, rfl, hm, rfl⟩ <;> rcases hh with ⟨rfl, rfl⟩ | ⟨k', m', rfl, hm', rfl⟩ <;>
  simp only [Option.getD_none, Option.getD_some] at h1 h2 ⊢
 ·simp [Instr.sliceBounds]
 ·simp [Instr.sliceBounds, run_sliceBound hm' h2]
 ·simp [Instr.sliceBounds, run_sliceBound hm h1]
 ·simp [Instr.sliceBounds, run_sliceBound hm' h2, run_sliceBound hm h1]
theorem run_bounds3 {q : Bool} {len cap : Nat} {lo hi mx : Option Value} {l : Option Nat} {h m : Nat} (hl : OptV lo l) (hh : OptV hi (some h)) (hm : OptV mx (some m)) (h1 : l.getD 0 ≤ h) (h2 : h ≤ m) (h3 : m ≤ cap) (w : World) :
  (Instr.sliceBounds q len cap lo hi mx).run P w = .ok (l.getD 0, h, m) w := by
 rcases hh with ⟨_, hh⟩ | ⟨k', m', rfl, hm', hh⟩
 ·cases hh
 rcases hm with ⟨_, hm⟩ | ⟨k2, m2, rfl, hm2, hm⟩
 ·cases hm
 simp only [sjj] at hh hm
 subst hh hm
 rcases hl with ⟨rfl, rfl⟩ | ⟨k, m, rfl, hm, rfl⟩ <;> simp only [Option.getD_none, Option.getD_some] at h1 ⊢
 ·simp [Instr.sliceBounds, run_sliceBound hm' h2, run_sliceBound hm2 h3]
 ·simp [Instr.sliceBounds, run_sliceBound hm' h2, run_sliceBound hm2 h3, run_sliceBound hm h1]

theorem s_slice (hT : TabOk P T) (ht : TR w0 B0 ρ t a.tmps) (hs : Sim w0 B0 ρ s w) {tt : TypeId} {x : Operand} {lo hi mx : Option Operand} (ho : o.op = .slice tt x lo hi mx) (h : evOp T o.op t s = some (r, s')) : OpS P w0 B0 ρ s.ctr a o s' w r := by
 rw [ho] at h
 simp only [evOp] at h
 cases hx : ev t x with
 | none => simp [hx] at h
 | some vx =>
 cases hl : optNat t lo with
 | none => simp [hx, hl] at h
 | some l =>
 cases hh : optNat t hi with
 | none => simp [hx, hl, hh] at h
 | some hn =>
 cases hm : optNat t mx with
 | none => simp [hx, hl, hh, hm] at h
 | some m =>
 simp only [hx, hl, hh, hm] at h
 have hao : arrOk T tt vx s = true := by
  cases hq : arrOk T tt vx s with
  | true => rfl
  | false => simp [hq] at h
 rw [if_pos hao] at h
 cases hsl : sliceA T tt vx l hn m with
 | none => simp [hsl] at h
 | some v =>
 simp only [hsl, sjj, pjj] at h
 obtain ⟨rfl, rfl⟩ := h
 have vl := ht.optV hl
 have vh := ht.optV hh
 have vm := ht.optV hm
 have hr := ht.eval hx
 have hex : (execOp a.eval o).run P w = ((Instr.sliceAt tt (a.eval x) (lo.map a.eval) (hi.map a.eval) (mx.map a.eval)).run P w).andThen fun v w => .ok (.value v) w := by
  simp only [execOp, ho, Sem.run_bind, Sem.run_pure]
 rw [show OpS P w0 B0 ρ s.ctr a o s w (.val v) = OpS P w0 B0 ρ s.ctr a o s w (.val v) from rfl]
 have fin : ∀ v' : Value, (Instr.sliceAt tt (a.eval x) (lo.map a.eval) (hi.map a.eval) (mx.map a.eval)).run P w = .ok v' w → VR w0 B0 ρ v v' → OpS P w0 B0 ρ s.ctr a o s w (.val v) :=
  fun v' h1 h2 => .pure (by rw [hex, h1]; rfl) hs h2
 clear hex
 generalize a.eval x = x' at hr fin
 generalize lo.map a.eval = lo' at vl fin
 generalize hi.map a.eval = hi' at vh fin
 generalize mx.map a.eval = mx' at vm fin
 unfold sliceA at hsl
 split at hsl
 ·-- a slice of memory of the call's own
  rename_i e _ _ _ _ g j off sz len room ex hti
  have hu : P.underlying tt = some (.slice e) := (hT tt _ hti).sh
  cases hie : T e with
  | none => simp [hie] at hsl
  | some ie =>
   simp only [hie] at hsl
   obtain ⟨ti, z, i1, i2, _⟩ := (hT e ie hie).info
   split at hsl
   ·split at hsl
    ·rename_i hc0
     obtain ⟨rfl, c1, c2, rfl⟩ := hc0
     simp only [sjj] at hsl
     subst hsl
     cases hr with
     | slc _ _ _ _ _ _ _ b st nn c A hρ q1 q2 q3 q4 q5 =>
     rcases vm with ⟨rfl, _⟩ | ⟨_, _, _, _, vm⟩
     ·refine fin (.slice (if c = l.getD 0 then some A else some (A.add (l.getD 0 * ti.size))) (hn.getD 0 - l.getD 0) (c - l.getD 0)) ?_ ?_
      ·have hb := run_bounds2 (P := P) (q := true) (len := 0) (cap := c) vl vh (by omega) (by omega) w
       simp only [Instr.sliceAt, Instr.slice, Sem.run_bind, run_underlying hu, Result.andThen_ok, hb, run_sizeOf' i1, Sem.run_pure, Option.map_some]
      ·rw [c1, c2]
       by_cases hcl : c = 0
       ·rw [if_pos hcl]
        exact .slc _ _ _ _ _ _ _ b st nn _ A hρ (by omega) (by omega) (fun hx => by have := q3 hx; omega) (fun hx => absurd hcl (by omega)) (by omega)
       ·rw [if_neg hcl]
        refine .slc _ _ _ _ _ _ _ b st nn _ _ hρ (by omega) (by omega) (fun hx => by have := q3 hx; omega) (fun _ => ?_) (by omega)
        rw [q4 (by omega), Nat.zero_mul, add_eq, Nat.add_zero]
     ·cases vm
    ·cases hsl
   ·rename_i hsz
    have hsz : ie.size = sz := Decidable.of_not_not hsz
    cases hr with
    | slc _ _ _ _ _ _ _ b st nn c A hρ q1 q2 q3 q4 q5 =>
    cases m with
    | none =>
     simp only at hsl
     split at hsl
     ·rename_i hc
      simp only [sjj] at hsl
      subst hsl
      rcases vm with ⟨rfl, _⟩ | ⟨_, _, _, _, vm⟩
      ·refine fin (.slice (if c = l.getD 0 then some A else some (A.add (l.getD 0 * ti.size))) (hn.getD len - l.getD 0) (c - l.getD 0)) ?_ ?_
       ·have hb := run_bounds2 (P := P) (q := true) (len := len) (cap := c) vl vh hc.1 (by omega) w
        simp only [Instr.sliceAt, Instr.slice, Sem.run_bind, run_underlying hu, Result.andThen_ok, hb, run_sizeOf' i1, Sem.run_pure, Option.map_some]
       ·rw [i2, hsz]
        have hle : l.getD 0 * sz ≤ c * sz := Nat.mul_le_mul_right _ (by omega)
        have hmul : (c - l.getD 0) * sz = c * sz - l.getD 0 * sz := Nat.sub_mul _ _ _
        by_cases hcl : c = l.getD 0
        ·rw [if_pos hcl]
         exact .slc _ _ _ _ _ _ _ b st nn _ A hρ (by omega) (by omega) (fun hx => by have := q3 hx; omega) (fun hx => absurd hcl (by omega)) (by omega)
        ·rw [if_neg hcl]
         refine .slc _ _ _ _ _ _ _ b st nn _ _ hρ (by omega) (by omega) (fun hx => by have := q3 hx; omega) (fun _ => ?_) (by omega)
         rw [q4 (by omega), add_eq, Nat.add_assoc]
      ·cases vm
     ·cases hsl
    | some m =>
     simp only at hsl
     split at hsl
     ·rename_i hc
      obtain ⟨c1, c2, c3, c4⟩ := hc
      cases hn with
      | none => cases c4
      | some h =>
       simp only [Option.getD_some, sjj] at c1 c2 hsl
       subst hsl
       refine fin (.slice (if m = l.getD 0 then some A else some (A.add (l.getD 0 * ti.size))) (h - l.getD 0) (m - l.getD 0)) ?_ ?_
       ·have hb := run_bounds3 (P := P) (q := true) (len := len) (cap := c) vl vh vm c1 c2 (by omega) w
        simp only [Instr.sliceAt, Instr.slice, Sem.run_bind, run_underlying hu, Result.andThen_ok, hb, run_sizeOf' i1, Sem.run_pure, Option.map_some]
       ·rw [i2, hsz]
        have hle : m * sz ≤ c * sz := Nat.mul_le_mul_right _ (by omega)
        have hle2 : l.getD 0 * sz ≤ m * sz := Nat.mul_le_mul_right _ (by omega)
        have hmul : (m - l.getD 0) * sz = m * sz - l.getD 0 * sz := Nat.sub_mul _ _ _
        by_cases hcl : m = l.getD 0
        ·rw [if_pos hcl]
         exact .slc _ _ _ _ _ _ _ b st nn _ A hρ (by omega) (by omega) (fun hx => rfl) (fun hx => absurd hcl (by omega)) (by omega)
        ·rw [if_neg hcl]
         refine .slc _ _ _ _ _ _ _ b st nn _ _ hρ (by omega) (by omega) (fun hx => rfl) (fun _ => ?_) (by omega)
         rw [q4 (by omega), add_eq, Nat.add_assoc]
     ·cases hsl
 ·-- of memory that came in
  rename_i e _ _ _ _ nl xs hti
  have hu : P.underlying tt = some (.slice e) := (hT tt _ hti).sh
  cases hie : T e with
  | none => simp [hie] at hsl
  | some ie =>
  simp only [hie] at hsl
  obtain ⟨ti, z, i1, i2, _⟩ := (hT e ie hie).info
  cases m with
  | some m => simp at hsl
  | none =>
   simp only at hsl
   split at hsl
   ·rename_i hc
    obtain ⟨c1, c2, c3⟩ := hc
    simp only [sjj] at hsl
    subst hsl
    rcases vm with ⟨rfl, _⟩ | ⟨_, _, _, _, vm⟩
    ·cases hr with
     | ro _ _ A c f q1 q2 q3 q4 q5 q6 =>
     refine fin (.slice (if c = l.getD 0 then A else A.map (·.add (l.getD 0 * ti.size))) (hn.getD xs.length - l.getD 0) (c - l.getD 0)) ?_ ?_
     ·have hb := run_bounds2 (P := P) (q := true) (len := xs.length) (cap := c) vl vh c1 (by omega) w
      simp only [Instr.sliceAt, Instr.slice, Sem.run_bind, run_underlying hu, Result.andThen_ok, hb, run_sizeOf' i1, Sem.run_pure]
     ·have hsz : ∀ (i : Nat) (x : AV), xs[i]? = some x → x.cells.length = ie.size := fun i x hx => by
       have := aet.1 c3 x (mog hx)
       simpa using this
      have hlen : ((xs.drop (l.getD 0)).take (hn.getD xs.length - l.getD 0)).length = hn.getD xs.length - l.getD 0 := by simp; omega
      have hget : ∀ (i : Nat) (x : AV), ((xs.drop (l.getD 0)).take (hn.getD xs.length - l.getD 0))[i]? = some x → xs[l.getD 0 + i]? = some x := by
       intro i x hx
       rw [List.getElem?_take] at hx
       split at hx
       ·rwa [List.getElem?_drop] at hx
       ·cases hx
      suffices hro : VR w0 B0 ρ (.ro nl ((xs.drop (l.getD 0)).take (hn.getD xs.length - l.getD 0))) (.slice (if c = l.getD 0 then A else A.map (·.add (l.getD 0 * ti.size))) ((xs.drop (l.getD 0)).take (hn.getD xs.length - l.getD 0)).length (c - l.getD 0)) by
       rw [hlen] at hro; exact hro
      refine .ro nl _ _ _ (fun i k => f (l.getD 0 + i) k) (by rw [hlen]; omega) ?_ ?_ ?_ ?_ ?_
      ·rw [q2]
       by_cases hcl : c = l.getD 0
       ·rw [if_pos hcl]
       ·rw [if_neg hcl]; cases A <;> simp
      ·intro hA
       by_cases hcl : c = l.getD 0
       ·omega
       ·rw [if_neg hcl] at hA
        cases A with
        | none => have := q3 rfl; omega
        | some ad => cases hA
      ·intro ad hA hne
       by_cases hcl : c = l.getD 0
       ·rw [if_pos hcl] at hA
        exact q4 ad hA (fun hx => hne (by simp [hx]))
       ·rw [if_neg hcl] at hA
        cases A with
        | none => cases hA
        | some ad0 =>
         simp only [Option.map_some, sjj] at hA
         subst hA
         obtain ⟨hsp, hB⟩ := q4 ad0 rfl (fun hx => hne (by simp [hx]))
         rw [roAddr hsp, add_eq]
         exact ⟨rfl, hB⟩
      ·intro i x hx k u hu' ad hA
       have hx' := hget i x hx
       have hlt : l.getD 0 + i < xs.length := (ges.1 hx').1
       have hcl : ¬ c = l.getD 0 := by omega
       rw [if_neg hcl] at hA
       cases A with
       | none => cases hA
       | some ad0 =>
        simp only [Option.map_some, sjj] at hA
        subst hA
        have hsp := (q4 ad0 rfl (by intro q; simp [q] at hlt)).1
        have h5 := q5 _ x hx' k u hu' ad0 rfl
        rw [roAddr hsp, add_eq, i2]
        dsimp only
        rw [hsz _ x hx'] at h5 ⊢
        rw [Nat.add_mul, ← Nat.add_assoc] at h5
        exact h5
      ·intro i x hx k u hu'
       exact q6 _ x (hget i x hx) k u hu'
    ·cases vm
   ·cases hsl
 ·-- of no slice
  rename_i e _ _ _ _ hti
  have hu : P.underlying tt = some (.slice e) := (hT tt _ hti).sh
  cases hie : T e with
  | none => simp [hie] at hsl
  | some ie =>
  simp only [hie] at hsl
  obtain ⟨ti, z, i1, i2, _⟩ := (hT e ie hie).info
  split at hsl
  ·rename_i hc
   obtain ⟨c1, c2, c3, c4⟩ := hc
   simp only [sjj] at hsl
   subst hsl
   cases hr
   refine fin (.slice none 0 0) ?_ .nils
   cases m with
   | none =>
    rcases vm with ⟨rfl, _⟩ | ⟨_, _, _, _, vm⟩
    ·have hb := run_bounds2 (P := P) (q := true) (len := 0) (cap := 0) vl vh (by omega) (by omega) w
     simp only [Instr.sliceAt, Instr.slice, Sem.run_bind, run_underlying hu, Result.andThen_ok, hb, run_sizeOf' i1, Sem.run_pure, c1, c2]
     simp
    ·cases vm
   | some m =>
    simp only [Option.getD_some] at c3
    subst c3
    cases hn with
    | none => have := c4 rfl; cases this
    | some h0 =>
     simp only [Option.getD_some] at c2
     subst c2
     have hb := run_bounds3 (P := P) (q := true) (len := 0) (cap := 0) vl vh vm (by omega) (nlr _) (nlr _) w
     simp only [Instr.sliceAt, Instr.slice, Sem.run_bind, run_underlying hu, Result.andThen_ok, hb, run_sizeOf' i1, Sem.run_pure, c1]
     simp
  ·cases hsl
 ·-- of an array
  rename_i n e _ _ _ _ g j off hti
  have hu : P.underlying tt = some (.array n e) := (hT tt _ hti).sh
  cases hie : T e with
  | none => simp [hie] at hsl
  | some ie =>
   simp only [hie] at hsl
   obtain ⟨ti, z, i1, i2, _⟩ := (hT e ie hie).info
   cases m with
   | some m => simp at hsl
   | none =>
    simp only at hsl
    split at hsl
    ·rename_i hc
     simp only [sjj] at hsl
     subst hsl
     obtain ⟨c1, c2, c3⟩ := hc
     rcases vm with ⟨rfl, _⟩ | ⟨_, _, _, _, vm⟩
     ·cases hr with
      | ptr _ _ _ b st nn hρ =>
      simp only [arrOk, hti, hie] at hao
      obtain ⟨cs, hcs⟩ := Option.isSome_iff_exists.1 hao
      have hroom : st + off + n * ie.size ≤ nn := by
       obtain ⟨_, G, V, hG, hV, hvr⟩ := hs.ver g j b st nn hρ
       unfold St.read at hcs
       simp only [hG] at hcs
       obtain ⟨V', hV', ⟨hm, hle⟩, _⟩ := Grp.read_spec hcs
       rw [hV] at hV'
       cases hV'
       obtain ⟨cur, e', hbk⟩ := hvr.row hm
       have := (hvr.cells hbk).2.1
       omega
      refine fin (.slice (some (if n = l.getD 0 then ⟨b, st + off, none⟩ else (⟨b, st + off, none⟩ : Addr).add (l.getD 0 * ti.size))) (hn.getD n - l.getD 0) (n - l.getD 0)) ?_ ?_
      ·have hb := run_bounds2 (P := P) (q := false) (len := n) (cap := n) vl vh c1 c2 w
       simp only [Instr.sliceAt, Instr.sureAddr, Sem.run_bind, run_underlying hu, Result.andThen_ok, hb, run_sizeOf' i1, Sem.run_pure]
      ·rw [i2]
       have hle : l.getD 0 * ie.size ≤ n * ie.size := Nat.mul_le_mul_right _ (by omega)
       have hmul : (n - l.getD 0) * ie.size = n * ie.size - l.getD 0 * ie.size := Nat.sub_mul _ _ _
       by_cases hcl : n = l.getD 0
       ·rw [if_pos hcl]
        exact .slc _ _ _ _ _ _ _ b st nn _ _ hρ (by omega) (by omega) (fun hx => rfl) (fun hx => absurd hcl (by omega)) (by omega)
       ·rw [if_neg hcl]
        refine .slc _ _ _ _ _ _ _ b st nn _ _ hρ (by omega) (by omega) (fun hx => rfl) (fun _ => ?_) (by omega)
        rw [add_eq, Nat.add_assoc]
     ·cases vm
    ·cases hsl
 ·-- of a text
  rename_i bs hti
  have hu : P.underlying tt = some .string := (hT tt _ hti).sh
  simp only at hsl
  split at hsl
  ·rename_i hc
   obtain ⟨c1, c2, rfl⟩ := hc
   simp only [sjj] at hsl
   subst hsl
   cases hr
   rcases vm with ⟨rfl, _⟩ | ⟨_, _, _, _, vm⟩
   ·refine fin (.string (bs.extract (l.getD 0) (hn.getD bs.size))) ?_ (by rw [cutB_eq c1 c2]; exact .str _)
    have hb := run_bounds2 (P := P) (q := false) (len := bs.size) (cap := bs.size) vl vh c1 c2 w
    simp [Instr.sliceAt, Instr.slice, run_underlying hu, hb]
   ·cases vm
  ·cases hsl
 ·cases hsl
end
end Go.Ab
namespace Go.Ab
open Go.RowKit
section
variable {P : Program} {w0 : World} {B0 : Nat} {ρ : Loc} {s s' : St} {w : World} {T : Tab}
variable {a : Act} {o : Oper} {t : TL} {r : Res}

theorem Sim.elems (hs : Sim w0 B0 ρ s w) {x : AV} {v : Value} (hr : VR w0 B0 ρ x v) {sz n : Nat} {ns : List AV} (hsz : sz ≠ 0) (he : s.elems sz x = some ns) (hn : x.slen = some n) :
  ∃ (X : Option Addr) (c : Nat) (vs : List Value), v = .slice X n c ∧ vs.length = n * sz ∧ CR w0 B0 ρ ns vs ∧ (X = none → n = 0 ∧ c = 0) ∧ ∀ ad, X = some ad → CellsAt w ad vs := by
 cases hr with
 | nils =>
  simp only [St.elems, AV.slen, sjj] at he hn
  subst he hn
  exact ⟨none, 0, [], rfl, by simp, CR.nil, fun _ => ⟨rfl, rfl⟩, fun ad h => by cases h⟩
 | slc g j off sz' len lo ex b st nn c A hρ q1 q2 q3 q4 q5 =>
  simp only [St.elems, AV.slen, sjj] at he hn
  subst hn
  split at he
  ·rename_i hz
   subst hz
   obtain ⟨vs, h1, h2, h3⟩ := hs.read hρ he
   refine ⟨some A, c, vs, rfl, h1, h2, (fun h => by cases h), fun ad had => ?_⟩
   cases had
   by_cases hc : c = 0
   ·have : len = 0 := by omega
    subst this
    have : vs = [] := List.eq_nil_of_length_eq_zero (by simpa using h1)
    subst this
    intro k v hv
    simp at hv
   ·rw [q4 hc]; exact h3
  ·split at he
   ·rename_i h0
    subst h0
    simp only [sjj] at he
    subst he
    exact ⟨some A, c, [], rfl, by simp, CR.nil, (fun h => by cases h), fun ad _ k v hv => by simp at hv⟩
   ·cases he
 | ro nl xs A c f q1 q2 q3 q4 q5 q6 =>
  simp only [St.elems, AV.slen, sjj] at he hn
  subst hn
  split at he
  ·rename_i hall
   simp only [sjj] at he
   subst he
   have hx : ∀ (i : Nat) (x : AV), xs[i]? = some x → x.cells.length = sz := fun i x hx => by
    have := aet.1 hall x (mog hx)
    simp only [Bool.and_eq_true, dtt] at this
    exact this.1
   have hlen : ∀ ys : List AV, (∀ (i : Nat) (x : AV), ys[i]? = some x → x.cells.length = sz) → (ys.flatMap AV.cells).length = ys.length * sz := by
    intro ys
    induction ys with
    | nil => intro _; simp
    | cons y ys ih =>
     intro h
     rw [List.flatMap_cons, laa, ih (fun i x hx => h (i + 1) x (by simpa using hx)), h 0 y rfl, lcc, Nat.add_mul]
     omega
   have hget : ∀ (ys : List AV), (∀ (i : Nat) (x : AV), ys[i]? = some x → x.cells.length = sz) → ∀ (k : Nat) (u : AV), (ys.flatMap AV.cells)[k]? = some u → ∃ x, ys[k / sz]? = some x ∧ x.cells[k % sz]? = some u := by
    intro ys
    induction ys with
    | nil => intro _ k u hu; simp at hu
    | cons y ys ih =>
     intro h k u hu
     rw [List.flatMap_cons] at hu
     have hy := h 0 y rfl
     by_cases hk : k < sz
     ·rw [gal (by omega)] at hu
      refine ⟨y, ?_, ?_⟩
      ·rw [Nat.div_eq_of_lt hk]; rfl
      ·rw [Nat.mod_eq_of_lt hk]; exact hu
     ·rw [gar (by omega), hy] at hu
      obtain ⟨x, h1, h2⟩ := ih (fun i x hx => h (i + 1) x (by simpa using hx)) _ u hu
      refine ⟨x, ?_, ?_⟩
      ·rw [Nat.div_eq_sub_div (by omega) (by omega)]
       simpa using h1
      ·rw [Nat.mod_eq_sub_mod (by omega)]
       exact h2
   let g : Nat → Value := fun k => f (k / sz) (k % sz)
   refine ⟨A, c, (List.range (xs.length * sz)).map g, rfl, by simp, ⟨by rw [hlen xs hx]; simp, fun k u v hu hv => ?_⟩, fun hA => ?_, fun ad had k v hv => ?_⟩
   ·obtain ⟨x, h1, h2⟩ := hget xs hx k u hu
    have hk : k < xs.length * sz := by have := (ges.1 hu).1; rwa [hlen xs hx] at this
    rw [gmm, List.getElem?_range hk] at hv
    simp only [Option.map_some, sjj] at hv
    subst hv
    exact q6 _ x h1 _ u h2
   ·have := q3 hA; omega
   ·have hk : k < xs.length * sz := by have := (ges.1 hv).1; simpa using this
    rw [gmm, List.getElem?_range hk] at hv
    simp only [Option.map_some, sjj] at hv
    subst hv
    have hi : k / sz < xs.length := by rw [Nat.div_lt_iff_lt_mul (by omega)]; exact hk
    have hx1 : xs[k / sz]? = some xs[k / sz] := by simp [hi]
    have hcl := hx _ _ hx1
    have hm : k % sz < sz := Nat.mod_lt _ (by omega)
    have h5 := q5 _ _ hx1 (k % sz) _ (by rw [gee (by omega)]) ad had
    have hsp := q4 ad had (by intro h; simp [h] at hi)
    rw [roAddr hsp.1, add_eq, hs.low.cell (by exact hsp.2)]
    rw [hcl] at h5
    have hdm := Nat.div_add_mod k sz
    rw [Nat.mul_comm] at hdm
    rw [Nat.add_assoc, hdm] at h5
    exact h5
  ·cases he
 | _ => simp [AV.slen] at hn

theorem run_firstCells' {v : Value} {X : Option Addr} {n c sz : Nat} {vs : List Value} (hv : v = .slice X n c) (hl : vs.length = n * sz) (hX : X = none → n = 0 ∧ c = 0) (hc : ∀ ad, X = some ad → CellsAt w ad vs) :
  (Builtin.firstCells sz n v).run P w = .ok vs.toArray w := by
 subst hv
 cases X with
 | none =>
  have := (hX rfl).1
  subst this
  have : vs = [] := List.eq_nil_of_length_eq_zero (by simpa using hl)
  subst this
  simp [Builtin.firstCells]
 | some ad =>
  have := run_loadCells_list (P := P) w ad vs (hc ad rfl)
  rw [hl] at this
  simpa [Builtin.firstCells] using this
theorem run_appendRoom (t ty e : TypeId) (i : TypeInfo) (ht : P.underlying t = some (.slice e)) (hi : P.info? e = some i) {b o sLen sCap : Nat} {cur : Array Value} {e' : TypeId} (hg : w.heap[b]? = some (.cells cur e' (0, 0)))
  {v : Value} {X : Option Addr} {n c : Nat} {vs : List Value} (hv : v = .slice X n c) (hl : vs.length = n * i.size) (hX : X = none → n = 0 ∧ c = 0) (hc : ∀ ad, X = some ad → CellsAt w ad vs) (h1 : ∀ u ∈ vs, u.oneCell' = true)
  (hroom : sLen + n ≤ sCap) (hfit : o + sLen * i.size + vs.length ≤ cur.size) :
  (Builtin.append_ #[t, t] ty #[.slice (some ⟨b, o, none⟩) sLen sCap, v]).run P w =
   .ok (.slice (some ⟨b, o, none⟩) (sLen + n) sCap) (w.setRow b (cur.toList.take (o + sLen * i.size) ++ vs ++ cur.toList.drop (o + sLen * i.size + vs.length)).toArray) := by
 have hf := run_firstCells' (P := P) hv hl hX hc
 have hst := run_storeCells_at P b (o + sLen * i.size) e' vs 0 cur w hg (by simpa using hfit) h1
 simp only [Nat.add_zero] at hst
 subst hv
 simp [Builtin.append_, run_underlying ht, sizeOf, typeInfo, hi, Builtin.lenOf, hroom, hf, add_eq, hst]
theorem run_appendNone (t ty e : TypeId) (i : TypeInfo) (ht : P.underlying t = some (.slice e)) (hi : P.info? e = some i) {A X : Option Addr} {sLen sCap c : Nat} (hA : sLen ≤ sCap) :
  (Builtin.append_ #[t, t] ty #[.slice A sLen sCap, .slice X 0 c]).run P w = .ok (.slice A sLen sCap) w := by
 have hf : (Builtin.firstCells i.size 0 (.slice X 0 c)).run P w = .ok #[] w := by
  cases X with
  | none => simp [Builtin.firstCells]
  | some ad => simp [Builtin.firstCells, loadCells, loadCellsFrom]
 cases A with
 | none => simp [Builtin.append_, run_underlying ht, sizeOf, typeInfo, hi, Builtin.lenOf, hA, hf]
 | some ad => simp [Builtin.append_, run_underlying ht, sizeOf, typeInfo, hi, Builtin.lenOf, hA, hf, storeCells]

theorem app_sound (hT : TabOk P T) (hs : Sim w0 B0 ρ s w) {tt e : TypeId} {ie : TI} (hu : P.underlying tt = some (.slice e)) (hie : T e = some ie) {va vx : AV} {a' x' : Value} (ha : VR w0 B0 ρ va a') (hx : VR w0 B0 ρ vx x')
  {n : Nat} {ns : List AV} (hn : vx.slen = some n) (hel : s.elems ie.size vx = some ns) {v : AV} (h : s.app ie.size ie.bytes va n ns = some (v, s')) (ty : TypeId) :
  ∃ v' w' ρ', (Builtin.append_ #[tt, tt] ty #[a', x']).run P w = .ok v' w' ∧ ρ.lex s.ctr ρ' ∧ Sim w0 B0 ρ' s' w' ∧ VR w0 B0 ρ' v v' := by
 obtain ⟨ti, z, i1, i2, i3, i4, i5⟩ := (hT e ie hie).zeroCR
 have hzl := (hT e ie hie).zl
 have hzs : z.cells.size = ti.size := by have := (i5 w0 B0 ρ).1; rw [Array.length_toList] at this; omega
 unfold St.app at h
 split at h
 ·cases h
 ·rename_i hc
  have c1 : ns.all AV.leaf = true := by
   cases hq : ns.all AV.leaf with
   | true => rfl
   | false => exact absurd (.inl (by simp [hq])) hc
  have c2 : ie.size ≠ 0 := fun q => hc (.inr (.inl q))
  have c3 : ns.length = n * ie.size := Decidable.of_not_not fun q => hc (.inr (.inr q))
  obtain ⟨X, c, vs, hx', hvl, hcr, hXn, hXc⟩ := hs.elems hx c2 hel hn
  have hone := hcr.leaf c1
  -- what grows lies in a new block
  have newBlock : ∀ (olds : List Value) (oc : List AV) (sLen old : Nat), CR w0 B0 ρ oc olds → oc.all AV.leaf = true → olds.length = sLen * ti.size → 0 < sLen + n →
    let arr := olds.toArray ++ vs.toArray ++ Builtin.zeroCells z.cells (grownCap w (sLen + n) old e - (sLen + n))
    (oc ++ ns).length ≤ arr.size ∧ (oc ++ ns).all AV.leaf = true ∧ arr.size = grownCap w (sLen + n) old e * ie.size ∧
     ∀ (i : Nat) (u : AV) (v : Value), (oc ++ ns)[i]? = some u → arr[i]? = some v → VR w0 B0 ρ u v := by
   intro olds oc sLen old h1 h2 h3 h4
   have hge := grownCap_ge w (sLen + n) old e
   have hsz : (olds.toArray ++ vs.toArray ++ Builtin.zeroCells z.cells (grownCap w (sLen + n) old e - (sLen + n))).size = grownCap w (sLen + n) old e * ie.size := by
    simp only [Array.size_append, List.size_toArray, size_zeroCells, hzs, h3, hvl, i2, ← Nat.add_mul]
    congr 1
    omega
   refine ⟨?_, by simp [h2, c1], hsz, fun i u v hu hv => ?_⟩
   ·rw [hsz, laa, h1.1, h3, c3, i2, ← Nat.add_mul]
    exact Nat.mul_le_mul_right _ hge
   ·have hap := h1.append hcr
    have hlt : i < (olds ++ vs).length := by rw [← hap.1]; exact (ges.1 hu).1
    refine hap.2 i u v hu ?_
    rw [← Array.getElem?_toList] at hv
    simp only [Array.toList_append] at hv
    rwa [gal hlt] at hv
  cases ha with
  | nils =>
   simp only at h
   split at h
   ·rename_i hn0
    subst hn0
    simp only [sjj, pjj] at h
    obtain ⟨rfl, rfl⟩ := h
    subst hx'
    exact ⟨_, w, ρ, run_appendNone tt ty e ti hu i1 (nlr _), Loc.lex_refl _ _, hs, .nils⟩
   ·rename_i hn0
    split at h
    ·rename_i hb
     simp only [sjj, pjj] at h
     obtain ⟨rfl, rfl⟩ := h
     cases X with
     | none => exact absurd (hXn rfl).1 hn0
     | some ad =>
      subst hx'
      have hb2 : n * ti.bytes ≤ 140737488355328 := by rw [i3]; exact hb.1
      have hb3 : n ≤ 140737488355328 := hb.2
      have hr := run_append_nil (P := P) w tt ty e ti z hu i1 i4 ad n c vs (by rw [hvl, i2]) (hXc ad rfl) (by omega) (by omega) (by omega)
      obtain ⟨k1, k2, k3, k4⟩ := newBlock [] [] 0 0 CR.nil rfl (by simp) (by omega)
      simp only [Nat.zero_add, List.nil_append] at k1 k2 k3 k4
      have e0 : (#[] ++ vs.toArray ++ Builtin.zeroCells z.cells (grownCap w n 0 e - n)) = vs.toArray ++ Builtin.zeroCells z.cells (grownCap w n 0 e - n) := by simp
      rw [e0] at k1 k3 k4
      obtain ⟨ρ', hle, hnew, hs'⟩ := hs.drew.new e k1 k2 k4
      refine ⟨_, _, ρ', hr, hle, hs', ?_⟩
      rw [k3] at hnew
      exact .slc _ _ _ _ _ _ _ w.heap.size 0 _ _ _ hnew (nlr _) (grownCap_ge w n 0 e) (by simp) (fun _ => rfl) (by simp)
    ·cases h
  | slc g j off sz' len lo ex b st nn c0 A hρ q1 q2 q3 q4 q5 =>
   simp only at h
   split at h
   ·cases h
   ·rename_i hsz
    have hsz : sz' = ie.size := Decidable.of_not_not hsz
    subst hsz
    split at h
    ·rename_i hroom
     split at h
     ·rename_i hn0
      subst hn0
      simp only [sjj, pjj] at h
      obtain ⟨rfl, rfl⟩ := h
      subst hx'
      exact ⟨_, w, ρ, run_appendNone tt ty e ti hu i1 (by omega), Loc.lex_refl _ _, hs, .slc g j off _ len lo ex b st nn c0 A hρ q1 q2 q3 q4 q5⟩
     ·rename_i hn0
      cases hw : s.write g j (off + len * ie.size) ns with
      | none => simp [hw] at h
      | some s1 =>
       simp only [hw, sjj, pjj] at h
       obtain ⟨rfl, rfl⟩ := h
       obtain ⟨cur, e', hb⟩ := hs.row hρ hw
       obtain ⟨hfit, hs'⟩ := hs.write hρ hw hcr hb
       have hA := q4 (by omega)
       subst hA
       have hr := run_appendRoom (P := P) (w := w) tt ty e ti hu i1 (o := st + off) (sLen := len) (sCap := c0) hb hx' (by rw [hvl, i2]) hXn hXc hone (by omega) (by rw [i2]; omega)
       rw [i2] at hr
       rw [← Nat.add_assoc] at hs'
       exact ⟨_, _, ρ, hr, Loc.lex_refl _ _, hs', .slc g j off _ _ lo ex b st nn c0 _ hρ hroom q2 q3 (fun _ => rfl) q5⟩
    ·rename_i hroom
     split at h
     ·rename_i hb
      have hn0 : n ≠ 0 := by omega
      cases hG : s.get g with
      | none => simp [hG] at h
      | some G =>
       simp only [hG] at h
       cases hrd : G.read j off (len * ie.size) with
       | none => simp [hrd] at h
       | some old =>
        simp only [hrd] at h
        obtain ⟨_, G1, V, hG1, hV, hvr⟩ := hs.ver g j b st nn hρ
        rw [hG] at hG1
        cases hG1
        obtain ⟨V1, hV1, ⟨hmp, hle1⟩, hold⟩ := Grp.read_spec hrd
        rw [hV] at hV1
        cases hV1
        obtain ⟨olds, o1, o2, o3⟩ := hvr.read hle1
        obtain ⟨cur, e', hbk⟩ := hvr.row hmp
        rw [← hold] at o2
        have hlfold : old.all AV.leaf = true := by
         obtain ⟨_, _, k4, _, _⟩ := hvr.cells hbk
         rw [hold, aet]
         rw [aet] at k4
         exact fun x hx => k4 x (List.mem_of_mem_drop (List.mem_of_mem_take hx))
        cases X with
        | none => exact absurd (hXn rfl).1 hn0
        | some ad =>
        subst hx'
        have hAc : CellsAt w A olds := by
         by_cases hc0 : c0 = 0
         ·have : len = 0 := by omega
          subst this
          have : olds = [] := List.eq_nil_of_length_eq_zero (by simpa using o1)
          subst this
          intro k v hv
          simp at hv
         ·rw [q4 hc0]; exact o3
        have hb2 : (len + n) * ti.bytes ≤ 140737488355328 := by rw [i3]; exact hb.1
        have hb3 : len + n ≤ 140737488355328 := hb.2
        have growRun : c0 < len + n → (Builtin.append_ #[tt, tt] ty #[.slice (some A) len c0, .slice (some ad) n c]).run P w = _ := fun hlt =>
         run_append_grow (P := P) w tt ty e ti z hu i1 i4 A len c0 olds (by rw [o1, i2]) hAc ad n c vs (by rw [hvl, i2]) (hXc ad rfl) hlt (by omega) (growslice_fits hlt hb2)
        obtain ⟨k1, k2, k3, k4⟩ := newBlock olds old len c0 o2 hlfold (by rw [o1, i2]) (by omega)
        split at h
        ·rename_i hex
         simp only [sjj, pjj] at h
         obtain ⟨rfl, rfl⟩ := h
         have hce := q3 hex
         obtain ⟨ρ', hle, hnew, hs'⟩ := hs.drew.new e k1 k2 k4
         refine ⟨_, _, ρ', growRun (by omega), hle, hs', ?_⟩
         rw [k3] at hnew
         exact .slc _ _ _ _ _ _ _ w.heap.size 0 _ _ _ hnew (nlr _) (grownCap_ge w (len + n) c0 e) (by simp) (fun _ => rfl) (by simp)
        ·simp only [hV, sjj, pjj] at h
         obtain ⟨rfl, rfl⟩ := h
         have hlt : ∀ {j x}, ρ g j = some x → j < G.vers.length := by
          intro j x hx
          obtain ⟨b, st, n⟩ := x
          obtain ⟨_, G1, V1, hG1, hV1, _⟩ := hs.ver g j b st n hx
          rw [hG] at hG1
          cases hG1
          exact (ges.1 hV1).1
         have hfresh : ρ g G.vers.length = none := by
          cases hq : ρ g G.vers.length with
          | none => rfl
          | some x => exact absurd (hlt hq) (by omega)
         by_cases hcap : len + n ≤ c0
         ·have hA := q4 (by omega)
          subst hA
          have hcs := (hvr.cells hbk).1
          have hmul : (len + n) * ie.size ≤ c0 * ie.size := Nat.mul_le_mul_right _ hcap
          rw [Nat.add_mul] at hmul
          have hfit : st + off + len * ie.size + vs.length ≤ nn := by rw [hvl]; omega
          obtain ⟨_, hs'⟩ := hs.grow_in hρ hG hV hfresh hrd hcr c1 hbk hfit
          have hr := run_appendRoom (P := P) (w := w) tt ty e ti hu i1 (o := st + off) (sLen := len) (sCap := c0) hbk rfl (by rw [hvl, i2]) hXn hXc hone hcap (by rw [i2]; omega)
          rw [i2] at hr
          rw [c3] at hs'
          exact ⟨_, _, _, hr, Loc.put_lex hfresh (.inr ⟨_, _, hρ⟩), hs', .slc g _ 0 _ _ _ _ b (st + off) nn c0 _ Loc.put_eq (nlr _) hcap (by simp) (fun _ => by simp) (by omega)⟩
         ·have hd := hs.drew.grow_new (a := V.delta + off + len * ie.size) (m := n * ie.size) (d := V.delta + off) e (hs.ctr _ _ _ hρ) hG hfresh k1 k2 k4
          refine ⟨_, _, _, growRun (by omega), Loc.put_lex hfresh (.inr ⟨_, _, hρ⟩), hd.2, ?_⟩
          rw [k3]
          exact .slc _ _ _ _ _ _ _ w.heap.size 0 _ _ _ Loc.put_eq (nlr _) (grownCap_ge w (len + n) c0 e) (by simp) (fun _ => rfl) (by simp)
     ·cases h
  | _ => simp at h

theorem run_append_nil_zeros (t u ty e : TypeId) (i : TypeInfo) (z : Value) (k : IntKind) (ht : P.underlying t = some (.slice e)) (hu : P.underlying u = some (.int k)) (hi : P.info? e = some i) (hz : i.zero = some z)
  (n : Int) (h0 : 0 < n) (h1 : n ≤ 140737488355328) (hs : i.size ≠ 0) (hb : n.toNat * i.bytes ≤ 140737488355328) :
  (Builtin.append_ #[t, u] ty #[.slice none 0 0, .int .i64 n]).run P w =
   .ok (.slice (some ⟨w.heap.size, 0, none⟩) n.toNat (grownCap w n.toNat 0 e)) (w.drew.alloc (.cells (Builtin.zeroCells z.cells n.toNat ++ Builtin.zeroCells z.cells (grownCap w n.toNat 0 e - n.toNat)) e)) := by
 obtain ⟨m, rfl⟩ : ∃ m : Nat, n = m := ⟨n.toNat, by omega⟩
 simp only [Int.toNat_natCast] at hb ⊢
 have hw := wrap_small (n := (m : Int)) (by omega) h1
 have hn : m ≠ 0 := by omega
 have h63' : ¬ (9223372036854775807 < (m : Int)) := by omega
 have h48' : ¬ (281474976710656 < Builtin.nextslicecap m 0 * i.bytes) := by rw [nextslicecap_zero (by omega)]; omega
 have h48'' : ¬ ((281474976710656 : Int) < (m : Int) * (i.bytes : Int)) := by
  have hq : ((m * i.bytes : Nat) : Int) ≤ ((140737488355328 : Nat) : Int) := Int.ofNat_le.2 hb
  rw [Int.natCast_mul] at hq
  omega
 have hneg : ¬ ((m : Int) < 0) := by omega
 simp [Builtin.append_, run_underlying ht, run_underlying hu, sizeOf, typeInfo, zeroValue, hi, hz, asInt, asIntOf, hw, hneg, h48'', hn, h63', h48', Question.forced, run_firstCells_none, newRow, grownCap]
 intro h
 rcases Nat.mul_eq_zero.1 h with h | h
 ·exact absurd h hn
 ·exact absurd h hs

theorem appZeros_sound (hT : TabOk P T) (hs : Sim w0 B0 ρ s w) {t u : TypeId} {va vx : AV} {a' x' : Value} (ha : VR w0 B0 ρ va a') (hx : VR w0 B0 ρ vx x') {v : AV} (h : appZeros T t u va vx s = some (v, s')) (ty : TypeId) :
  ∃ v' w' ρ', (Builtin.append_ #[t, u] ty #[a', x']).run P w = .ok v' w' ∧ ρ.lex s.ctr ρ' ∧ Sim w0 B0 ρ' s' w' ∧ VR w0 B0 ρ' v v' := by
 unfold appZeros at h
 split at h
 ·rename_i e _ _ _ _ k _ _ _ _ n hti hui
  have hu1 : P.underlying t = some (.slice e) := (hT t _ hti).sh
  have hu2 : P.underlying u = some (.int k) := (hT u _ hui).sh
  cases ha
  cases hx
  split at h
  ·cases h
  ·rename_i ie hie
   split at h
   ·rename_i hc
    obtain ⟨c1, c2, c3, c4, c5, c6⟩ := hc
    simp only [sjj, pjj] at h
    obtain ⟨rfl, rfl⟩ := h
    obtain ⟨ti, z, i1, i2, i3, i4, i5⟩ := (hT e ie hie).zeroCR
    have hz := i5 w0 B0 ρ
    have hzs : z.cells.size = ie.size := by have := hz.1; rw [Array.length_toList] at this; omega
    have hr := run_append_nil_zeros (P := P) (w := w) t u ty e ti z k hu1 hu2 i1 i4 n c1 c3 (by rw [i2]; exact c5) (by rw [i3]; exact c2)
    have hfl := flatten_get hz (by omega) n.toNat
    have hge := grownCap_ge w n.toNat 0 e
    have hsz : (Builtin.zeroCells z.cells n.toNat ++ Builtin.zeroCells z.cells (grownCap w n.toNat 0 e - n.toNat)).size = grownCap w n.toNat 0 e * ie.size := by
     simp only [Array.size_append, size_zeroCells, hzs, ← Nat.add_mul]
     congr 1
     omega
    have hlen : (List.replicate n.toNat ie.zero).flatten.length = n.toNat * ie.size := by simp [c4]
    have hlf : (List.replicate n.toNat ie.zero).flatten.all AV.leaf = true := by
     rw [aet]
     intro x hx
     rw [List.mem_flatten] at hx
     obtain ⟨l, hl, hxl⟩ := hx
     rw [List.mem_replicate] at hl
     rw [hl.2] at hxl
     exact aet.1 c6 x hxl
    have hmul : n.toNat * ie.size ≤ grownCap w n.toNat 0 e * ie.size := Nat.mul_le_mul_right _ hge
    obtain ⟨ρ', hle, hnew, hs'⟩ := hs.drew.new (cs := (List.replicate n.toNat ie.zero).flatten) (arr := Builtin.zeroCells z.cells n.toNat ++ Builtin.zeroCells z.cells (grownCap w n.toNat 0 e - n.toNat)) e (by rw [hsz, hlen]; exact hmul) hlf (fun i u v hu hv => by
      have hlt : i < n.toNat * ie.size := by rw [← hlen]; exact (ges.1 hu).1
      rw [Array.getElem?_append_left (by rw [size_zeroCells, hzs]; exact hlt)] at hv
      refine hfl.2 i u v hu ?_
      rw [Array.getElem?_toList]
      unfold Builtin.zeroCells at hv
      rw [hzs] at hv ⊢
      rw [c4]
      exact hv)
    refine ⟨_, _, ρ', hr, hle, hs', ?_⟩
    rw [hsz] at hnew
    exact .slc _ _ _ _ _ _ _ w.heap.size 0 _ _ _ hnew (nlr _) hge (by simp) (fun _ => rfl) (by simp)
   ·cases h
 ·cases h
end
end Go.Ab
namespace Go.Ab
open Go.RowKit
section
variable {P : Program} {w0 : World} {B0 : Nat} {ρ : Loc} {s s' : St} {w : World} {T : Tab}
variable {a : Act} {o : Oper} {t : TL} {r : Res}

def KeyIs (d : TypeDesc) (vk : AV) : Prop := (∃ k n, d = .int k ∧ vk = .int k n) ∨ ∃ b, d = .string ∧ vk = .str b
theorem keyOk_sound (hT : TabOk P T) {kt : TypeId} {vk : AV} (h : keyOk T kt vk = true) : ∃ d, P.underlying kt = some d ∧ KeyIs d vk := by
 unfold keyOk at h
 split at h
 ·split at h
  ·rename_i hi
   simp only [beq_iff_eq] at h
   subst h
   exact ⟨_, (hT kt _ hi).sh, .inl ⟨_, _, rfl, rfl⟩⟩
  ·cases h
 ·split at h
  ·rename_i hi
   exact ⟨_, (hT kt _ hi).sh, .inr ⟨_, rfl, rfl⟩⟩
  ·cases h
 ·cases h
theorem KeyIs.key {d : TypeDesc} {vk : AV} {kv : Value} (h : KeyIs d vk) (hk : VR w0 B0 ρ vk kv) : MapKept.IsKey d kv := by
 rcases h with ⟨k, n, rfl, rfl⟩ | ⟨b, rfl, rfl⟩
 ·cases hk; rfl
 ·cases hk; trivial
theorem keyEq_sound {d : TypeDesc} {vk ek : AV} {kv ev : Value} {q : Bool} (h : KeyIs d vk) (hk : VR w0 B0 ρ vk kv) (he : VR w0 B0 ρ ek ev) (hq : keyEq vk ek = some q) :
  Instr.sameNow d kv ev = some q ∧ (q = true → ev = kv) := by
 rcases h with ⟨k, n, rfl, rfl⟩ | ⟨b, rfl, rfl⟩
 ·cases hk
  cases ek with
  | int k' m =>
   cases he
   simp only [keyEq] at hq
   split at hq
   ·subst k'
    simp only [sjj] at hq
    subst hq
    exact ⟨by simp [Instr.sameNow], fun h => by simp at h; rw [h]⟩
   ·cases hq
  | _ => simp [keyEq] at hq
 ·cases hk
  cases ek with
  | str b' =>
   cases he
   simp only [keyEq, sjj] at hq
   subst hq
   exact ⟨by simp [Instr.sameNow], fun h => by rw [MapKept.bytes_beq] at h; rw [h]⟩
  | _ => simp [keyEq] at hq
theorem mpFind_sound {d : TypeDesc} {vk : AV} {kv : Value} (h : KeyIs d vk) (hk : VR w0 B0 ρ vk kv) : ∀ (es : List (AV × AV)) (l : List MapEntry) (i : Nat) (r : Option (Nat × AV)), es.length = l.length →
  (∀ (j : Nat) (e : AV × AV) (x : MapEntry), es[j]? = some e → l[j]? = some x → VR w0 B0 ρ e.1 x.key ∧ VR w0 B0 ρ e.2 x.val) → mpFind vk es i = some r →
  (r = none → Instr.findNow d kv l i = some none) ∧ ∀ j v, r = some (j, v) → ∃ n x, j = i + n ∧ Instr.findNow d kv l i = some (some (j, x.val)) ∧ l[n]? = some x ∧ VR w0 B0 ρ v x.val ∧ x.key = kv
 | [], [], i, r, _, _, hr => by
  simp only [mpFind, sjj] at hr
  subst hr
  exact ⟨fun _ => rfl, fun j v h => by cases h⟩
 | [], _ :: _, _, _, hl, _, _ => by simp at hl
 | _ :: _, [], _, _, hl, _, _ => by simp at hl
 | e :: es, x :: l, i, r, hl, hR, hr => by
  have h0 := hR 0 e x rfl rfl
  simp only [mpFind] at hr
  split at hr
  ·rename_i hq
   simp only [sjj] at hr
   subst hr
   have hs := keyEq_sound h hk h0.1 hq
   refine ⟨fun h => (by cases h), fun j v hj => ?_⟩
   cases hj
   exact ⟨0, x, rfl, by simp [Instr.findNow, hs.1], rfl, h0.2, hs.2 rfl⟩
  ·rename_i hq
   have hs := keyEq_sound h hk h0.1 hq
   obtain ⟨k1, k2⟩ := mpFind_sound h hk es l (i + 1) r (by simpa using hl) (fun j e x he hx => hR (j + 1) e x (by simpa using he) (by simpa using hx)) hr
   refine ⟨fun hn => by simp only [Instr.findNow, hs.1]; exact k1 hn, fun j v hj => ?_⟩
   obtain ⟨n, y, h1, h2, h3, h4, h5⟩ := k2 j v hj
   exact ⟨n + 1, y, by omega, by simp only [Instr.findNow, hs.1]; exact h2, by simpa using h3, h4, h5⟩
  ·cases hr

theorem Sim.new_own (hs : Sim w0 B0 ρ s w) (o : Own) (x : Obj) (n0 : Nat) (hv : ∀ (ρ' : Loc) (w' : World) (b : Nat), ρ.le ρ' → w'.heap[b]? = some x → VerR w0 B0 ρ' w' ⟨[], 0, some o⟩ b 0 n0) : ∃ ρ', ρ.lex s.ctr ρ' ∧ ρ' s.ctr 0 = some (w.heap.size, 0, n0) ∧ Sim w0 B0 ρ' (s.newOwn o) (w.alloc x) := by
 unfold St.newOwn
 have hf := hs.fresh
 have hle : ρ.le (ρ.put s.ctr 0 (w.heap.size, 0, n0)) := Loc.put_le (hf 0)
 refine ⟨_, Loc.put_lex (hf 0) (.inl (nlr _)), Loc.put_eq, ⟨hs.low.alloc hs.big _, by have := hs.big; show B0 ≤ (w.heap.push _).size; rw [Array.size_push]; omega, ?_, ?_, ?_, ?_⟩⟩
 ·intro g j b st n hp
  rcases Loc.put_inv hp with ⟨rfl, rfl, hx⟩ | hp
  ·cases hx
   exact ⟨hs.big, _, _, St.get_newG_eq _ _, rfl, hv _ _ _ hle (heap_alloc_new _ _)⟩
  ·obtain ⟨q1, G, V, q2, q3, q4⟩ := hs.ver g j b st n hp
   exact ⟨q1, G, V, by rw [St.get_newG_ne _ _ (by have := hs.ctr _ _ _ hp; omega)]; exact q2, q3, q4.mono hle (Below.heap_alloc _ _ _ (hs.blk_lt hp))⟩
 ·intro g j1 j2 b st st' n n' G V V' h1 h2 h3 h4 h5
  rcases Loc.put_inv h1 with ⟨rfl, rfl, hx⟩ | h1' <;> rcases Loc.put_inv h2 with ⟨h2a, rfl, hy⟩ | h2'
  ·cases hx; cases hy
   rw [h4] at h5; cases h5
   exact ⟨rfl, rfl⟩
  ·rw [hf] at h2'; cases h2'
  ·subst h2a; rw [hf] at h1'; cases h1'
  ·rw [St.get_newG_ne _ _ (by have := hs.ctr _ _ _ h1'; omega)] at h3
   exact hs.al _ _ _ _ _ _ _ _ _ _ _ h1' h2' h3 h4 h5
 ·intro g1 g2 j1 j2 b st st' n n' h1 h2
  rcases Loc.put_inv h1 with ⟨rfl, rfl, hx⟩ | h1' <;> rcases Loc.put_inv h2 with ⟨rfl, rfl, hy⟩ | h2'
  ·rfl
  ·cases hx; exact absurd (hs.blk_lt h2') (by omega)
  ·cases hy; exact absurd (hs.blk_lt h1') (by omega)
  ·exact hs.sep _ _ _ _ _ _ _ _ _ h1' h2'
 ·intro g j x hp
  rcases Loc.put_inv hp with ⟨rfl, _, _⟩ | hp
  ·simp [St.newG]
  ·have := hs.ctr _ _ _ hp; simp [St.newG]; omega

theorem Sim.new_map (hs : Sim w0 B0 ρ s w) : ∃ ρ', ρ.lex s.ctr ρ' ∧ ρ' s.ctr 0 = some (w.heap.size, 0, 0) ∧ Sim w0 B0 ρ' (s.newG ⟨[⟨[], 0, some (.mp [])⟩]⟩) (w.alloc (.map #[] 0)) :=
 hs.new_own (.mp []) _ 0 fun ρ' w' b hle hb => .map [] #[] 0 hb ⟨rfl, fun i e x he => by simp at he⟩ rfl rfl

theorem Sim.entries (hs : Sim w0 B0 ρ s w) {g b n : Nat} {es : List (AV × AV)} (hρ : ρ g 0 = some (b, 0, n)) (h : s.entries (.mp g) = some es) :
  ∃ ents clock V, B0 ≤ b ∧ s.get g = some ⟨[V]⟩ ∧ w.heap[b]? = some (.map ents clock) ∧ EntR w0 B0 ρ es ents := by
 simp only [St.entries] at h
 split at h
 ·rename_i V hG
  obtain ⟨q1, G, V', q2, q3, q4⟩ := hs.ver g 0 b 0 n hρ
  rw [hG] at q2
  cases q2
  simp at q3
  subst q3
  cases q4 with
  | arr c e h1 h2 h3 h4 h5 h6 => rw [h6] at h; cases h
  | map es' ents clock h1 h2 h3 h4 =>
   rw [h3] at h
   cases h
   exact ⟨ents, clock, V, q1, hG, h1, h2⟩
  | own o x h0 h1 h2 h3 h4 =>
   rw [h3] at h
   cases h2 <;> cases h
 ·cases h
theorem Sim.put_own (hs : Sim w0 B0 ρ s w) {g b n : Nat} {V : Ver} {o : Own} {x x0 : Obj} (hρ : ρ g 0 = some (b, 0, n)) (hG : s.get g = some ⟨[V]⟩) (hb : w.heap[b]? = some x0) (hv : ∀ (w' : World), w'.heap[b]? = some x → VerR w0 B0 ρ w' ⟨[], 0, some o⟩ b 0 n) :
  Sim w0 B0 ρ (s.setOwn g o) { w with heap := w.heap.setIfInBounds b x } := by
 unfold St.setOwn
 have hB := (hs.ver g 0 b 0 n hρ).1
 have h0 : ∀ {j x}, ρ g j = some x → j = 0 := by
  intro j x hx
  obtain ⟨b, st, n⟩ := x
  obtain ⟨_, G1, V1, hG1, hV1, _⟩ := hs.ver g j b st n hx
  rw [hG] at hG1
  cases hG1
  have := (ges.1 hV1).1
  simpa using this
 have hother : ∀ k, k ≠ b → (w.heap.setIfInBounds b x)[k]? = w.heap[k]? := fun k hk => Array.getElem?_setIfInBounds_ne (fun e => hk e.symm)
 have hsame : (w.heap.setIfInBounds b x)[b]? = some x := Array.getElem?_setIfInBounds_self_of_lt (Array.getElem?_eq_some_iff.1 hb).1
 refine ⟨hs.low.trans ⟨rfl, rfl, rfl, by simp, fun k hk => hother k (by omega)⟩, by simpa using hs.big, ?_, ?_, hs.sep, hs.ctr⟩
 ·intro g' j b' st n' hp
  by_cases hg : g' = g
  ·subst hg
   obtain rfl := h0 hp
   rw [hρ] at hp
   cases hp
   exact ⟨hB, _, _, St.get_setG_eq _ _ _, rfl, hv _ hsame⟩
  ·obtain ⟨q1, G, U, q2, q3, q4⟩ := hs.ver g' j b' st n' hp
   refine ⟨q1, G, U, by rw [St.get_setG_ne _ _ _ hg]; exact q2, q3, q4.mono (Loc.le_refl _) (hother b' fun hbb => ?_)⟩
   subst hbb
   exact hg (hs.sep _ _ _ _ _ _ _ _ _ hp hρ)
 ·intro g1 j1 j2 b1 st st' n1 n2 G U U' h1 h2 h3 h4 h5
  by_cases hg : g1 = g
  ·subst hg
   obtain rfl := h0 h1
   obtain rfl := h0 h2
   rw [h1] at h2
   cases h2
   rw [h4] at h5
   cases h5
   exact ⟨rfl, rfl⟩
  ·rw [St.get_setG_ne _ _ _ hg] at h3
   exact hs.al _ _ _ _ _ _ _ _ _ _ _ h1 h2 h3 h4 h5

theorem Sim.put_map (hs : Sim w0 B0 ρ s w) {g b n : Nat} {V : Ver} {es : List (AV × AV)} {ents ents0 : Array MapEntry} {clock clock0 : Nat} (hρ : ρ g 0 = some (b, 0, n)) (hG : s.get g = some ⟨[V]⟩) (hb : w.heap[b]? = some (.map ents0 clock0)) (he : EntR w0 B0 ρ es ents) :
  Sim w0 B0 ρ (s.setG g ⟨[⟨[], 0, some (.mp es)⟩]⟩) { w with heap := w.heap.setIfInBounds b (.map ents clock) } :=
 hs.put_own (o := .mp es) hρ hG hb fun w' hw => .map es ents clock hw he rfl rfl

theorem s_makeMap (hs : Sim w0 B0 ρ s w) {tt : TypeId} {x : Option Operand} (ho : o.op = .makeMap tt x) (h : evOp T o.op t s = some (r, s')) : OpS P w0 B0 ρ s.ctr a o s' w r := by
 rw [ho] at h
 cases x with
 | some x => simp [evOp] at h
 | none =>
  simp only [evOp] at h
  split at h
  ·simp only [sjj, pjj] at h
   obtain ⟨rfl, rfl⟩ := h
   obtain ⟨ρ', h1, h2, h3⟩ := hs.new_map
   refine .val _ _ _ ρ' ?_ h1 h3 (.mp _ w.heap.size 0 h2)
   simp only [execOp, ho, Sem.run_bind, Option.map_none, run_makeMap, Result.andThen_ok, Sem.run_pure]
  ·cases h

theorem s_insert (hT : TabOk P T) (ht : TR w0 B0 ρ t a.tmps) (hs : Sim w0 B0 ρ s w) {tt : TypeId} {m k x : Operand} (ho : o.op = .insert tt m k x ∨ o.op = .mapUpdate tt m k x) (h : evOp T o.op t s = some (r, s')) : OpS P w0 B0 ρ s.ctr a o s' w r := by
 have h' : evOp T (.insert tt m k x) t s = some (r, s') := by rcases ho with ho | ho <;> (rw [ho] at h; exact h)
 clear h
 have hrun : ∀ {mv kv xv : Value} {w' : World}, a.eval m = mv → a.eval k = kv → a.eval x = xv → (Instr.mapUpdate tt mv kv xv).run P w = .ok () w' → (execOp a.eval o).run P w = .ok .skip w' := by
  intro mv kv xv w' h1 h2 h3 h4
  rcases ho with ho | ho <;> simp only [execOp, ho, h1, h2, h3, Sem.run_bind, h4, Result.andThen_ok, Sem.run_pure]
 simp only [evOp] at h'
 split at h'
 ·rename_i kt _ _ _ _ _ hti
  have hm : P.underlying tt = some (.map kt _) := (hT tt _ hti).sh
  split at h'
  ·rename_i g vk vx hem hek hex
   split at h'
   ·rename_i es hes hko
    obtain ⟨d, hd, hki⟩ := keyOk_sound hT hko
    have rm := ht.eval hem
    have rk := ht.eval hek
    have rx := ht.eval hex
    generalize hmv : a.eval m = mv at rm
    cases rm with
    | mp _ b n hρ =>
    obtain ⟨ents, clock, V, q1, hG, hb, hE⟩ := hs.entries hρ hes
    have hik := hki.key rk
    split at h'
    ·rename_i hf
     simp only [sjj, pjj] at h'
     obtain ⟨rfl, rfl⟩ := h'
     have h1 := (mpFind_sound hki rk es ents.toList 0 none (by simpa using hE.1) (fun j e y he hy => hE.2 j e y he (by simpa using hy)) hf).1 rfl
     refine .skip _ (hrun (w' := { w with heap := w.heap.setIfInBounds b (.map (ents.push { key := a.eval k, val := a.eval x, born := clock }) (clock + 1)) }) hmv rfl rfl ?_) (hs.put_map hρ hG hb ⟨by simp [hE.1], fun i e y he hy => ?_⟩)
     ·simp [Instr.mapUpdate, run_underlying hm, MapKept.run_getObj_map hb, MapKept.run_checkKey hd hik, MapKept.run_findKey hd h1, MapKept.run_setObj_map _ hb, Result.andThen]
     ·rw [Array.getElem?_push] at hy
      rw [List.getElem?_append] at he
      have hl := hE.1
      split at he
      ·rw [if_neg (by omega)] at hy
       exact hE.2 i e y he hy
      ·rename_i hlt
       by_cases hi : i = ents.size
       ·rw [if_pos hi] at hy
        cases hy
        have : i - es.length = 0 := by omega
        rw [this] at he
        cases he
        exact ⟨rk, rx⟩
       ·have hn : i - es.length ≠ 0 := by omega
        obtain ⟨c, hc⟩ := Nat.exists_eq_succ_of_ne_zero hn
        rw [hc] at he
        simp at he
    ·rename_i i v hf
     simp only [sjj, pjj] at h'
     obtain ⟨rfl, rfl⟩ := h'
     obtain ⟨n', y, h0, h1, h2, h3, h4⟩ := (mpFind_sound hki rk es ents.toList 0 _ (by simpa using hE.1) (fun j e y he hy => hE.2 j e y he (by simpa using hy)) hf).2 i v rfl
     obtain rfl : i = n' := by omega
     have hj : ents[i]? = some y := by simpa using h2
     refine .skip _ (hrun (w' := { w with heap := w.heap.setIfInBounds b (.map (ents.modify i fun e => { e with key := a.eval k, val := a.eval x }) clock) }) hmv rfl rfl ?_) (hs.put_map hρ hG hb ⟨by simp [hE.1], fun i' e z he hz => ?_⟩)
     ·simp [Instr.mapUpdate, run_underlying hm, MapKept.run_getObj_map hb, MapKept.run_checkKey hd hik, MapKept.run_findKey hd h1, hj, h4, MapKept.run_keyThatStays hik, MapKept.run_setObj_map _ hb, Result.andThen]
     ·rw [Array.getElem?_modify] at hz
      rw [List.getElem?_set] at he
      by_cases hii : i = i'
      ·subst hii
       rw [if_pos rfl] at he hz
       rw [hj] at hz
       cases hz
       split at he
       ·cases he
        exact ⟨rk, rx⟩
       ·cases he
      ·rw [if_neg hii] at he hz
       exact hE.2 i' e z he hz
    ·cases h'
   ·cases h'
  ·cases h'
 ·cases h'

theorem TiOk.zeroVR {tt : TypeId} {i : TI} (h : TiOk P tt i) {v : AV} (hv : ofCells i.sh.isAgg i.zero = some v) : ∃ ti z, P.info? tt = some ti ∧ ti.zero = some z ∧ ∀ w0 B0 ρ, VR w0 B0 ρ v z := by
 obtain ⟨ti, z, h1, h2, h3, h4, h5⟩ := h.zeroCR
 obtain ⟨k1, k2⟩ := h.za ti z h1 h4
 refine ⟨ti, z, h1, h4, fun w0 B0 ρ => ?_⟩
 have hc := h5 w0 B0 ρ
 unfold ofCells at hv
 cases ha : i.sh.isAgg with
 | true =>
  obtain ⟨arr, rfl⟩ := k1 ha
  rw [ha] at hv
  simp only [if_true, sjj] at hv
  subst hv
  have hc' := hc.arr
  exact .agg _ _ (by have := hc.1; simpa [Value.cells] using this) (fun i u v hu hv => hc.2 i u v hu (by simpa [Value.cells] using hv))
 | false =>
  rw [ha] at hv
  have hz : z.cells = #[z] := by
   have := k2 ha
   cases z <;> first | rfl | (simp [Value.oneCell'] at this)
  simp only [Bool.false_eq_true, if_false] at hv
  split at hv
  ·rename_i c hcs
   simp only [sjj] at hv
   subst hv
   exact hc.2 0 c z (by rw [hcs]; rfl) (by rw [hz]; rfl)
  ·cases hv

theorem s_lookup (hT : TabOk P T) (ht : TR w0 B0 ρ t a.tmps) (hs : Sim w0 B0 ρ s w) {tt : TypeId} {m k : Operand} {ok : Bool} (ho : o.op = .lookup tt m k ok) (h : evOp T o.op t s = some (r, s')) : OpS P w0 B0 ρ s.ctr a o s' w r := by
 rw [ho] at h
 simp only [evOp] at h
 split at h
 ·rename_i kt et _ _ _ _ hti
  have hm : P.underlying tt = some (.map kt et) := (hT tt _ hti).sh
  split at h
  ·cases h
  ·rename_i ie hie
   split at h
   ·rename_i vm vk hem hek
    split at h
    ·rename_i es hes hko
     obtain ⟨d, hd, hki⟩ := keyOk_sound hT hko
     have rm := ht.eval hem
     have rk := ht.eval hek
     have hik := hki.key rk
     -- what the map holds
     obtain ⟨ents, hget, hE⟩ : ∃ ents : Array MapEntry, ((a.eval m = .map none ∧ ents = #[]) ∨ ∃ b clock, a.eval m = .map (some b) ∧ w.heap[b]? = some (.map ents clock)) ∧ EntR w0 B0 ρ es ents := by
      cases vm with
      | nilm =>
       generalize a.eval m = mv at rm
       cases rm
       simp only [St.entries, sjj] at hes
       subst hes
       exact ⟨#[], .inl ⟨rfl, rfl⟩, rfl, fun i e x he => by simp at he⟩
      | mp g =>
       generalize a.eval m = mv at rm
       cases rm with
       | mp _ b n hρ =>
       obtain ⟨ents, clock, V, q1, hG, hb, hE⟩ := hs.entries hρ hes
       exact ⟨ents, .inr ⟨b, clock, rfl, hb⟩, hE⟩
      | _ => simp [St.entries] at hes
     have hfind := fun r hr => mpFind_sound hki rk es ents.toList 0 r (by simpa using hE.1) (fun j e y he hy => hE.2 j e y he (by simpa using hy)) hr
     have hrun : ∀ {f : Option (Nat × Value)} {x : Value} {q : Bool}, Instr.findNow d (a.eval k) ents.toList 0 = some f →
       ((match f with | some (_, v) => pure (v, true) | none => do pure (← zeroValue et, false) : Sem (Value × Bool)).run P w = .ok (x, q) w) →
       (execOp a.eval o).run P w = .ok (.value (if ok then .tuple #[x, .bool q] else x)) w := by
      intro f x q hf hx
      rcases hget with ⟨hv, rfl⟩ | ⟨b, clock, hv, hb⟩
      ·simp only [execOp, ho, hv, Instr.lookup, Sem.run_bind, run_underlying hm, Result.andThen_ok, Sem.run_pure, MapKept.run_checkKey hd hik, MapKept.run_findKey hd hf]
       cases f with
       | none =>
        simp only [Sem.run_bind, Sem.run_pure] at hx ⊢
        cases hz : (zeroValue et).run P w with
        | ok z w2 =>
         simp only [hz, Result.andThen_ok, Result.ok.injEq, pjj] at hx ⊢
         obtain ⟨⟨rfl, rfl⟩, rfl⟩ := hx
         cases ok <;> simp
        | _ => simp [hz, Result.andThen] at hx
       | some p =>
        obtain ⟨j, v⟩ := p
        simp only [Sem.run_pure, Result.ok.injEq, and_true, pjj] at hx
        obtain ⟨rfl, rfl⟩ := hx
        cases ok <;> simp
      ·simp only [execOp, ho, hv, Instr.lookup, Sem.run_bind, run_underlying hm, Result.andThen_ok, Sem.run_pure, MapKept.run_getObj_map hb, MapKept.run_checkKey hd hik, MapKept.run_findKey hd hf]
       cases f with
       | none =>
        simp only [Sem.run_bind, Sem.run_pure] at hx ⊢
        cases hz : (zeroValue et).run P w with
        | ok z w2 =>
         simp only [hz, Result.andThen_ok, Result.ok.injEq, pjj] at hx ⊢
         obtain ⟨⟨rfl, rfl⟩, rfl⟩ := hx
         cases ok <;> simp
        | _ => simp [hz, Result.andThen] at hx
       | some p =>
        obtain ⟨j, v⟩ := p
        simp only [Sem.run_pure, Result.ok.injEq, and_true, pjj] at hx
        obtain ⟨rfl, rfl⟩ := hx
        cases ok <;> simp
     have fin : ∀ {v : AV} {x : Value} {q : Bool}, VR w0 B0 ρ v x → VR w0 B0 ρ (if ok then .tup [v, .bool q] else v) (if ok then .tuple #[x, .bool q] else x) := by
      intro v x q hv
      cases ok with
      | false => exact hv
      | true =>
       refine .tup _ _ rfl (fun i u y hu hy => ?_)
       match i with
       | 0 => simp at hu hy; subst hu; subst hy; exact hv
       | 1 => simp at hu hy; subst hu; subst hy; exact .bool _
       | n + 2 => simp at hu
     split at h
     ·rename_i i v hf
      simp only [sjj, pjj] at h
      obtain ⟨rfl, rfl⟩ := h
      obtain ⟨n', y, h0, h1, h2, h3, h4⟩ := (hfind _ hf).2 i v rfl
      exact .pure (hrun h1 rfl) hs (fin h3)
     ·rename_i hf
      split at h
      ·rename_i z hz
       simp only [sjj, pjj] at h
       obtain ⟨rfl, rfl⟩ := h
       obtain ⟨ti, zv, k1, k2, k3⟩ := (hT et ie hie).zeroVR hz
       exact .pure (hrun ((hfind _ hf).1 rfl) (by simp only [Sem.run_bind, run_zeroValue' k1 k2, Result.andThen_ok, Sem.run_pure])) hs (fin (k3 w0 B0 ρ))
      ·cases h
     ·cases h
    ·cases h
   ·cases h
 ·cases h
end
end Go.Ab
namespace Go.Ab
open Go.RowKit
section
variable {P : Program} {w0 : World} {B0 : Nat} {ρ : Loc} {s s' : St} {w : World} {T : Tab}
variable {a : Act} {o : Oper} {t : TL} {r : Res}

theorem VR.slen {x : AV} {v : Value} {n : Nat} (h : VR w0 B0 ρ x v) (hn : x.slen = some n) : ∃ X c, v = .slice X n c := by
 cases h <;> simp only [AV.slen, sjj] at hn <;> first | (cases hn; done) | (subst hn; exact ⟨_, _, rfl⟩)

theorem CR.one {u : AV} {vs : List Value} (h : CR w0 B0 ρ [u] vs) : ∃ v, vs = [v] ∧ VR w0 B0 ρ u v := by
 match vs, h with
 | [v], h => exact ⟨v, rfl, h.2 0 u v rfl rfl⟩
 | [], h => exact absurd h.1 (by simp)
 | _ :: _ :: _, h => exact absurd h.1 (by simp)
theorem CR.two {u u' : AV} {vs : List Value} (h : CR w0 B0 ρ [u, u'] vs) : ∃ v v', vs = [v, v'] ∧ VR w0 B0 ρ u v ∧ VR w0 B0 ρ u' v' := by
 match vs, h with
 | [v, v'], h => exact ⟨v, v', rfl, h.2 0 u v rfl rfl, h.2 1 u' v' rfl rfl⟩
 | [], h => exact absurd h.1 (by simp)
 | [_], h => exact absurd h.1 (by simp)
 | _ :: _ :: _ :: _, h => exact absurd h.1 (by simp)

theorem arr_of_list {α : Type} {x : Array α} {l : List α} (h : x.toList = l) : x = l.toArray := by rw [← h]

theorem run_copy' (dT e ty : TypeId) (ti : TypeInfo) (hu : P.underlying dT = some (.slice e)) (hi : P.info? e = some ti) {b o' dLen dCap : Nat} {cur : Array Value} {e' : TypeId} (hg : w.heap[b]? = some (.cells cur e' (0, 0)))
  {X : Option Addr} {n c m : Nat} {vs : List Value} (hm : m = min n dLen) (hvl : vs.length = m * ti.size) (hX : X = none → n = 0 ∧ c = 0) (hc : ∀ ad, X = some ad → CellsAt w ad vs) (h1 : ∀ u ∈ vs, u.oneCell' = true) (hfit : o' + vs.length ≤ cur.size) :
  (Builtin.copy_ #[dT, dT] ty #[.slice (some ⟨b, o', none⟩) dLen dCap, .slice X n c]).run P w = .ok (goInt m) (w.setRow b (cur.toList.take o' ++ vs ++ cur.toList.drop (o' + vs.length)).toArray) := by
 have hst := run_storeCells_at P b o' e' vs 0 cur w hg (by simpa using hfit) h1
 simp only [Nat.add_zero] at hst
 have hf : (Builtin.firstCells ti.size (Nat.min n dLen) (.slice X n c)).run P w = .ok vs.toArray w := by
  have hm' : Nat.min n dLen = m := hm.symm
  rw [hm']
  cases X with
  | none =>
   have h0 := (hX rfl).1
   have : m = 0 := by omega
   have : vs = [] := List.eq_nil_of_length_eq_zero (by rw [hvl, this, Nat.zero_mul])
   subst this
   simp [Builtin.firstCells]
  | some ad =>
   have := run_loadCells_list (P := P) w ad vs (hc ad rfl)
   rw [hvl] at this
   simpa [Builtin.firstCells] using this
 simp [Builtin.copy_, run_underlying hu, Builtin.lenOf, run_sizeOf' hi, hf, hst]
 simp [hm]

theorem callA_sound (hT : TabOk P T) (hs : Sim w0 B0 ρ s w) {b : Builtin} {tys : Array TypeId} {args : List AV} {args' : Array Value} (hr : CR w0 B0 ρ args args'.toList) {v : AV} (h : callA T b tys.toList args s = some (v, s')) (ty : TypeId) (cs : Array Bool) :
  ∃ v' w' ρ', (builtin b tys ty cs args').run P w = .ok (.value v') w' ∧ ρ.lex s.ctr ρ' ∧ Sim w0 B0 ρ' s' w' ∧ VR w0 B0 ρ' v v' := by
 generalize htl : tys.toList = tl at h
 unfold callA at h
 split at h
 ·-- len
  rename_i t x
  obtain ⟨x', hv, hx⟩ := hr.one
  obtain rfl := arr_of_list htl
  obtain rfl := arr_of_list hv
  have pure_ : ∀ v' : Value, (Builtin.len_ #[t] ty #[x']).run P w = .ok v' w → s' = s → VR w0 B0 ρ v v' → _ := fun v' h1 h2 h3 =>
   (⟨v', w, ρ, by simp only [builtin, Sem.run_bind, Sem.run_pure, h1, Result.andThen_ok], Loc.lex_refl _ _, by rw [h2]; exact hs, h3⟩ :
     ∃ v' w' ρ', (builtin .len #[t] ty cs #[x']).run P w = .ok (.value v') w' ∧ ρ.lex s.ctr ρ' ∧ Sim w0 B0 ρ' s' w' ∧ VR w0 B0 ρ' v v')
  cases hle : lenA T t x with
  | none => simp [hle] at h
  | some n =>
   simp only [hle, sjj, pjj] at h
   obtain ⟨rfl, rfl⟩ := h
   unfold lenA at hle
   cases hti : T t with
   | none => simp [hti] at hle
   | some i =>
    simp only [hti] at hle
    have hsh := (hT t i hti).sh
    split at hle
    ·rename_i e he
     rw [he] at hsh
     have hu : P.underlying t = some (.slice e) := hsh
     obtain ⟨X, c, rfl⟩ := hx.slen hle
     exact pure_ (.int .i64 n) (by simp [Builtin.len_, run_underlying hu, goInt]) rfl (.int _ _)
    ·rename_i he
     rw [he] at hsh
     have hu : P.underlying t = some .string := hsh
     split at hle
     ·cases hx
      simp only [sjj] at hle
      subst hle
      exact pure_ (.int .i64 _) (by simp [Builtin.len_, run_underlying hu, goInt]) rfl (.int _ _)
     ·cases hle
    ·rename_i q e he
     rw [he] at hsh
     have hu : P.underlying t = some (.array q e) := hsh
     simp only [sjj] at hle
     subst hle
     exact pure_ (.int .i64 q) (by simp [Builtin.len_, run_underlying hu, goInt]) rfl (.int _ _)
    ·cases hle
 ·-- cap
  rename_i t x
  obtain ⟨x', hv, hx⟩ := hr.one
  obtain rfl := arr_of_list htl
  obtain rfl := arr_of_list hv
  split at h
  ·rename_i e _ _ _ _ hti
   have hu : P.underlying t = some (.slice e) := (hT t _ hti).sh
   cases hx
   simp only [sjj, pjj] at h
   obtain ⟨rfl, rfl⟩ := h
   exact ⟨.int .i64 0, w, ρ, by simp [builtin, Builtin.cap_, run_underlying hu, goInt], Loc.lex_refl _ _, hs, .int _ _⟩
  ·rename_i e _ _ _ _ _ _ _ _ _ lo hti
   have hu : P.underlying t = some (.slice e) := (hT t _ hti).sh
   cases hx with
   | slc _ _ _ _ _ _ _ b st nn c A hρ q1 q2 q3 q4 q5 =>
   simp only [sjj, pjj] at h
   obtain ⟨rfl, rfl⟩ := h
   have := q3 rfl
   subst this
   exact ⟨.int .i64 c, w, ρ, by simp [builtin, Builtin.cap_, run_underlying hu, goInt], Loc.lex_refl _ _, hs, .int _ _⟩
  ·cases h
 ·-- append
  rename_i t t' x y
  obtain ⟨x', y', hv, hx, hy⟩ := hr.two
  obtain rfl := arr_of_list htl
  obtain rfl := arr_of_list hv
  split at h
  ·obtain ⟨v', w', ρ', h1, h2, h3, h4⟩ := appZeros_sound hT hs hx hy h ty
   refine ⟨v', w', ρ', ?_, h2, h3, h4⟩
   simp only [builtin, Sem.run_bind, Sem.run_pure]
   rw [h1]
   rfl
  ·rename_i htt
   have htt : t = t' := Decidable.of_not_not htt
   subst htt
   split at h
   ·rename_i e _ _ _ _ hti
    have hu : P.underlying t = some (.slice e) := (hT t _ hti).sh
    cases hie : T e with
    | none => simp [hie] at h
    | some ie =>
     simp only [hie] at h
     split at h
     ·rename_i n ns hn hel
      obtain ⟨v', w', ρ', h1, h2, h3, h4⟩ := app_sound hT hs hu hie hx hy hn hel h ty
      refine ⟨v', w', ρ', ?_, h2, h3, h4⟩
      simp only [builtin, Sem.run_bind, Sem.run_pure]
      rw [h1]
      rfl
     ·cases h
   ·cases h
 ·-- copy
  rename_i t t' d x
  obtain ⟨d', x', hv, hd, hx⟩ := hr.two
  obtain rfl := arr_of_list htl
  obtain rfl := arr_of_list hv
  split at h
  ·cases h
  ·rename_i htt
   have htt : t = t' := Decidable.of_not_not htt
   subst htt
   split at h
   ·rename_i e _ _ _ _ hti
    have hu : P.underlying t = some (.slice e) := (hT t _ hti).sh
    cases hie : T e with
    | none => simp [hie] at h
    | some ie =>
     simp only [hie] at h
     obtain ⟨ti, z, i1, i2, _⟩ := (hT e ie hie).info
     split at h
     ·rename_i n ns g j off sz len lo ex hn hel
      split at h
      ·rename_i hc
       obtain ⟨rfl, hz⟩ := hc
       cases hw : s.write g j off (ns.take (min n len * ie.size)) with
       | none => simp [hw] at h
       | some s1 =>
        simp only [hw, sjj, pjj] at h
        obtain ⟨rfl, rfl⟩ := h
        obtain ⟨X, c, vs, rfl, hvl, hcr, hXn, hXc⟩ := hs.elems hx hz hel hn
        cases hd with
        | slc _ _ _ _ _ _ _ b st nn c0 A hρ q1 q2 q3 q4 q5 =>
        obtain ⟨cur, e', hb⟩ := hs.row hρ hw
        obtain ⟨_, _, _, _, _, hlf⟩ := St.write_spec hw
        have hcr' := hcr.take (min n len * ie.size)
        obtain ⟨hfit, hs'⟩ := hs.write hρ hw hcr' hb
        have hmn : min n len ≤ n := Nat.min_le_left _ _
        have hml : (vs.take (min n len * ie.size)).length = min n len * ie.size := by
         rw [List.length_take, hvl]
         exact Nat.min_eq_left (Nat.mul_le_mul_right _ hmn)
        have hcc : ∀ ad, X = some ad → CellsAt w ad (vs.take (min n len * ie.size)) := fun ad had k v hv => by
         rw [List.getElem?_take] at hv
         split at hv
         ·exact hXc ad had k v hv
         ·cases hv
        by_cases hc0 : c0 = 0
        ·-- an empty place: nothing is written
         have hl0 : len = 0 := by omega
         subst hl0
         have hm0 : min n 0 = 0 := by omega
         have hvz : vs.take (min n 0 * ie.size) = [] := List.eq_nil_of_length_eq_zero (by rw [hml, hm0, Nat.zero_mul])
         rw [hvz] at hs'
         simp only [List.append_nil, lnn, Nat.add_zero, List.take_append_drop, Array.toArray_toList] at hs'
         rw [setRow_self w b cur e' (0, 0) hb] at hs'
         refine ⟨.int .i64 0, w, ρ, ?_, Loc.lex_refl _ _, hs', by rw [hm0]; exact .int _ _⟩
         have hm1 : Nat.min n 0 = 0 := hm0
         have hf0 : (Builtin.firstCells ti.size 0 (.slice X n c)).run P w = .ok #[] w := by
          cases X with
          | none => simp [Builtin.firstCells]
          | some ad => simp [Builtin.firstCells, loadCells, loadCellsFrom]
         simp [builtin, Builtin.copy_, run_underlying hu, Builtin.lenOf, run_sizeOf' i1, hf0, storeCells, goInt]
        ·have hA := q4 hc0
         subst hA
         have hrun := run_copy' (P := P) (w := w) t e ty ti hu i1 (dLen := len) (dCap := c0) hb (n := n) (c := c) (m := min n len) rfl (by rw [hml, i2]) hXn hcc (hcr'.leaf hlf) hfit
         refine ⟨.int .i64 (min n len : Nat), _, ρ, ?_, Loc.lex_refl _ _, hs', .int _ _⟩
         simp only [builtin, Sem.run_bind, Sem.run_pure]
         rw [hrun]
         rfl
      ·cases h
     ·cases h
   ·cases h
 ·-- max
  rename_i k x k' y
  obtain ⟨x', y', hv, hx, hy⟩ := hr.two
  obtain rfl := arr_of_list hv
  cases hx
  cases hy
  split at h
  ·rename_i hk
   subst hk
   simp only [sjj, pjj] at h
   obtain ⟨rfl, rfl⟩ := h
   exact ⟨_, w, ρ, by simp [builtin, Builtin.max_, Builtin.max2], Loc.lex_refl _ _, hs, .int _ _⟩
  ·cases h
 ·rename_i k x k' y
  obtain ⟨x', y', hv, hx, hy⟩ := hr.two
  obtain rfl := arr_of_list hv
  cases hx
  cases hy
  split at h
  ·rename_i hk
   subst hk
   simp only [sjj, pjj] at h
   obtain ⟨rfl, rfl⟩ := h
   exact ⟨_, w, ρ, by simp [builtin, Builtin.min_, Builtin.min2], Loc.lex_refl _ _, hs, .int _ _⟩
  ·cases h
 ·cases h

theorem s_call (hT : TabOk P T) (ht : TR w0 B0 ρ t a.tmps) (hs : Sim w0 B0 ρ s w) {c : Call} (ho : o.op = .call c) (h : evOp T o.op t s = some (r, s')) : OpS P w0 B0 ρ s.ctr a o s' w r := by
 rw [ho] at h
 simp only [evOp] at h
 split at h
 ·rename_i f hc
  split at h
  ·rename_i g caps args hf hargs
   simp only [sjj, pjj] at h
   obtain ⟨rfl, rfl⟩ := h
   have hrf := ht.eval hf
   have hra := ht.evs hargs
   generalize hef : a.eval f = f' at hrf
   cases hrf with
   | yld gr b n hρ =>
    refine .round gr _ (c.args.map a.eval) b n hρ (by simp only [execOp, ho, resolve, hc, hef, Deferred.ofValue, Sem.run_bind, Sem.run_pure, Result.andThen_ok, invoke, callFunc]; simp) hs ?_
    rw [List.append_nil, Array.toList_map]
    exact hra
   | fn _ _ arr h0 h1 h2 =>
   refine .call g _ (c.args.map a.eval ++ arr) h0 ?_ hs ?_
   ·simp only [execOp, ho, resolve, hc, hef, Deferred.ofValue, Sem.run_bind, Sem.run_pure, Result.andThen_ok, invoke, Array.empty_append]
   ·rw [Array.toList_append, Array.toList_map]
    exact hra.append ⟨by simpa using h1, fun i u v hu hv => h2 i u v hu (by simpa using hv)⟩
  ·rename_i g first args hf hargs
   simp only [sjj, pjj] at h
   obtain ⟨rfl, rfl⟩ := h
   have hrf := ht.eval hf
   have hra := ht.evs hargs
   generalize hef : a.eval f = f' at hrf
   cases hrf with
   | mv _ _ arr h0 h1 h2 =>
   refine .call g _ (arr ++ c.args.map a.eval) h0 ?_ hs ?_
   ·simp only [execOp, ho, resolve, hc, hef, Deferred.ofValue, Sem.run_bind, Sem.run_pure, Result.andThen_ok, invoke, Array.append_empty]
   ·rw [Array.toList_append, Array.toList_map]
    exact CR.append ⟨by simpa using h1, fun i u v hu hv => h2 i u v hu (by simpa using hv)⟩ hra
  ·cases h
 ·rename_i b hc
  cases hargs : evs t c.args.toList with
  | none => simp [hargs] at h
  | some args =>
   simp only [hargs] at h
   cases hca : callA T b c.argTypes.toList args s with
   | none => simp [hca] at h
   | some vs =>
    obtain ⟨v, s1⟩ := vs
    simp only [hca, sjj, pjj] at h
    obtain ⟨rfl, rfl⟩ := h
    have hra := ht.evs hargs
    rw [← Array.toList_map] at hra
    obtain ⟨v', w', ρ', h1, h2, h3, h4⟩ := callA_sound hT hs hra hca o.type (c.args.map fun | .const _ => true | _ => false)
    refine .val v v' w' ρ' ?_ h2 h3 h4
    simp only [execOp, ho, resolve, hc, Sem.run_bind, Sem.run_pure, Result.andThen_ok, invoke]
    exact h1
 ·cases h

theorem s_index (hT : TabOk P T) (ht : TR w0 B0 ρ t a.tmps) (hs : Sim w0 B0 ρ s w) {tt : TypeId} {x i : Operand} (ho : o.op = .index tt x i) (h : evOp T o.op t s = some (r, s')) : OpS P w0 B0 ρ s.ctr a o s' w r := by
 rw [ho] at h
 simp only [evOp] at h
 split at h
 ·rename_i bs vi hti hx hi
  have hu : P.underlying tt = some .string := (hT tt _ hti).sh
  split at h
  ·cases h
  ·rename_i n hn
   split at h
   ·rename_i c hc
    simp only [sjj, pjj] at h
    obtain ⟨rfl, rfl⟩ := h
    have rx := ht.eval hx
    have ri := ht.eval hi
    generalize hex : a.eval x = x' at rx
    generalize hei : a.eval i = i' at ri
    cases rx
    obtain ⟨k, m, rfl, h0, rfl⟩ := ri.nat hn
    refine .pure (v' := .int .u8 c.toNat) ?_ hs (.int _ _)
    have hlt : m.toNat < bs.size := by
     rcases Nat.lt_or_ge m.toNat bs.size with q | q
     ·exact q
     ·rw [getElem?_neg bs m.toNat (by omega)] at hc; cases hc
    simp [execOp, ho, hex, hei, Instr.index, asIntOf, run_underlying hu, h0, hc]
   ·cases h
 ·rename_i m e _ _ _ _ cs vi hti hx hi
  have hu : P.underlying tt = some (.array m e) := (hT tt _ hti).sh
  split at h
  ·rename_i n ie hn hie
   split at h
   ·rename_i hc
    obtain ⟨h1, h2, h3⟩ := hc
    cases hof : ofCells ie.sh.isAgg ((cs.drop (n * ie.size)).take ie.size) with
    | none => simp [hof] at h
    | some v =>
     simp only [hof, sjj, pjj] at h
     obtain ⟨rfl, rfl⟩ := h
     have rx := ht.eval hx
     have ri := ht.eval hi
     generalize hex : a.eval x = x' at rx
     generalize hei : a.eval i = i' at ri
     obtain ⟨k, q, rfl, h0, rfl⟩ := ri.nat hn
     cases rx with
     | agg _ arr hl hr =>
     obtain ⟨ti, z, i1, i2, _⟩ := (hT e ie hie).info
     obtain ⟨d, d1, d2⟩ := (hT e ie hie).sh.under
     have hcr : CR w0 B0 ρ cs arr.toList := ⟨by simpa using hl, fun i u v hu hv => hr i u v hu (by simpa using hv)⟩
     have hv := ofCells_VR hof ((hcr.drop (q.toNat * ie.size)).take ie.size)
     have hq : 0 ≤ q ∧ q < (m : Int) := ⟨h0, by omega⟩
     refine .pure ?_ hs hv
     cases hag : ie.sh.isAgg with
     | true =>
      have ex : arr.extract (q.toNat * ie.size) (q.toNat * ie.size + ie.size) = (List.take ie.size (List.drop (q.toNat * ie.size) arr.toList)).toArray := by
       apply Array.ext'
       simp [Array.toList_extract, List.take_drop]
      rw [hag] at d2
      simp [execOp, ho, hex, hei, Instr.index, asIntOf, run_underlying hu, run_sizeOf' i1, i2, hq, part, run_isAgg' d1, d2, ex]
     | false =>
      rw [hag] at d2 h3
      have h1sz := h3 rfl
      have hlt : q.toNat < arr.size := by rw [h1sz] at h2; omega
      have eg : (List.take ie.size (List.drop (q.toNat * ie.size) arr.toList)).getD 0 Go.undef = arr[q.toNat] := by
       rw [h1sz]; simp [List.getD, hlt]
      simp only [Bool.false_eq_true, if_false]
      rw [eg]
      simp [execOp, ho, hex, hei, Instr.index, asIntOf, run_underlying hu, run_sizeOf' i1, i2, hq, part, run_isAgg' d1, d2, h1sz, hlt]
   ·cases h
  ·cases h
 ·cases h
theorem s_makeInterface (hT : TabOk P T) (ht : TR w0 B0 ρ t a.tmps) (hs : Sim w0 B0 ρ s w) {tt : TypeId} {x : Operand} (ho : o.op = .makeInterface tt x) (h : evOp T o.op t s = some (r, s')) : OpS P w0 B0 ρ s.ctr a o s' w r := by
 rw [ho] at h
 simp only [evOp] at h
 split at h
 ·rename_i i v hti hx
  split at h
  ·cases h
  ·rename_i hif
   simp only [sjj, pjj] at h
   obtain ⟨rfl, rfl⟩ := h
   obtain ⟨d, h1, h2⟩ := (hT tt i hti).sh.nif (by simpa using hif)
   refine .pure (v' := .iface tt (a.eval x)) ?_ hs (.iface _ _ _ (ht.eval hx))
   cases d <;> first | (cases h2; done) | simp [execOp, ho, Instr.makeInterface, run_underlying h1]
 ·cases h
theorem s_typeAssert (hT : TabOk P T) (ht : TR w0 B0 ρ t a.tmps) (hs : Sim w0 B0 ρ s w) {x : Operand} {xt at' : TypeId} {ok : Bool} (ho : o.op = .typeAssert x xt at' ok) (h : evOp T o.op t s = some (r, s')) : OpS P w0 B0 ρ s.ctr a o s' w r := by
 rw [ho] at h
 simp only [evOp] at h
 split at h
 ·rename_i i v hti hx
  split at h
  ·cases h
  ·rename_i hif
   obtain ⟨d, h1, h2⟩ := (hT at' i hti).sh.nif (by simpa using hif)
   split at h
   ·rename_i rr hr
    simp only [sjj, pjj] at h
    obtain ⟨rfl, rfl⟩ := h
    have rx := ht.eval hx
    generalize hex : a.eval x = x' at rx
    unfold assertA at hr
    split at hr
    ·rename_i t' v
     cases rx with
     | iface _ _ v' hv =>
     split at hr
     ·rename_i he
      subst he
      cases hr
      cases ok with
      | true =>
       refine .pure (v' := .tuple #[v', .bool true]) ?_ hs (.tup _ _ rfl fun k u y hu hy => ?_)
       ·cases d <;> first | (cases h2; done) | simp [execOp, ho, hex, Instr.typeAssert, run_underlying h1]
       ·match k, hu, hy with
        | 0, hu, hy => simp at hu hy; subst hu hy; exact hv
        | 1, hu, hy => simp at hu hy; subst hu hy; exact .bool _
      | false =>
       refine .pure (v' := v') ?_ hs hv
       cases d <;> first | (cases h2; done) | simp [execOp, ho, hex, Instr.typeAssert, run_underlying h1]
     ·rename_i hne
      split at hr
      ·rename_i hok
       subst hok
       split at hr
       ·rename_i zz hzz
        cases hr
        obtain ⟨ti, z, i1, i2, i3⟩ := (hT at' i hti).zeroVR hzz
        have hrun := run_zeroValue' (P := P) i1 i2 w
        refine .pure (v' := .tuple #[z, .bool false]) ?_ hs (.tup _ _ rfl fun k u y hu hy => ?_)
        ·cases d <;> first | (cases h2; done) | simp [execOp, ho, hex, Instr.typeAssert, run_underlying h1, hne, hrun]
        ·match k, hu, hy with
         | 0, hu, hy => simp at hu hy; subst hu hy; exact i3 _ _ _
         | 1, hu, hy => simp at hu hy; subst hu hy; exact .bool _
       ·cases hr
      ·cases hr
    ·cases rx
     split at hr
     ·rename_i hok
      subst hok
      split at hr
      ·rename_i zz hzz
       cases hr
       obtain ⟨ti, z, i1, i2, i3⟩ := (hT at' i hti).zeroVR hzz
       have hrun := run_zeroValue' (P := P) i1 i2 w
       refine .pure (v' := .tuple #[z, .bool false]) ?_ hs (.tup _ _ rfl fun k u y hu hy => ?_)
       ·cases d <;> first | (cases h2; done) | simp [execOp, ho, hex, Instr.typeAssert, run_underlying h1, hrun]
       ·match k, hu, hy with
        | 0, hu, hy => simp at hu hy; subst hu hy; exact i3 _ _ _
        | 1, hu, hy => simp at hu hy; subst hu hy; exact .bool _
      ·cases hr
     ·cases hr
    ·cases hr
   ·cases h
 ·cases h
theorem op_sound (hT : TabOk P T) (ht : TR w0 B0 ρ t a.tmps) (hs : Sim w0 B0 ρ s w) (h : evOp T o.op t s = some (r, s')) : OpS P w0 B0 ρ s.ctr a o s' w r := by
 cases ho : o.op with
 | move x => exact s_move ht hs (.inl ho) h
 | assign x => exact s_move ht hs (.inr ho) h
 | pick c x y => exact s_pick ht hs ho h
 | alloc e => exact s_alloc hT hs ho h
 | box e x => exact s_box ht hs ho h
 | build t ps => exact s_build hT ht hs ho h
 | buildSlice t n ps => exact s_buildSlice hT ht hs ho h
 | load t x => exact s_load hT ht hs ho h
 | store t x y => exact s_store hT ht hs ho h
 | nilCheck x => exact s_nilCheck ht hs ho h
 | binOp op xt x y yt => exact s_binOp hT ht hs ho h
 | unOp op xt x => exact s_unOp ht hs ho h
 | convert src dst x => exact s_convert hT ht hs ho h
 | makeFunc f first caps => exact s_makeFunc ht hs ho h
 | makeSlice t x y => exact s_makeSlice hT ht hs ho h
 | slice t x lo hi mx => exact s_slice hT ht hs ho h
 | fieldAddr t x f => exact s_fieldAddr hT ht hs ho h
 | field t x f => exact s_field hT ht hs ho h
 | indexAddr t x i => exact s_indexAddr hT ht hs ho h
 | extract x i => exact s_extract ht hs ho h
 | makeMap t x => exact s_makeMap hs ho h
 | insert t m k x => exact s_insert hT ht hs (.inl ho) h
 | mapUpdate t m k x => exact s_insert hT ht hs (.inr ho) h
 | lookup t m k ok => exact s_lookup hT ht hs ho h
 | call c => exact s_call hT ht hs ho h
 | index t x i => exact s_index hT ht hs ho h
 | makeInterface t x => exact s_makeInterface hT ht hs ho h
 | typeAssert x xt at' ok => exact s_typeAssert hT ht hs ho h
 | _ => rw [ho] at h; simp [evOp] at h
end
end Go.Ab
namespace Go.Ab
section
variable {T : Tab}

structure Ext (s s' : St) : Prop where
 ctr : s.ctr ≤ s'.ctr
 wr : ∃ l, s'.wr = l ++ s.wr ∧ ∀ g, g ∉ l → s'.get g = s.get g
theorem Ext.refl (s : St) : Ext s s := ⟨nlr _, [], rfl, fun _ _ => rfl⟩
theorem Ext.trans {a b c : St} (h : Ext a b) (k : Ext b c) : Ext a c := by
 obtain ⟨l, h1, h2⟩ := h.wr
 obtain ⟨m, k1, k2⟩ := k.wr
 refine ⟨Nat.le_trans h.ctr k.ctr, m ++ l, by rw [k1, h1, aas], fun g hg => ?_⟩
 rw [List.mem_append, not_or] at hg
 rw [k2 g hg.1, h2 g hg.2]
theorem Ext.newG (s : St) (G : Grp) : Ext s (s.newG G) := ⟨by simp [St.newG], [s.ctr], rfl, fun g hg => St.get_newG_ne _ _ (by simpa using hg)⟩
theorem Ext.setG (s : St) (g : Nat) (G : Grp) : Ext s (s.setG g G) := ⟨by simp [St.setG], [g], rfl, fun k hk => St.get_setG_ne _ _ _ (by simpa using hk)⟩
theorem Ext.write {s s' : St} {g j off : Nat} {cs : List AV} (h : s.write g j off cs = some s') : Ext s s' := by
 unfold St.write at h
 repeat' split at h
 all_goals first | (cases h; done) | (simp only [sjj] at h; subst h; exact Ext.setG _ _ _)
theorem Ext.app {s s' : St} {sz bytes n : Nat} {a v : AV} {ns : List AV} (h : s.app sz bytes a n ns = some (v, s')) : Ext s s' := by
 unfold St.app at h
 repeat' split at h
 all_goals first
  | (cases h; done)
  | (simp only [sjj, pjj] at h; obtain ⟨_, rfl⟩ := h; first | exact Ext.refl _ | exact Ext.newG _ _ | exact Ext.setG _ _ _ | (exact Ext.write (by assumption)))
theorem Ext.zeros {s s' : St} {t t' : TypeId} {a x v : AV} (h : appZeros T t t' a x s = some (v, s')) : Ext s s' := by
 unfold appZeros at h
 repeat' split at h
 all_goals first | (cases h; done) | (simp only [sjj, pjj] at h; obtain ⟨_, rfl⟩ := h; exact Ext.newG _ _)
theorem Ext.callA {s s' : St} {b : Builtin} {tys : List TypeId} {args : List AV} {v : AV} (h : Ab.callA T b tys args s = some (v, s')) : Ext s s' := by
 unfold Ab.callA at h
 repeat' split at h
 all_goals first
  | (cases h; done)
  | (exact Ext.app h)
  | (exact Ext.zeros h)
  | (simp only [sjj, pjj] at h; obtain ⟨_, rfl⟩ := h; first | exact Ext.refl _ | (exact Ext.write (by assumption)))
theorem Ext.op {o : Op} {t : TL} {s s' : St} {r : Res} (h : evOp T o t s = some (r, s')) : Ext s s' := by
 cases o <;> simp only [evOp] at h <;> (repeat' split at h) <;> first
  | (cases h; done)
  | (simp only [sjj, pjj] at h; obtain ⟨_, rfl⟩ := h; first | contradiction | exact Ext.refl _ | exact Ext.newG _ _ | exact Ext.setG _ _ _ | (exact Ext.write (by assumption)) | (exact Ext.callA (by assumption)))

theorem still_op {o : Op} {t : TL} {s s' : St} {r : Res} (h : evOp T o t s = some (r, s')) (he : Op.eff o = false) : s' = s ∧ ∃ v, r = .val v := by
 cases o with
 | call c =>
  obtain ⟨cal, args, tys⟩ := c
  cases cal with
  | value f => simp [Op.eff] at he
  | invoke x m => simp [Op.eff] at he
  | builtin b =>
   simp only [evOp] at h
   repeat' split at h
   all_goals first | (cases h; done) | skip
   rename_i args' _ v s1 hc
   simp only [sjj, pjj] at h
   obtain ⟨rfl, rfl⟩ := h
   refine ⟨?_, v, rfl⟩
   unfold Ab.callA at hc
   repeat' split at hc
   all_goals first
    | (cases hc; done)
    | (simp [Op.eff] at he; done)
    | (simp only [sjj, pjj] at hc; exact hc.2.symm)
 | makeFunc fn first caps =>
  cases fn <;> simp only [evOp] at h <;> (repeat' split at h) <;> first
   | (cases h; done)
   | contradiction
   | (simp only [sjj, pjj] at h; obtain ⟨rfl, rfl⟩ := h; exact ⟨rfl, _, rfl⟩)
 | _ =>
  first
   | (exfalso; simp [Op.eff] at he; done)
   | (simp only [evOp] at h
      repeat' split at h
      all_goals first
        | (cases h; done)
        | (simp only [sjj, pjj] at h; obtain ⟨rfl, rfl⟩ := h; exact ⟨rfl, _, rfl⟩))

variable {call : FuncId → List AV → St → Option (End × St)}
def CallExt (call : FuncId → List AV → St → Option (End × St)) : Prop := ∀ f args s v s', call f args s = some (v, s') → Ext s s'

theorem Ext.step (hc : CallExt call) {ops : Array Oper} {o : Oper} {t t' : TL} {s s' : St} (h : evStep T call ops o t s = some (t', s')) : Ext s s' := by
 unfold evStep at h
 repeat' split at h
 all_goals first
  | (cases h; done)
  | (simp only [sjj, pjj] at h; obtain ⟨_, rfl⟩ := h; first | exact Ext.refl _ | (exact Ext.op (by assumption)) | (refine Ext.trans (Ext.op (by assumption)) (hc _ _ _ _ _ (by assumption))))
theorem Ext.own {o : Op} {t : TL} {s s' : St} {v : AV} {ds : List DefA} (h : evOwn T o t s = some (v, ds, s')) : Ext s s' := by
 unfold evOwn at h
 repeat' split at h
 all_goals first | (cases h; done) | (simp only [sjj, pjj] at h; obtain ⟨_, _, rfl⟩ := h; first | exact Ext.refl _ | exact Ext.newG _ _)
theorem Ext.stepX (hc : CallExt call) {ops : Array Oper} {o : Oper} {t t' : TL} {s s' : St} (h : evStepX T call ops o t s = some (t', s')) : Ext s s' := by
 unfold evStepX at h
 split at h
 ·rename_i r hr
  cases h
  exact Ext.step hc hr
 ·split at h
  ·split at h
   ·rename_i ho
    simp only [sjj, pjj] at h
    obtain ⟨_, rfl⟩ := h
    exact Ext.own ho
   ·cases h
  ·cases h
theorem Ext.pan (hc : CallExt call) {ops : Array Oper} {o : Oper} {t : TL} {s s' : St} {v : AV} (h : evPan T call ops o t s = some (v, s')) : Ext s s' := by
 unfold evPan at h
 repeat' split at h
 all_goals first
  | (cases h; done)
  | (simp only [sjj, pjj] at h; obtain ⟨_, rfl⟩ := h; first | exact Ext.refl _ | (refine Ext.trans (Ext.op (by assumption)) (hc _ _ _ _ _ (by assumption))))
theorem Ext.ops (hc : CallExt call) {ops : Array Oper} : ∀ (l : List Oper) {t t' : TL} {s s' : St}, evOps T call ops l t s = some (t', s') → Ext s s'
 | [], t, t', s, s', h => by simp only [evOps, sjj, pjj] at h; obtain ⟨_, rfl⟩ := h; exact Ext.refl _
 | o :: l, t, t', s, s', h => by
  simp only [evOps] at h
  split at h
  ·cases h
  ·rename_i t1 s1 h1
   exact (Ext.stepX hc h1).trans (Ext.ops hc l h)
theorem Ext.opsP (hc : CallExt call) {ops : Array Oper} : ∀ (l : List Oper) {t t' : TL} {s s' : St} {v : AV}, evOpsP T call ops l t s = some (v, t', s') → Ext s s'
 | [], t, t', s, s', v, h => by simp [evOpsP] at h
 | o :: l, t, t', s, s', v, h => by
  simp only [evOpsP] at h
  split at h
  ·split at h
   ·cases h
   ·rename_i h1
    simp only [sjj, pjj] at h
    obtain ⟨_, _, rfl⟩ := h
    exact Ext.pan hc h1
  ·rename_i t1 s1 h1
   exact (Ext.stepX hc h1).trans (Ext.opsP hc l h)
theorem Ext.opsS {ops : Array Oper} : ∀ (l : List Oper) {t t' : TL} {s s' : St} {md : Md} {rc rc' : Bool}, evOpsS T ops l t s md rc = some (t', s', rc') → Ext s s'
 | [], t, t', s, s', md, rc, rc', h => by simp only [evOpsS, sjj, pjj] at h; obtain ⟨_, rfl, _⟩ := h; exact Ext.refl _
 | o :: l, t, t', s, s', md, rc, rc', h => by
  simp only [evOpsS] at h
  split at h
  ·cases h
  ·exact Ext.opsS l h
  ·split at h
   ·exact Ext.opsS l h
   ·exact Ext.opsS l h
   ·split at h
    ·rename_i h1
     exact (Ext.op h1).trans (Ext.opsS l h)
    ·rename_i h1
     exact (Ext.op h1).trans (Ext.opsS l h)
    ·cases h
theorem Ext.hoist {b : Bool} : ∀ (l : List Oper) (gs : List (List AV)) {s s' : St} {hs : List (Option (Nat × List AV))}, Ab.hoist b T l gs s = some (s', hs) → Ext s s'
 | [], gs, s, s', hs, h => by simp only [Ab.hoist, sjj, pjj] at h; obtain ⟨rfl, _⟩ := h; exact Ext.refl _
 | o :: l, gs, s, s', hs, h => by
  simp only [Ab.hoist] at h
  repeat' split at h
  all_goals first
   | (cases h; done)
   | (simp only [sjj, pjj] at h; obtain ⟨rfl, _⟩ := h; first | exact (Ext.newG _ _).trans (Ext.hoist l _ (by assumption)) | exact Ext.hoist l _ (by assumption))
theorem Ext.aside {s s1 : St} (h : Ext { s with wr := [] } s1) : Ext s { s1 with wr := s1.wr ++ s.wr } := by
 obtain ⟨l, h1, h2⟩ := h.wr
 refine ⟨h.ctr, l, by simp only [h1, List.append_nil], fun g hg => h2 g hg⟩
theorem Ext.log (hc : CallExt call) {ops : Array Oper} : ∀ (l : List Oper) (hs : List (Option (Nat × List AV))) {t t' : TL} {s s' : St} {es : List Entry}, evLog T call ops l hs t s = some (t', s', es) → Ext s s'
 | [], hs, t, t', s, s', es, h => by
  have : evLog T call ops [] hs t s = some (t, s, []) := by cases hs <;> rfl
  rw [this] at h
  simp only [sjj, pjj] at h
  obtain ⟨_, rfl, _⟩ := h
  exact Ext.refl _
 | o :: l, [], t, t', s, s', es, h => by
  simp only [evLog, sjj, pjj] at h
  obtain ⟨_, rfl, _⟩ := h
  exact Ext.refl _
 | o :: l, some (c, cs) :: hs, t, t', s, s', es, h => by
  simp only [evLog] at h
  split at h
  ·cases h
  ·split at h
   ·cases h
   ·rename_i h1
    simp only [sjj, pjj] at h
    obtain ⟨_, rfl, _⟩ := h
    exact Ext.log hc l hs h1
 | o :: l, none :: hs, t, t', s, s', es, h => by
  simp only [evLog] at h
  split at h
  ·cases h
  ·rename_i t1 s1 h1
   split at h
   ·cases h
   ·rename_i h2
    simp only [sjj, pjj] at h
    obtain ⟨_, rfl, _⟩ := h
    exact (Ext.aside (Ext.step hc h1)).trans (Ext.log hc l hs h2)
theorem Ext.draw (hc : CallExt call) {b : Bool} {gs : List (List AV)} {ops : Array Oper} {t t' : TL} {s s' : St} (h : evDraw T call b gs ops t s = some (t', s')) : Ext s s' := by
 unfold evDraw at h
 split at h
 ·cases h
 ·rename_i h0
  split at h
  ·cases h
  ·rename_i h1
   split at h
   ·simp only [sjj, pjj] at h
    obtain ⟨_, rfl⟩ := h
    exact (Ext.hoist _ _ h0).trans (Ext.log hc _ _ h1)
   ·split at h
    ·simp only [sjj, pjj] at h
     obtain ⟨_, rfl⟩ := h
     exact (Ext.hoist _ _ h0).trans (Ext.log hc _ _ h1)
    ·cases h
theorem Ext.loopStart {t : TL} {s s1 : St} {dg : Nat} {mk : List DefA} (h : Ab.loopStart t s = some (dg, mk, s1)) : Ext s s1 := by
 unfold Ab.loopStart at h
 repeat' split at h
 all_goals first | (cases h; done) | (simp only [sjj, pjj] at h; obtain ⟨_, _, rfl⟩ := h; first | exact Ext.refl _ | exact Ext.newG _ _)
theorem Ext.code (hc : CallExt call) : ∀ (n : Nat),
  (∀ (c : Code) {t t' : TL} {s s' : St} {x : Ex}, evCode T call n c t s = some (x, t', s') → Ext s s') ∧
  (∀ (b c : Code) {t t' : TL} {s s' : St} {x : Ex}, evCode.evScope T call n b c t s = some (x, t', s') → Ext s s') := by
 intro n
 induction n with
 | zero => exact ⟨fun c t t' s s' x h => by simp [evCode] at h, fun b c t t' s s' x h => by simp [evCode.evScope] at h⟩
 | succ n ih =>
  obtain ⟨ihc, ihs⟩ := ih
  refine ⟨fun c t t' s s' x h => ?_, fun b c t t' s s' x h => ?_⟩
  ·cases c with
   | region id ops draw =>
    cases draw with
    | false =>
     simp only [evCode] at h
     split at h
     ·split at h
      ·cases h
      ·rename_i h1
       simp only [sjj, pjj] at h
       obtain ⟨_, _, rfl⟩ := h
       exact Ext.opsP hc _ h1
     ·rename_i h1
      simp only [sjj, pjj] at h
      obtain ⟨_, _, rfl⟩ := h
      exact Ext.ops hc _ h1
    | true =>
     simp only [evCode] at h
     split at h
     ·split at h
      ·cases h
      ·rename_i h0
       simp only [sjj, pjj] at h
       obtain ⟨_, _, rfl⟩ := h
       exact Ext.draw hc h0
     ·split at h
      ·split at h
       ·cases h
       ·split at h
        ·cases h
        ·rename_i h0
         simp only [sjj, pjj] at h
         obtain ⟨_, _, rfl⟩ := h
         exact Ext.draw hc h0
      ·cases h
   | seq a b =>
    simp only [evCode] at h
    split at h
    ·rename_i h1
     exact (ihc a h1).trans (ihc b h)
    ·exact ihc a h
   | cond q a b =>
    simp only [evCode] at h
    split at h
    ·exact ihc _ h
    ·cases h
   | block id b =>
    simp only [evCode] at h
    split at h
    ·rename_i h1
     split at h <;> (simp only [sjj, pjj] at h; obtain ⟨_, _, rfl⟩ := h; exact ihc b h1)
    ·exact ihc b h
   | loop b =>
    simp only [evCode] at h
    split at h
    ·rename_i h1
     exact (ihc b h1).trans (ihc _ h)
    ·exact ihc b h
   | scope b =>
    simp only [evCode] at h
    exact ihs b b h
   | rangeFunc f ps asg body =>
    simp only [evCode] at h
    split at h
    ·split at h
     ·cases h
     split at h
     ·cases h
     ·rename_i h0
      have e0 := Ext.loopStart h0
      split at h
      ·rename_i h1
       have e1 := e0.trans ((Ext.newG _ _).trans (hc _ _ _ _ _ h1))
       split at h
       ·cases h
       ·split at h
        ·cases h
        ·split at h
         ·simp only [sjj, pjj] at h
          obtain ⟨_, _, rfl⟩ := h
          exact e1.trans (Ext.setG _ _ _)
         ·exact (e1.trans (Ext.setG _ _ _)).trans (ihc _ h)
      ·cases h
    ·cases h
   | _ => simp only [evCode] at h <;> first | (cases h; done) | (simp only [sjj, pjj] at h; obtain ⟨_, _, rfl⟩ := h; exact Ext.refl _)
  ·simp only [evCode.evScope] at h
   split at h
   ·rename_i h1
    split at h
    ·exact (ihc c h1).trans (ihs _ _ h)
    ·simp only [sjj, pjj] at h
     obtain ⟨_, _, rfl⟩ := h
     exact ihc c h1
   ·exact ihc c h
theorem Ext.round (hc : CallExt call) {n g : Nat} {args : List AV} {s s' : St} {e : End} (h : evRound T call n g args s = some (e, s')) : Ext s s' := by
 unfold evRound at h
 split at h
 ·cases h
 ·split at h
  ·split at h
   ·rename_i h1
    have e1 := (Ext.code hc n).1 _ h1
    split at h
    ·cases h
    ·split at h
     ·split at h
      ·rename_i h2
       have e2 := (e1.trans (Ext.setG _ _ _)).trans ((Ext.code hc n).1 _ h2)
       split at h
       ·simp only [sjj, pjj] at h
        obtain ⟨_, rfl⟩ := h
        exact e2.trans (Ext.setG _ _ _)
       ·cases h
      ·cases h
     ·cases h
   ·cases h
  ·cases h
theorem Ext.codeS (hc : CallExt call) : ∀ (n : Nat) (c : Code) {t t' : TL} {s s' : St} {x : Ex} {md : Md} {rc rc' : Bool}, evCodeS T call n c t s md rc = some (x, t', s', rc') → Ext s s'
 | 0, c, t, t', s, s', x, md, rc, rc', h => by simp [evCodeS] at h
 | n + 1, c, t, t', s, s', x, md, rc, rc', h => by
  have fall : ∀ {c : Code}, (match evCode T call n c t s with | some (x, t', s') => some (x, t', s', rc) | none => none) = some (x, t', s', rc') → Ext s s' := by
   intro c h
   split at h
   ·rename_i h1
    simp only [sjj, pjj] at h
    obtain ⟨_, _, rfl, _⟩ := h
    exact (Ext.code hc n).1 _ h1
   ·cases h
  cases c with
  | seq a b =>
   simp only [evCodeS] at h
   split at h
   ·rename_i h1
    exact (Ext.codeS hc n a h1).trans (Ext.codeS hc n b h)
   ·exact Ext.codeS hc n a h
  | cond q a b =>
   simp only [evCodeS] at h
   split at h
   ·exact Ext.codeS hc n _ h
   ·cases h
  | region id ops draw =>
   cases draw with
   | false =>
    simp only [evCodeS] at h
    split at h
    ·rename_i h1
     simp only [sjj, pjj] at h
     obtain ⟨_, _, rfl, _⟩ := h
     exact Ext.ops hc _ h1
    ·split at h
     ·cases h
     ·rename_i h1
      simp only [sjj, pjj] at h
      obtain ⟨_, _, rfl, _⟩ := h
      exact Ext.opsS _ h1
   | true => simp only [evCodeS] at h; exact fall h
  | _ => simp only [evCodeS] at h; exact fall h
theorem Ext.dfn {P : Program} (hc : CallExt call) {n : Nat} {f : FuncId} {args : List AV} {s s' : St} {gl : Nat → Option AV} {md md' : Md} (h : evDef P T gl call n f args s md = some (md', s')) : Ext s s' := by
 unfold evDef at h
 repeat' split at h
 all_goals first
  | (cases h; done)
  | (simp only [sjj, pjj] at h; obtain ⟨_, rfl⟩ := h; exact Ext.codeS hc _ _ (by assumption))
theorem Ext.leave {P : Program} {gl : Nat → Option AV} (hc : CallExt call) {n : Nat} {fn : Func} {t : TL} : ∀ (l : List DefA) {s s' : St} {md : Md} {e : End}, evLeave P T gl call n fn t l s md = some (e, s') → Ext s s'
 | [], s, s', .ret, e, h => by
  simp only [evLeave] at h
  repeat' split at h
  all_goals first | (cases h; done) | (simp only [sjj, pjj] at h; obtain ⟨_, rfl⟩ := h; exact Ext.refl _)
 | [], s, s', .pan v, e, h => by
  simp only [evLeave, sjj, pjj] at h
  obtain ⟨_, rfl⟩ := h
  exact Ext.refl _
 | .col g :: l, s, s', md, e, h => by
  simp only [evLeave] at h
  split at h
  ·exact (Ext.setG _ _ _).trans (Ext.leave hc l h)
  ·cases h
 | .clo f args :: l, s, s', md, e, h => by
  simp only [evLeave] at h
  split at h
  ·cases h
  ·rename_i h1
   exact (Ext.dfn hc h1).trans (Ext.leave hc l h)
theorem Ext.body {P : Program} (hc : CallExt call) {n : Nat} {f : FuncId} {args : List AV} {s s' : St} {e : End} {gl : Nat → Option AV} (h : evBody P T gl call n f args s = some (e, s')) : Ext s s' := by
 simp only [evBody] at h
 repeat' split at h
 all_goals first
  | (cases h; done)
  | exact ((Ext.code hc n).1 _ (by assumption)).trans (Ext.leave hc _ h)
theorem Ext.calls {P : Program} {K : Kn} : ∀ (n : Nat), CallExt (evX P T K n)
 | 0, f, args, s, v, s', h => by simp [evX] at h
 | n + 1, f, args, s, v, s', h => by
  simp only [evX] at h
  cases hb : Nat.ble yb f with
  | true => rw [hb, cond_true] at h; exact Ext.round (Ext.calls n) h
  | false =>
   rw [hb, cond_false] at h
   split at h
   ·split at h
    ·simp only [sjj, pjj] at h
     obtain ⟨_, rfl⟩ := h
     exact Ext.refl _
    ·cases h
   ·split at h
    ·simp only [sjj, pjj] at h
     obtain ⟨_, rfl⟩ := h
     exact Ext.refl _
    ·exact Ext.body (Ext.calls n) h
end
end Go.Ab
namespace Go.Ab
open Go.RowKit
abbrev Fen (r : Option Nat) : Fence := { Fence.wide with round := r }
theorem Fen.room (r : Option Nat) (n : Nat) : (Fen r).room n := fun _ h => by simp [Fence.wide] at h
section
variable {P : Program} {w0 : World} {B0 : Nat} {T : Tab}
variable {call : FuncId → List AV → St → Option (End × St)}

def EndR (w0 : World) (B0 : Nat) (ρ : Loc) : End → Ending → Prop
 | .ret v, .returned v' => VR w0 B0 ρ v v'
 | .pan v, .panicked ch => ∃ v', ch = [{ v := v', recovered := false }] ∧ VR w0 B0 ρ v v'
 | _, _ => False
def CallPost (w0 : World) (B0 : Nat) (ρ : Loc) (c : Nat) (e : End) (s' : St) : Ending → World → Prop := fun e' w' =>
 ∃ ρ' : Loc, ρ.lex c ρ' ∧ Sim w0 B0 ρ' s' w' ∧ EndR w0 B0 ρ' e e'
def ExtOk (P : Program) (w0 : World) (B0 : Nat) (f : FuncId) (args : List AV) (s : St) (e : End) (s' : St) : Prop :=
 (∀ g c r, args ≠ .fn g c :: r) ∧ ∀ (ρ : Loc) (w : World) (args' : Array Value), Sim w0 B0 ρ s w → CR w0 B0 ρ args args'.toList →
  ∃ v v' w' ρ', e = .ret v ∧ (callFunc f args').run P w = .ok (.value v') w' ∧ ρ.lex s.ctr ρ' ∧ Sim w0 B0 ρ' s' w' ∧ VR w0 B0 ρ' v v'
def CallOk (P : Program) (w0 : World) (B0 : Nat) (call : FuncId → List AV → St → Option (End × St)) : Prop :=
 ∀ f args (s : St) e s', call f args s = some (e, s') →
  (f < yb → (Callable P f ∧ ∀ (ρ : Loc) (w : World) (args' : Array Value), Sim w0 B0 ρ s w → CR w0 B0 ρ args args'.toList → CallsIn Fence.wide 0 P f args' w (CallPost w0 B0 ρ s.ctr e s')) ∨ ExtOk P w0 B0 f args s e s') ∧
  (∀ g, f = yb + g → ∀ (ρ : Loc) (w : World) (args' : Array Value) (b n : Nat), ρ g 0 = some (b, 0, n) → Sim w0 B0 ρ s w → CR w0 B0 ρ args args'.toList →
    ∃ fn tmps asg body, (Instr.yield b args').run P w = .ok (.round b fn tmps asg body) w ∧ RoundIn Fence.wide 0 P b fn tmps asg body w (CallPost w0 B0 ρ s.ctr e s'))

theorem guard_sound {ρ : Loc} {t : TL} {a : Act} (ht : TR w0 B0 ρ t a.tmps) {ops : Array Oper} {o : Oper} {b : Bool} (h : guardA ops t o.guard = some b) : Region.wanted o (yielded ops a.tmps) = b := by
 unfold guardA at h
 unfold Region.wanted
 split at h
 ·rename_i hg
  simp only [sjj] at h
  subst h
  rw [hg]
 ·rename_i j want hg
  rw [hg]
  simp only
  cases hd : (ops[j]?).bind (·.dst) with
  | none =>
   simp only [hd, sjj] at h
   subst h
   simp [yielded, hd]
  | some d =>
   simp only [hd] at h
   have hy : yielded ops a.tmps j = match a.tmps[d]? with | some (.bool b) => some b | _ => none := by simp [yielded, hd]; rfl
   rw [hy]
   cases hv : a.tmps[d]? with
   | none =>
    have hs : a.tmps.size ≤ d := by rwa [Array.getElem?_eq_none_iff] at hv
    rw [ht.out d hs] at h
    simp only [sjj] at h
    subst h
    rfl
   | some v =>
    have hr := ht.at_ d v hv
    generalize t.get d = u at h hr
    cases hr with
    | bool q =>
     simp only [sjj] at h
     subst h
     rfl
    | poison => cases h
    | _ =>
     simp only [sjj] at h
     subst h
     rfl

theorem evOp_nodefer {o : Op} {t : TL} {s s' : St} {r : Res} (h : evOp T o t s = some (r, s')) : ∀ c, o ≠ .defer c := by
 rintro c rfl
 simp [evOp] at h
theorem sem_op {rd : Option Nat} {a : Act} {o : Oper} (h : ∀ c, o.op ≠ .defer c) : o.semAt (Fen rd).round a.eval = execOp a.eval o := Oper.semAt_eq _ _ _ h

theorem step_sound {rd : Option Nat} (hT : TabOk P T) (hcall : CallOk P w0 B0 call) {ops : Array Oper} {i : Nat} {o : Oper} (hi : ops[i]? = some o) {ρ : Loc} {t t' : TL} {s s' : St} {a : Act} {w : World} (ht : TR w0 B0 ρ t a.tmps) (hs : Sim w0 B0 ρ s w)
  (h : evStep T call ops o t s = some (t', s')) {Q : Exit → Act → World → Prop} {K : Act → World → Prop}
  (hK : ∀ (ρ' : Loc) (v : AV) (v' : Value) (w' : World), ρ.lex s.ctr ρ' → Sim w0 B0 ρ' s' w' → VR w0 B0 ρ' v v' → t' = putA t o.dst v → K (a.put o.dst v') w') : wpOpIn (Fen rd) 0 P ops Q i K a w := by
 unfold evStep at h
 unfold wpOpIn
 rw [hi]
 simp only
 cases hg : guardA ops t o.guard with
 | none => simp [hg] at h
 | some b =>
  have hw := guard_sound ht hg
  cases b with
  | false =>
   simp only [hg, sjj, pjj] at h
   obtain ⟨rfl, rfl⟩ := h
   rw [if_neg (by simp [hw])]
   exact ⟨fun _ _ => trivial, hK ρ .undef _ w (Loc.lex_refl _ _) hs .undef rfl⟩
  | true =>
   rw [if_pos hw]
   refine ⟨fun _ _ => trivial, ?_⟩
   simp only [hg] at h
   cases hop : evOp T o.op t s with
   | none => simp [hop] at h
   | some rs =>
    obtain ⟨r, s1⟩ := rs
    have hos := op_sound (o := o) hT ht hs hop
    rw [sem_op (evOp_nodefer hop)]
    cases r with
    | val v =>
     simp only [hop, sjj, pjj] at h
     obtain ⟨rfl, rfl⟩ := h
     cases hos with
     | val _ v' w' ρ' h1 h2 h3 h4 =>
     rw [h1, Oper.uponIn_value]
     exact hK ρ' v v' w' h2 h3 h4 rfl
    | skip =>
     simp only [hop, sjj, pjj] at h
     obtain ⟨rfl, rfl⟩ := h
     cases hos with
     | skip w' h1 h2 =>
     rw [h1, Oper.uponIn_skip]
     exact hK ρ .undef _ w' (Loc.lex_refl _ _) h2 .undef rfl
    | call f args =>
     simp only [hop] at h
     split at h
     ·rename_i v s2 hc
      simp only [sjj, pjj] at h
      obtain ⟨rfl, rfl⟩ := h
      have hco := hcall f args s1 _ s2 hc
      have fin : ∀ (e : Ending) (w' : World), CallPost w0 B0 ρ s1.ctr (.ret v) s2 e w' → (match e with | .returned v => K (a.put o.dst v) w' | .panicked chain => Q (.panic chain) a w' | .outgrown => LetsOut Q) := by
       rintro e w' ⟨ρ', k1, k2, k3⟩
       cases e with
       | returned v' => exact hK ρ' v v' w' (Loc.lex_trans (Loc.lex_refl _ _) k1 (Ext.op hop).ctr) k2 k3 rfl
       | panicked ch => exact k3.elim
       | outgrown => exact k3.elim
      cases hos with
      | call _ _ args' h0 h1 h2 h3 =>
       rcases hco.1 h0 with ⟨hcb, hcs⟩ | ⟨_, hx⟩
       ·rw [h1, run_callFunc hcb, Oper.uponIn_enter]
        exact ⟨(fun h => by cases h), CallsIn.mono (hcs ρ w args' h2 h3) fun e w' h => by have := fin e w' h; cases e <;> exact this⟩
       ·obtain ⟨v0, v', w', ρ', he, k1, k2, k3, k4⟩ := hx ρ w args' h2 h3
        cases he
        rw [h1, k1, Oper.uponIn_value]
        exact hK ρ' v v' w' (Loc.lex_trans (Loc.lex_refl _ _) k2 (Ext.op hop).ctr) k3 k4 rfl
      | round g _ args' b n hρ h1 h2 h3 =>
       obtain ⟨fn, tmps, asg, body, k1, k2⟩ := hco.2 g rfl ρ w args' b n hρ h2 h3
       rw [h1, k1, Oper.uponIn_round]
       exact ⟨(fun h => by cases h), RoundIn.mono k2 fun e w' h => by have := fin e w' h; cases e <;> exact this⟩
     ·cases h

theorem evStep_ds {ops : Array Oper} {o : Oper} {t t' : TL} {s s' : St} (h : evStep T call ops o t s = some (t', s')) : t'.ds = t.ds ∧ t'.rd = t.rd := by
 unfold evStep at h
 repeat' split at h
 all_goals first
  | (cases h; done)
  | (simp only [sjj, pjj] at h; obtain ⟨rfl, _⟩ := h; exact ⟨putA_ds _ _ _, putA_rd _ _ _⟩)

theorem own_sound {rd : Option Nat} (hT : TabOk P T) {o : Oper} {ρ : Loc} {t : TL} {s s' : St} {a : Act} {w : World} {v : AV} {ds : List DefA} (ht : TR w0 B0 ρ t a.tmps) (hd : DsR w0 B0 ρ t.ds a.defers) (hrd : RdR ρ t.rd rd) (hs : Sim w0 B0 ρ s w)
  (h : evOwn T o.op t s = some (v, ds, s')) {Q : Exit → Act → World → Prop} {K : Act → World → Prop}
  (hK : ∀ (ρ' : Loc) (v' : Value) (D : List Deferred) (w' : World), ρ.lex s.ctr ρ' → Sim w0 B0 ρ' s' w' → VR w0 B0 ρ' v v' → DsR w0 B0 ρ' ds D → K ({ a with defers := D }.put o.dst v') w') :
  o.uponIn (Fen rd) 0 P a K Q ((o.semAt (Fen rd).round a.eval).run P w) := by
 unfold evOwn at h
 split at h
 ·rename_i src dst x ho
  rw [sem_op (by intro c hc; rw [ho] at hc; cases hc)]
  split at h
  ·rename_i _ _ _ _ et _ _ _ _ bs hsrc hdst hx
   split at h
   ·rename_i hte
    split at h
    ·rename_i hle
     simp only [sjj, pjj] at h
     obtain ⟨rfl, rfl, rfl⟩ := h
     have u1 : P.underlying src = some .string := (hT src _ hsrc).sh
     have u2 := (hT dst _ hdst).sh
     have u3 := (hT _ _ hte).sh
     have rx := ht.eval hx
     generalize hex : a.eval x = x' at rx
     cases rx
     have hrun := run_bytes_of_string (P := P) w src dst _ bs u1 u2 u3
     have hcap := grownCap_ge w bs.size 0 et
     generalize hC : bytesRow bs (grownCap w bs.size 0 et) = C at hrun
     have hCs : C.size = grownCap w bs.size 0 et := by
      have hb0 : bs.data.size = bs.size := rfl
      rw [← hC]; unfold bytesRow; rw [Array.size_append, Array.size_map, Array.size_replicate]; omega
     have hxl : (bs.data.toList.map fun c => AV.int .u8 c.toNat).length ≤ C.size := by
      have hb0 : bs.data.size = bs.size := rfl
      rw [lmm, Array.length_toList]; omega
     obtain ⟨ρ', k1, k2, k3⟩ := hs.drew.new_own (.frz (bs.data.toList.map fun c => AV.int .u8 c.toNat)) (.cells C et (C.size, C.size + 1)) C.size fun ρ' w' b hle hb => .own _ _ rfl hb (.frz _ _ _ _ (by simp) hxl (aet.2 fun x hx => by obtain ⟨c, -, rfl⟩ := List.mem_map.1 hx; rfl) fun i u v hu hv => by
       rw [gmm] at hu
       rw [← hC] at hv
       unfold bytesRow at hv
       cases hb' : bs.data.toList[i]? with
       | none => rw [hb'] at hu; cases hu
       | some c =>
         rw [hb'] at hu
         cases hu
         have hlt := (ges.1 hb').1
         rw [Array.getElem?_append_left (by simpa using hlt), Array.getElem?_map, ← Array.getElem?_toList, hb'] at hv
         cases hv
         exact .int _ _) rfl rfl
     have e1 : (execOp a.eval o).run P w = .ok (.value (.slice (some ⟨w.heap.size, 0, none⟩) bs.size (grownCap w bs.size 0 et))) (w.drew.alloc (.cells C et (C.size, C.size + 1))) := by
      simp only [execOp, ho, hex, Sem.run_bind, hrun, Result.andThen_ok, Sem.run_pure]
     rw [e1, Oper.uponIn_value]
     exact hK ρ' _ a.defers _ k1 k3 (.slc s.ctr 0 0 1 bs.size bs.size false w.heap.size 0 C.size _ ⟨w.heap.size, 0, none⟩ k2 (nlr _) hcap nofun (fun _ => rfl) (by rw [hCs]; omega)) (hd.mono k1.1)
    ·cases h
   ·cases h
  ·cases h
 ·rename_i c ho
  split at h
  ·rename_i f hc hrd0
   split at h
   ·rename_i g caps args hf hargs
    split at h
    ·rename_i hg
     simp only [sjj, pjj] at h
     obtain ⟨rfl, rfl, rfl⟩ := h
     have hr0 : rd = none := by
      cases rd with
      | none => rfl
      | some b => rw [hrd0] at hrd; exact hrd.elim
     subst hr0
     have rf := ht.eval hf
     have ra := ht.evs hargs
     generalize hef : a.eval f = f' at rf
     cases rf with
     | yld gr b n hρ => exact absurd hg (Nat.not_lt.2 (Nat.le_add_right _ _))
     | fn _ _ arr h0 h1 h2 =>
     have e1 : (o.semAt (Fen none).round a.eval).run P w = .ok (.defer { target := .fn (.func g) arr, args := c.args.map a.eval }) w := by
      show (execOp a.eval o).run P w = _
      simp [execOp, ho, resolve, hc, hef, Deferred.ofValue]
     rw [e1, Oper.uponIn_defer]
     refine hK ρ Go.undef _ w (Loc.lex_refl _ _) hs .undef ⟨.clo g _ arr (c.args.map a.eval) h0 ?_, hd⟩
     rw [Array.toList_append, Array.toList_map]
     exact ra.append ⟨by simpa using h1, fun i u v hu hv => h2 i u v hu (by simpa using hv)⟩
    ·cases h
   ·cases h
  ·cases h
 ·cases h
end
end Go.Ab
namespace Go.Ab
open Go.RowKit
section
variable {P : Program} {w0 : World} {B0 : Nat} {T : Tab}
variable {call : FuncId → List AV → St → Option (End × St)}

theorem evStepX_rd {ops : Array Oper} {o : Oper} {t t' : TL} {s s' : St} (h : evStepX T call ops o t s = some (t', s')) : t'.rd = t.rd := by
 unfold evStepX at h
 split at h
 ·rename_i r hr
  cases h
  exact (evStep_ds hr).2
 ·repeat' split at h
  all_goals first
   | (cases h; done)
   | (simp only [sjj, pjj] at h; obtain ⟨rfl, _⟩ := h; exact putA_rd _ _ _)

theorem stepX_sound {rd : Option Nat} (hT : TabOk P T) (hcall : CallOk P w0 B0 call) {ops : Array Oper} {i : Nat} {o : Oper} (hi : ops[i]? = some o) {ρ : Loc} {t t' : TL} {s s' : St} {a : Act} {w : World} (ht : TR w0 B0 ρ t a.tmps) (hd : DsR w0 B0 ρ t.ds a.defers) (hrd : RdR ρ t.rd rd) (hs : Sim w0 B0 ρ s w)
  (h : evStepX T call ops o t s = some (t', s')) {Q : Exit → Act → World → Prop} {K : Act → World → Prop}
  (hK : ∀ (ρ' : Loc) (a' : Act) (w' : World), ρ.lex s.ctr ρ' → Sim w0 B0 ρ' s' w' → TR w0 B0 ρ' t' a'.tmps → DsR w0 B0 ρ' t'.ds a'.defers → K a' w') : wpOpIn (Fen rd) 0 P ops Q i K a w := by
 unfold evStepX at h
 split at h
 ·rename_i r hr
  cases h
  refine step_sound hT hcall hi ht hs hr fun ρ' v v' w' k1 k2 k3 k4 => ?_
  subst k4
  exact hK ρ' _ w' k1 k2 ((TR.mono k1.1 ht).put k3 o.dst) (by rw [putA_ds]; have := hd.mono k1.1; cases o.dst <;> exact this)
 ·split at h
  ·rename_i hg
   split at h
   ·rename_i v ds s1 ho
    simp only [sjj, pjj] at h
    obtain ⟨rfl, rfl⟩ := h
    unfold wpOpIn
    rw [hi]
    simp only
    rw [if_pos (guard_sound ht hg)]
    refine ⟨fun _ _ => trivial, own_sound hT ht hd hrd hs ho fun ρ' v' D w' k1 k2 k3 k4 => ?_⟩
    refine hK ρ' _ w' k1 k2 ?_ ?_
    ·have h1 : TR w0 B0 ρ' (putA t o.dst v) (({ a with defers := D } : Act).put o.dst v').tmps := TR.put (a := { a with defers := D }) (TR.mono k1.1 ht) k3 o.dst
     exact h1.congr rfl (fun _ => rfl) rfl
    ·show DsR w0 B0 ρ' ds _
     cases o.dst <;> exact k4
   ·cases h
  ·cases h

theorem ops_sound {rd : Option Nat} (hT : TabOk P T) (hcall : CallOk P w0 B0 call) (hce : CallExt call) {ops : Array Oper} {Q : Exit → Act → World → Prop} : ∀ (l : List Oper) (k : Nat) {ρ : Loc} {t t' : TL} {s s' : St} {a : Act} {w : World},
  (∀ j, l[j]? = ops[k + j]?) → TR w0 B0 ρ t a.tmps → DsR w0 B0 ρ t.ds a.defers → RdR ρ t.rd rd → Sim w0 B0 ρ s w → evOps T call ops l t s = some (t', s') →
  (∀ (ρ' : Loc) (a' : Act) (w' : World), ρ.lex s.ctr ρ' → Sim w0 B0 ρ' s' w' → TR w0 B0 ρ' t' a'.tmps → DsR w0 B0 ρ' t'.ds a'.defers → RdR ρ' t'.rd rd → Q .normal a' w') → wpOpsIn (Fen rd) 0 P ops Q (List.range' k l.length) a w
 | [], k, ρ, t, t', s, s', a, w, hl, ht, hd, hrd, hs, h, hQ => by
  simp only [evOps, sjj, pjj] at h
  obtain ⟨rfl, rfl⟩ := h
  exact hQ ρ a w (Loc.lex_refl _ _) hs ht hd hrd
 | o :: l, k, ρ, t, t', s, s', a, w, hl, ht, hd, hrd, hs, h, hQ => by
  simp only [evOps] at h
  cases h1 : evStepX T call ops o t s with
  | none => simp [h1] at h
  | some ts =>
   obtain ⟨t1, s1⟩ := ts
   simp only [h1] at h
   rw [lcc, List.range'_succ, wpOpsIn_cons]
   have h0 := hl 0
   simp only [List.getElem?_cons_zero, Nat.add_zero] at h0
   refine stepX_sound hT hcall h0.symm ht hd hrd hs h1 (fun ρ' a1 w' k1 k2 k3 k4 => ?_)
   refine ops_sound hT hcall hce l (k + 1) (fun j => by have := hl (j + 1); rw [Nat.add_assoc, Nat.add_comm 1 j]; simpa using this) k3 k4 (by rw [evStepX_rd h1]; exact hrd.mono k1.1) k2 h (fun ρ2 a2 w2 q1 q2 q3 q4 q5 => ?_)
   exact hQ ρ2 a2 w2 (Loc.lex_trans k1 q1 (Ext.stepX hce h1).ctr) q2 q3 q4 q5

theorem pan_sound {rd : Option Nat} (hT : TabOk P T) (hcall : CallOk P w0 B0 call) {ops : Array Oper} {i : Nat} {o : Oper} (hi : ops[i]? = some o) {ρ : Loc} {t : TL} {s s' : St} {a : Act} {w : World} {v : AV} (ht : TR w0 B0 ρ t a.tmps) (hs : Sim w0 B0 ρ s w)
  (h : evPan T call ops o t s = some (v, s')) {Q : Exit → Act → World → Prop} {K : Act → World → Prop}
  (hQ : ∀ (ρ' : Loc) (v' : Value) (w' : World), ρ.lex s.ctr ρ' → Sim w0 B0 ρ' s' w' → VR w0 B0 ρ' v v' → Q (.panic [{ v := v', recovered := false }]) a w') : wpOpIn (Fen rd) 0 P ops Q i K a w := by
 unfold evPan at h
 unfold wpOpIn
 rw [hi]
 simp only
 split at h
 ·rename_i hg
  rw [if_pos (guard_sound ht hg)]
  refine ⟨fun _ _ => trivial, ?_⟩
  split at h
  ·rename_i x hop
   rw [sem_op (by intro c hc; rw [hop] at hc; cases hc)]
   split at h
   ·rename_i tt u hx
    simp only [sjj, pjj] at h
    obtain ⟨rfl, rfl⟩ := h
    have rx := ht.eval hx
    generalize hex : a.eval x = x' at rx
    cases rx with
    | iface _ _ u' hu =>
    have e1 : (execOp a.eval o).run P w = .halt (.panic (.iface tt u')) w := by
     simp [execOp, hop, hex, Instr.panic, goPanic]
    rw [e1, Oper.uponIn_panic]
    exact hQ ρ _ w (Loc.lex_refl _ _) hs (.iface _ _ _ hu)
   ·cases h
  ·split at h
   ·rename_i op hne f args s1 hop
    rw [sem_op (evOp_nodefer hop)]
    split at h
    ·rename_i u s2 hc
     simp only [sjj, pjj] at h
     obtain ⟨rfl, rfl⟩ := h
     have hos := op_sound (o := o) hT ht hs hop
     have hco := hcall f args s1 _ s2 hc
     have fin : ∀ (e : Ending) (w' : World), CallPost w0 B0 ρ s1.ctr (.pan u) s2 e w' → (match e with | .returned v => K (a.put o.dst v) w' | .panicked chain => Q (.panic chain) a w' | .outgrown => LetsOut Q) := by
      rintro e w' ⟨ρ', k1, k2, k3⟩
      cases e with
      | returned v' => exact k3.elim
      | panicked ch =>
       obtain ⟨v', rfl, hv⟩ := k3
       exact hQ ρ' v' w' (Loc.lex_trans (Loc.lex_refl _ _) k1 (Ext.op hop).ctr) k2 hv
      | outgrown => exact k3.elim
     cases hos with
     | call _ _ args' h0 h1 h2 h3 =>
      rcases hco.1 h0 with ⟨hcb, hcs⟩ | ⟨_, hx⟩
      ·rw [h1, run_callFunc hcb, Oper.uponIn_enter]
       exact ⟨(fun h => by cases h), CallsIn.mono (hcs ρ w args' h2 h3) fun e w' h => by have := fin e w' h; cases e <;> exact this⟩
      ·obtain ⟨v0, v', w', ρ', he, _⟩ := hx ρ w args' h2 h3
       cases he
     | round g _ args' b n hρ h1 h2 h3 =>
      obtain ⟨fn, tmps, asg, body, k1, k2⟩ := hco.2 g rfl ρ w args' b n hρ h2 h3
      rw [h1, k1, Oper.uponIn_round]
      exact ⟨(fun h => by cases h), RoundIn.mono k2 fun e w' h => by have := fin e w' h; cases e <;> exact this⟩
    ·cases h
   ·cases h
 ·cases h
theorem opsP_sound {rd : Option Nat} (hT : TabOk P T) (hcall : CallOk P w0 B0 call) (hce : CallExt call) {ops : Array Oper} {Q : Exit → Act → World → Prop} : ∀ (l : List Oper) (k : Nat) {ρ : Loc} {t t' : TL} {s s' : St} {a : Act} {w : World} {v : AV},
  (∀ j, l[j]? = ops[k + j]?) → TR w0 B0 ρ t a.tmps → DsR w0 B0 ρ t.ds a.defers → RdR ρ t.rd rd → Sim w0 B0 ρ s w → evOpsP T call ops l t s = some (v, t', s') →
  (∀ (ρ' : Loc) (v' : Value) (a' : Act) (w' : World), ρ.lex s.ctr ρ' → Sim w0 B0 ρ' s' w' → TR w0 B0 ρ' t' a'.tmps → DsR w0 B0 ρ' t'.ds a'.defers → RdR ρ' t'.rd rd → VR w0 B0 ρ' v v' → Q (.panic [{ v := v', recovered := false }]) a' w') → wpOpsIn (Fen rd) 0 P ops Q (List.range' k l.length) a w
 | [], k, ρ, t, t', s, s', a, w, v, hl, ht, hd, hrd, hs, h, hQ => by simp [evOpsP] at h
 | o :: l, k, ρ, t, t', s, s', a, w, v, hl, ht, hd, hrd, hs, h, hQ => by
  simp only [evOpsP] at h
  rw [lcc, List.range'_succ, wpOpsIn_cons]
  have h0 := hl 0
  simp only [List.getElem?_cons_zero, Nat.add_zero] at h0
  cases h1 : evStepX T call ops o t s with
  | none =>
   simp only [h1] at h
   split at h
   ·cases h
   ·rename_i h2
    simp only [sjj, pjj] at h
    obtain ⟨rfl, rfl, rfl⟩ := h
    exact pan_sound hT hcall h0.symm ht hs h2 fun ρ' v' w' k1 k2 k3 => hQ ρ' v' a w' k1 k2 (TR.mono k1.1 ht) (hd.mono k1.1) (hrd.mono k1.1) k3
  | some ts =>
   obtain ⟨t1, s1⟩ := ts
   simp only [h1] at h
   refine stepX_sound hT hcall h0.symm ht hd hrd hs h1 (fun ρ' a1 w' k1 k2 k3 k4 => ?_)
   refine opsP_sound hT hcall hce l (k + 1) (fun j => by have := hl (j + 1); rw [Nat.add_assoc, Nat.add_comm 1 j]; simpa using this) k3 k4 (by rw [evStepX_rd h1]; exact hrd.mono k1.1) k2 h (fun ρ2 v' a2 w2 q1 q2 q3 q4 q5 q6 => ?_)
   exact hQ ρ2 v' a2 w2 (Loc.lex_trans k1 q1 (Ext.stepX hce h1).ctr) q2 q3 q4 q5 q6

def ExR (w0 : World) (B0 : Nat) (ρ : Loc) : Ex → Exit → Prop
 | .normal, .normal => True
 | .exit i, .exit j => i = j
 | .goto l, .goto m => l = m
 | .ret, .ret => True
 | .panic v, .panic ch => ∃ v', ch = [{ v := v', recovered := false }] ∧ VR w0 B0 ρ v v'
 | _, _ => False

def After (w0 : World) (B0 : Nat) (ρ : Loc) (c : Nat) (rd : Option Nat) (x : Ex) (t : TL) (s : St) : Exit → Act → World → Prop := fun e a w =>
 ∃ ρ' : Loc, ρ.lex c ρ' ∧ ExR w0 B0 ρ' x e ∧ Sim w0 B0 ρ' s w ∧ TR w0 B0 ρ' t a.tmps ∧ DsR w0 B0 ρ' t.ds a.defers ∧ RdR ρ' t.rd rd

theorem After.mono {ρ ρ' : Loc} {c c' : Nat} {rd : Option Nat} (h : ρ.lex c ρ') (hc : c ≤ c') {x : Ex} {t : TL} {s : St} {e : Exit} {a : Act} {w : World} (k : After w0 B0 ρ' c' rd x t s e a w) : After w0 B0 ρ c rd x t s e a w := by
 obtain ⟨ρ2, k3, k⟩ := k
 exact ⟨ρ2, Loc.lex_trans h k3 hc, k⟩

section
variable {b : Frame} {a : Act} {k : List Item} {cs : List Frame} {w : World}
theorem stepR_scope {c : Code} : step P (lone (b.atR a (.code (.scope c) :: k)) cs w) = .next (lone (b.atR a (.code c :: .inScope c :: k)) cs w) :=
 step_lone_go (by simp [stepG, stepG.exec, Frame.atR])
theorem stepR_inScope {c : Code} : step P (lone (b.atR a (.inScope c :: k)) cs w) = .next (lone (b.atR a k) cs w) :=
 step_lone_go (by simp [stepG, stepG.exec, Frame.atR])
theorem frOne {rd : Option Nat} {m m' : Machine} (h : step P m = .next m') : StepsIn (Machine.fenced P (Fen rd)) P m m' := .one (fenced_wide P m) h
end

def LoopAt (P : Program) (rd : Option Nat) (c : Code) (Q : Exit → Act → World → Prop) (a : Act) (w : World) : Prop :=
 ∀ (b : Frame) (k : List Item) (cs : List Frame), b.roundOf = rd → ∃ e a' w', Q e a' w' ∧ ArrivesIn (Machine.fenced P (Fen rd)) P (lone (b.atR a (.code c :: .inLoop c :: k)) cs w) b k cs e a' w'
theorem LoopAt.loop {rd : Option Nat} {c : Code} {Q : Exit → Act → World → Prop} {a : Act} {w : World} (h : LoopAt P rd c Q a w) : (Code.loop c).wpIn (Fen rd) 0 P Q a w := by
 intro b k cs hb _ _
 obtain ⟨e, a', w', hq, harr⟩ := h b k cs hb
 exact ⟨e, a', w', hq, .of_steps (frOne stepR_loop) harr⟩
theorem LoopAt.of {rd : Option Nat} {c : Code} {Q : Exit → Act → World → Prop} {a : Act} {w : World} (h : c.wpIn (Fen rd) 0 P (Exit.then (LoopAt P rd c Q) Q) a w) : LoopAt P rd c Q a w := by
 intro b k cs hb
 obtain ⟨e, a₁, w₁, hq, harr⟩ := h b (.inLoop c :: k) cs hb trivial (Fen.room _ _)
 cases e with
 | normal =>
  obtain ⟨e₂, a₂, w₂, hq₂, harr₂⟩ := hq b k cs hb
  exact ⟨e₂, a₂, w₂, hq₂, .of_steps (StepsIn.trans harr (frOne stepR_inLoop)) harr₂⟩
 | exit id => exact ⟨_, a₁, w₁, hq, .pass (x := .inLoop c) rfl (fun _ _ => .inl (by simp)) harr⟩
 | goto l => exact ⟨_, a₁, w₁, hq, .pass (x := .inLoop c) rfl (fun _ _ => .inl (by simp)) harr⟩
 | ret => exact ⟨_, a₁, w₁, hq, .pass (x := .inLoop c) rfl (fun _ _ => .inl (by simp)) harr⟩
 | panic ch => exact ⟨_, a₁, w₁, hq, .pass (x := .inLoop c) rfl (fun _ _ => .inl (by simp)) harr⟩
 | outgrown => exact ⟨_, a₁, w₁, hq, .pass (x := .inLoop c) rfl (fun _ _ => .inl (by simp)) harr⟩
def ScopeAt (P : Program) (rd : Option Nat) (c r : Code) (Q : Exit → Act → World → Prop) (a : Act) (w : World) : Prop :=
 ∀ (b : Frame) (k : List Item) (cs : List Frame), b.roundOf = rd → ∃ e a' w', Q e a' w' ∧ ArrivesIn (Machine.fenced P (Fen rd)) P (lone (b.atR a (.code r :: .inScope c :: k)) cs w) b k cs e a' w'
theorem ScopeAt.scope {rd : Option Nat} {c : Code} {Q : Exit → Act → World → Prop} {a : Act} {w : World} (h : ScopeAt P rd c c Q a w) : (Code.scope c).wpIn (Fen rd) 0 P Q a w := by
 intro b k cs hb _ _
 obtain ⟨e, a', w', hq, harr⟩ := h b k cs hb
 exact ⟨e, a', w', hq, .of_steps (frOne stepR_scope) harr⟩
def scopeQ (P : Program) (rd : Option Nat) (c : Code) (Q : Exit → Act → World → Prop) : Exit → Act → World → Prop
 | .goto l, a, w => match findLabel c l with
  | some r => ScopeAt P rd c r Q a w
  | none => Q (.goto l) a w
 | e, a, w => Q e a w
theorem ScopeAt.of {rd : Option Nat} {c r : Code} {Q : Exit → Act → World → Prop} {a : Act} {w : World} (h : r.wpIn (Fen rd) 0 P (scopeQ P rd c Q) a w) : ScopeAt P rd c r Q a w := by
 intro b k cs hb
 obtain ⟨e, a₁, w₁, hq, harr⟩ := h b (.inScope c :: k) cs hb trivial (Fen.room _ _)
 cases e with
 | normal => exact ⟨.normal, a₁, w₁, hq, StepsIn.trans harr (frOne stepR_inScope)⟩
 | exit id =>
  have hx : exitTo id (.inScope c :: k) = exitTo id k := by simp [exitTo]
  exact ⟨.exit id, a₁, w₁, hq, ⟨fun k' hk => harr.1 k' (by rw [hx]; exact hk), fun hr hk => harr.2 hr (by rw [hx]; exact hk)⟩⟩
 | goto l =>
  simp only [scopeQ] at hq
  cases hf : findLabel c l with
  | some r' =>
   rw [hf] at hq
   obtain ⟨e₂, a₂, w₂, hq₂, harr₂⟩ := hq b k cs hb
   exact ⟨e₂, a₂, w₂, hq₂, .of_steps (harr.1 _ (by simp [gotoIn, hf])) harr₂⟩
  | none =>
   rw [hf] at hq
   have hx : gotoIn l (.inScope c :: k) = gotoIn l k := by simp [gotoIn, hf]
   exact ⟨.goto l, a₁, w₁, hq, ⟨fun k' hk => harr.1 k' (by rw [hx]; exact hk), fun hr hk => harr.2 hr (by rw [hx]; exact hk)⟩⟩
 | ret => exact ⟨_, a₁, w₁, hq, harr⟩
 | panic ch => exact ⟨_, a₁, w₁, hq, harr⟩
 | outgrown => exact ⟨_, a₁, w₁, hq, harr⟩

theorem Sim.loop {ρ : Loc} {s : St} {w : World} (hs : Sim w0 B0 ρ s w) {g b n : Nat} {r : LRec} (hρ : ρ g 0 = some (b, 0, n)) (h : s.loop g = some r) : ∃ V x, s.get g = some ⟨[V]⟩ ∧ w.heap[b]? = some (.loop x) ∧ OwnR w0 B0 ρ (.loop r) (.loop x) := by
 unfold St.loop at h
 split at h
 ·rename_i V hG
  split at h
  ·rename_i r' hmp
   cases h
   obtain ⟨_, G, V', q2, q3, q4⟩ := hs.ver g 0 b 0 n hρ
   rw [hG] at q2
   cases q2
   simp at q3
   subst q3
   cases q4 with
   | arr c e h1 h2 h3 h4 h5 h6 => rw [h6] at hmp; cases hmp
   | map es ents clock h1 h2 h3 h4 => rw [h3] at hmp; cases hmp
   | own o x h0 h1 h2 h3 h4 =>
    rw [h3] at hmp
    cases hmp
    cases h2 with
    | loop _ x b' n' k1 k2 k3 k4 k5 k6 k7 k8 => exact ⟨V, x, hG, h1, .loop _ x b' n' k1 k2 k3 k4 k5 k6 k7 k8⟩
  ·cases h
 ·cases h
 ·cases h
theorem Sim.dfr {ρ : Loc} {s : St} {w : World} (hs : Sim w0 B0 ρ s w) {g b n : Nat} (hρ : ρ g 0 = some (b, 0, n)) (h : s.dfr g = true) : ∃ V, s.get g = some ⟨[V]⟩ ∧ w.heap[b]? = some (.deferred (some [])) := by
 unfold St.dfr at h
 split at h
 ·rename_i V hG
  split at h
  ·rename_i q hmp
   subst h
   obtain ⟨_, G, V', q2, q3, q4⟩ := hs.ver g 0 b 0 n hρ
   rw [hG] at q2
   cases q2
   simp at q3
   subst q3
   cases q4 with
   | arr c e h1 h2 h3 h4 h5 h6 => rw [h6] at hmp; cases hmp
   | map es ents clock h1 h2 h3 h4 => rw [h3] at hmp; cases hmp
   | own o x h0 h1 h2 h3 h4 =>
    rw [h3] at hmp
    cases hmp
    cases h2
    exact ⟨V, hG, h1⟩
  ·cases h
 ·cases h
theorem Sim.put_loop {ρ : Loc} {s : St} {w : World} (hs : Sim w0 B0 ρ s w) {g b n : Nat} {V : Ver} {r : LRec} {x : Loop} (hρ : ρ g 0 = some (b, 0, n)) (hG : s.get g = some ⟨[V]⟩) (hb : w.heap[b]? = some (.loop x)) (hr : OwnR w0 B0 ρ (.loop r) (.loop x)) (q : LoopState) (p : Option Code) :
  Sim w0 B0 ρ (s.setOwn g (.loop { r with state := q, pend := p })) (w.putObj b (.loop { x with state := q, pending := p })) := by
 refine hs.put_own (o := .loop { r with state := q, pend := p }) (x := .loop { x with state := q, pending := p }) hρ hG hb fun w' hw => .own _ _ rfl hw ?_ rfl rfl
 cases hr with
 | loop _ _ b' n' k1 k2 k3 k4 k5 k6 k7 k8 => exact .loop _ _ b' n' rfl rfl k3 k4 k5 k6 k7 k8
end
end Go.Ab
