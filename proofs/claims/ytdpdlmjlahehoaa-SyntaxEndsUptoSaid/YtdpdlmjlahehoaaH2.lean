/- Rows and variables in the abstract machine's memory, and what reading, writing and appending do to them. -/
import Derived.Test.YtdpdlmjlahehoaaH1
namespace Go.Ab
/-- Cells read of a heap. -/
noncomputable def rdH (h : Tr Grp) (g j off n : Nat) : Option (List AV) :=
  match Tr.get h g with
  | none => none
  | some G => G.read j off n
theorem read_rd (s : St) (g j off n : Nat) : s.read g j off n = rdH s.h g j off n := rfl
theorem Grp.read_eq {G : Grp} {j off n : Nat} {cs : List AV} (h : G.read j off n = some cs) : ∃ V, G.vers[j]? = some V ∧ V.mp = none ∧ off + n ≤ V.cells.length ∧ (V.cells.drop off).take n = cs := by
  unfold Grp.read at h
  cases hj : G.vers[j]? with
  | none => rw [hj] at h; cases h
  | some V =>
    rw [hj] at h
    simp only at h
    split at h
    · rename_i hc
      exact ⟨V, rfl, Option.isNone_iff_eq_none.1 hc.1, hc.2, Option.some.inj h⟩
    · cases h
theorem Grp.read_mk {G : Grp} {j off n : Nat} {V : Ver} (h : G.vers[j]? = some V) (hm : V.mp = none) (hl : off + n ≤ V.cells.length) : G.read j off n = some ((V.cells.drop off).take n) := by
  unfold Grp.read
  rw [h]
  simp only [hm, Option.isNone_none, true_and, hl, if_true]
theorem rdH_len {h : Tr Grp} {g j off n : Nat} {cs : List AV} (k : rdH h g j off n = some cs) : cs.length = n := by
  unfold rdH at k
  split at k
  · cases k
  · obtain ⟨V, -, -, hl, rfl⟩ := Grp.read_eq k
    simp; omega
theorem rdH_has {h : Tr Grp} {g j off n : Nat} {cs : List AV} (k : rdH h g j off n = some cs) : ∃ G, Tr.get h g = some G := by
  unfold rdH at k
  split at k
  · cases k
  · exact ⟨_, ‹_›⟩
/-- A part of what is read. -/
theorem rdH_part {h : Tr Grp} {g j off n : Nat} {cs : List AV} (k : rdH h g j off n = some cs) (o l : Nat) (hl : o + l ≤ n) : rdH h g j (off + o) l = some ((cs.drop o).take l) := by
  unfold rdH at k ⊢
  split at k
  · cases k
  · rename_i G hG
    obtain ⟨V, h1, h2, h3, rfl⟩ := Grp.read_eq k
    rw [Grp.read_mk h1 h2 (by omega)]
    congr 1
    rw [List.drop_take, List.drop_drop, List.take_take, Nat.min_eq_left (by omega)]
def St.Ok (s : St) : Prop := ∀ g, s.ctr ≤ g → Tr.get s.h g = none
/-- All but the groups of X is as it was. -/
structure Keep (X : List Nat) (s s' : St) : Prop where
  ok : s'.Ok
  ctr : s.ctr ≤ s'.ctr
  keep : ∀ g, g ∉ X → ∀ G, Tr.get s.h g = some G → Tr.get s'.h g = some G
  new : ∀ g, g < s.ctr → Tr.get s.h g = none → Tr.get s'.h g = none
theorem Keep.refl {s : St} (h : s.Ok) : Keep [] s s := ⟨h, Nat.le_refl _, fun _ _ _ h => h, fun _ _ h => h⟩
theorem Keep.trans {X Y : List Nat} {s s' s'' : St} (h : Keep X s s') (k : Keep Y s' s'') (hY : ∀ g ∈ Y, g ∈ X ∨ Tr.get s.h g = none) : Keep X s s'' :=
  ⟨k.ok, Nat.le_trans h.ctr k.ctr, fun g hg G hG => k.keep g (fun hy => (hY g hy).elim hg (fun e => by rw [e] at hG; cases hG)) G (h.keep g hg G hG),
    fun g hg hn => k.new g (Nat.lt_of_lt_of_le hg h.ctr) (h.new g hg hn)⟩
theorem Keep.more {X Y : List Nat} {s s' : St} (h : Keep X s s') (hs : ∀ g ∈ X, g ∈ Y) : Keep Y s s' := ⟨h.ok, h.ctr, fun g hg => h.keep g (fun e => hg (hs g e)), h.new⟩
theorem rdH_keep {X : List Nat} {s s' : St} (h : Keep X s s') {g j off n : Nat} {cs : List AV} (hg : g ∉ X) (k : rdH s.h g j off n = some cs) : rdH s'.h g j off n = some cs := by
  unfold rdH at k ⊢
  split at k
  · cases k
  · rename_i G hG
    rw [h.keep g hg G hG]
    exact k

/-- The groups of a value. -/
def AV.gs : AV → List Nat
  | .ptr g _ _ => [g]
  | .slc g _ _ _ _ _ _ => [g]
  | .mp g => [g]
  | _ => []
/-- A row: its elements' cells. -/
def Row (h : Tr Grp) (sz : Nat) : AV → List (List AV) → Prop
  | .nils, cs => cs = []
  | .ro _ xs, cs => xs.map AV.cells = cs ∧ ∀ c ∈ cs, c.length = sz ∧ c.all AV.leaf = true
  | .slc g j off sz' len lo _, cs => sz' = sz ∧ sz ≠ 0 ∧ len = cs.length ∧ len ≤ lo ∧ (∀ c ∈ cs, c.length = sz ∧ c.all AV.leaf = true) ∧ ∃ rest, rdH h g j off (lo * sz) = some (cs.flatten ++ rest)
  | _, _ => False
theorem Row.cells {h : Tr Grp} {sz : Nat} {v : AV} {cs : List (List AV)} (k : Row h sz v cs) : ∀ c ∈ cs, c.length = sz ∧ c.all AV.leaf = true := by
  cases v with
  | nils => cases k; intro c hc; cases hc
  | ro nl xs => exact k.2
  | slc g j off sz' len lo ex => exact k.2.2.2.2.1
  | _ => exact k.elim
theorem Row.slen {h : Tr Grp} {sz : Nat} {v : AV} {cs : List (List AV)} (k : Row h sz v cs) : v.slen = some cs.length := by
  cases v with
  | nils => cases k; rfl
  | ro nl xs => rw [← k.1]; simp [AV.slen]
  | slc g j off sz' len lo ex => exact congrArg some k.2.2.1
  | _ => exact k.elim
theorem flat_len {cs : List (List AV)} {sz : Nat} (h : ∀ c ∈ cs, c.length = sz) : cs.flatten.length = cs.length * sz := by
  induction cs with
  | nil => simp
  | cons c cs ih =>
    rw [List.flatten_cons, List.length_append, ih (fun x hx => h x (List.mem_cons_of_mem _ hx)), h c (List.mem_cons_self ..), List.length_cons, Nat.succ_mul, Nat.add_comm]
theorem Row.rd {h : Tr Grp} {sz : Nat} {cs : List (List AV)} {g j off sz' len lo : Nat} {ex : Bool} (k : Row h sz (.slc g j off sz' len lo ex) cs) : rdH h g j off (len * sz) = some cs.flatten := by
  obtain ⟨rfl, h2, rfl, h4, h5, rest, h6⟩ := k
  have hfl : cs.flatten.length = cs.length * sz' := flat_len fun c hc => (h5 c hc).1
  have := rdH_part h6 0 (cs.length * sz') (by have := Nat.mul_le_mul_right sz' h4; omega)
  rw [Nat.add_zero, List.drop_zero, List.take_append_of_le_length (by omega), List.take_of_length_le (by omega)] at this
  exact this
theorem flat_part {cs : List (List AV)} {sz : Nat} (h : ∀ c ∈ cs, c.length = sz) {i : Nat} {c : List AV} (hc : cs[i]? = some c) : (cs.flatten.drop (i * sz)).take sz = c := by
  induction cs generalizing i with
  | nil => simp at hc
  | cons x cs ih =>
    have hx := h x (List.mem_cons_self ..)
    cases i with
    | zero =>
      simp only [List.getElem?_cons_zero, Option.some.injEq] at hc
      subst hc
      simp [List.flatten_cons, ← hx]
    | succ i =>
      rw [List.flatten_cons, Nat.succ_mul, Nat.add_comm, ← List.drop_drop, ← hx, List.drop_left, hx]
      exact ih (fun y hy => h y (List.mem_cons_of_mem _ hy)) (by simpa using hc)
theorem flat_set {cs : List (List AV)} {sz : Nat} (h : ∀ c ∈ cs, c.length = sz) {i : Nat} {c : List AV} (hi : i < cs.length) (hc : c.length = sz) : over cs.flatten (i * sz) c = (cs.set i c).flatten := by
  induction cs generalizing i with
  | nil => simp at hi
  | cons x cs ih =>
    have hx := h x (List.mem_cons_self ..)
    cases i with
    | zero =>
      unfold over
      simp [List.flatten_cons, hc, ← hx]
    | succ i =>
      have := ih (i := i) (fun y hy => h y (List.mem_cons_of_mem _ hy)) (by simpa using hi)
      unfold over at this ⊢
      rw [List.set_cons_succ, List.flatten_cons, List.flatten_cons, ← this, Nat.succ_mul, Nat.add_comm (i * sz) sz, ← hx]
      rw [List.take_length_add_append, Nat.add_assoc, List.drop_length_add_append]
      simp [List.append_assoc]
theorem flat_app (cs ns : List (List AV)) : (cs ++ ns).flatten = cs.flatten ++ ns.flatten := List.flatten_append
theorem Row.elems {s : St} {sz : Nat} {v : AV} {cs : List (List AV)} (k : Row s.h sz v cs) : s.elems sz v = some cs.flatten := by
  cases v with
  | nils => cases k; rfl
  | ro nl xs =>
    obtain ⟨rfl, h⟩ := k
    have : (xs.all fun x => decide (x.cells.length = sz) && x.cells.all AV.leaf) = true := by
      rw [List.all_eq_true]
      intro x hx
      have := h x.cells (List.mem_map_of_mem hx)
      simp only [this.1, this.2, decide_true, Bool.and_self]
    simp only [St.elems, this, if_true, List.flatMap_def]
  | slc g j off sz' len lo ex =>
    have h := k.rd
    obtain ⟨rfl, -⟩ := k
    simp only [St.elems, if_true]
    exact h
  | _ => exact k.elim
theorem Row.keep {X : List Nat} {s s' : St} {sz : Nat} {v : AV} {cs : List (List AV)} (k : Row s.h sz v cs) (h : Keep X s s') (hg : ∀ g ∈ v.gs, g ∉ X) : Row s'.h sz v cs := by
  cases v with
  | nils => exact k
  | ro nl xs => exact k
  | slc g j off sz' len lo ex =>
    obtain ⟨h1, h2, h3, h4, h5, rest, h6⟩ := k
    exact ⟨h1, h2, h3, h4, h5, rest, rdH_keep h (hg g (List.mem_cons_self ..)) h6⟩
  | _ => exact k.elim
theorem Row.has {h : Tr Grp} {sz : Nat} {v : AV} {cs : List (List AV)} (k : Row h sz v cs) : ∀ g ∈ v.gs, ∃ G, Tr.get h g = some G := by
  cases v with
  | slc g j off sz' len lo ex =>
    intro x hx
    rw [List.mem_singleton.1 hx]
    exact rdH_has k.rd
  | nils => intro x hx; cases hx
  | ro nl xs => intro x hx; cases hx
  | _ => exact k.elim

/-- The address of an element. -/
def elemA (v : AV) (i : Nat) : AV := match v with
  | .slc g j off sz _ _ _ => .ptr g j (off + i * sz)
  | .ro _ xs => match xs[i]? with
    | some x => .rop x.cells
    | none => .undef
  | _ => .undef
/-- A field's address. -/
def fldA (p : AV) (o : Nat) : AV := match p with
  | .ptr g j off => .ptr g j (off + o)
  | .rop cs => .rop (cs.drop o)
  | _ => .undef
/-- What lies at an address. -/
def Pt (h : Tr Grp) : AV → List AV → Prop
  | .ptr g j off, cs => rdH h g j off cs.length = some cs
  | .rop xs, cs => xs.take cs.length = cs ∧ xs.all AV.leaf = true
  | _, _ => False
theorem Pt.fld {h : Tr Grp} {p : AV} {cs : List AV} (k : Pt h p cs) (o : Nat) (ho : o ≤ cs.length) : Pt h (fldA p o) (cs.drop o) := by
  cases p with
  | ptr g j off =>
    have := rdH_part k o (cs.length - o) (by omega)
    simp only [fldA, Pt, List.length_drop]
    rw [this, List.take_of_length_le (by simp)]
  | rop xs =>
    obtain ⟨h1, h2⟩ := k
    refine ⟨?_, ?_⟩
    · rw [List.length_drop, ← List.drop_take, h1]
    · rw [List.all_eq_true] at h2 ⊢
      exact fun x hx => h2 x (List.mem_of_mem_drop hx)
  | _ => exact k.elim
theorem Pt.keep {X : List Nat} {s s' : St} {p : AV} {cs : List AV} (k : Pt s.h p cs) (h : Keep X s s') (hg : ∀ g ∈ p.gs, g ∉ X) : Pt s'.h p cs := by
  cases p with
  | ptr g j off => exact rdH_keep h (hg g (List.mem_cons_self ..)) k
  | rop xs => exact k
  | _ => exact k.elim
theorem Row.pt {h : Tr Grp} {sz : Nat} {v : AV} {cs : List (List AV)} (k : Row h sz v cs) {i : Nat} {c : List AV} (hc : cs[i]? = some c) : Pt h (elemA v i) c := by
  have hi : i < cs.length := (List.getElem?_eq_some_iff.1 hc).1
  have hcc := k.cells c (List.mem_of_getElem? hc)
  cases v with
  | nils => cases k; simp at hc
  | ro nl xs =>
    obtain ⟨rfl, h2⟩ := k
    rw [List.getElem?_map] at hc
    cases hx : xs[i]? with
    | none => rw [hx] at hc; cases hc
    | some x =>
      rw [hx] at hc
      cases hc
      simp only [elemA, hx, Pt]
      exact ⟨by simp, hcc.2⟩
  | slc g j off sz' len lo ex =>
    have h6 := k.rd
    obtain ⟨rfl, h2, rfl, h4, h5, -⟩ := k
    simp only [elemA, Pt]
    have : i * sz' + sz' ≤ cs.length * sz' := by rw [← Nat.succ_mul]; exact Nat.mul_le_mul_right _ hi
    rw [hcc.1, rdH_part h6 (i * sz') sz' this, flat_part (fun c hc => (h5 c hc).1) hc]
  | _ => exact k.elim
theorem Row.mk_pt {h : Tr Grp} {sz : Nat} {v : AV} {α : Type} {f : α → List AV} {xs : List α} (k : Row h sz v (xs.map f)) {i : Nat} {x : α} (hc : xs[i]? = some x) : Pt h (elemA v i) (f x) :=
  k.pt (by rw [List.getElem?_map, hc]; rfl)

section
variable {T : Tab} {nt : Nat} {m : Sy} {s : St}
/-- Operations that need no memory. -/
def pureY (T : Tab) (m : Sy) : Op → Option AV
  | .move x | .assign x => evY m x
  | .pick c a b => match evY m c with
    | some (.bool true) => match evY m b with
      | some _ => evY m a
      | none => none
    | some (.bool false) => match evY m a with
      | some _ => evY m b
      | none => none
    | _ => none
  | .nilCheck x => match evY m x with
    | some (.ptr g j off) => some (.ptr g j off)
    | some (.rop cs) => some (.rop cs)
    | _ => none
  | .binOp op xt x y _ => match evY m x, evY m y with
    | some vx, some vy => binA T op xt vx vy
    | _, _ => none
  | .unOp op _ x => match evY m x with
    | none => none
    | some vx => unA op vx
  | .makeFunc (.func f) first caps => if first.size ≠ 0 then none else
    match evsY m caps.toList with
    | none => none
    | some vs => some (.fn f vs)
  | .field st x f => match T st with
    | some { sh := .struct fs, .. } => match fs[f]?, evY m x with
      | some (off, sz, ag), some (.agg cs) =>
        if off + sz ≤ cs.length ∧ (ag = false → sz = 1) then ofCells ag ((cs.drop off).take sz) else none
      | _, _ => none
    | _ => none
  | .build tt parts => match T tt with
    | none => none
    | some i => match evPartsY m parts.toList with
      | none => none
      | some ps =>
        match (match i.sh with
          | .struct fs => fillA (fun n => (fs[n]?).map fun f => (f.1, f.2.1)) i.zero ps
          | .array _ e => match T e with
            | none => none
            | some ie => fillA (fun n => some (n * ie.size, ie.size)) i.zero ps
          | _ => none) with
        | none => none
        | some cs => some (.agg cs)
  | .extract x i => match evY m x with
    | some (.tup vs) => vs[i]?
    | _ => none
  | _ => none
theorem op_pure {o : Op} {v : AV} (h : pureY T m o = some v) : ∀ t, Has t nt m → evOp T o t s = some (.val v, s) := by
  intro t ht
  unfold pureY at h
  split at h
  · simp only [evOp, evY_ok ht h]
  · simp only [evOp, evY_ok ht h]
  · split at h
    · rename_i hq
      split at h
      · rename_i hb
        simp only [evOp, evY_ok ht hq, evY_ok ht h, evY_ok ht hb, if_true]
      · cases h
    · rename_i hq
      split at h
      · rename_i ha
        simp only [evOp, evY_ok ht hq, evY_ok ht h, evY_ok ht ha, Bool.false_eq_true, if_false]
      · cases h
    · cases h
  · split at h
    · rename_i hq
      cases h
      simp only [evOp, evY_ok ht hq]
    · rename_i hq
      cases h
      simp only [evOp, evY_ok ht hq]
    · cases h
  · split at h
    · rename_i ha hb
      simp only [evOp, evY_ok ht ha, evY_ok ht hb, h]
    · cases h
  · split at h
    · cases h
    · rename_i ha
      simp only [evOp, evY_ok ht ha, h]
  · split at h
    · cases h
    · rename_i hf
      split at h
      · cases h
      · rename_i hv
        cases h
        simp only [evOp, hf, if_false, evsY_ok ht hv]
  · split at h
    · rename_i hT
      split at h
      · rename_i hf hx
        split at h
        · rename_i hc
          obtain ⟨c1, c2⟩ := hc
          simp only [evOp, hT, hf, evY_ok ht hx]
          rw [if_pos ⟨c1, c2⟩, h]
        · cases h
      · cases h
    · cases h
  · split at h
    · cases h
    · rename_i hT
      split at h
      · cases h
      · rename_i hp
        split at h
        · cases h
        · rename_i hc
          cases h
          simp only [evOp, hT, evPartsY_ok ht hp]
          rename_i i _ _ _ _
          cases hsh : i.sh with
          | array n e =>
            rw [hsh] at hc
            cases hTe : T e with
            | none => simp only [hTe] at hc; cases hc
            | some ie => simp only [hTe] at hc ⊢; rw [hc]
          | _ => rw [hsh] at hc <;> simp_all
  · split at h
    · rename_i hx
      simp only [evOp, evY_ok ht hx, h]
    · cases h
  · cases h
theorem op_int {op : BinOp} {xt yt : TypeId} {x y : Operand} {k : IntKind} {a b : Int} {v : AV} (hx : evY m x = some (.int k a)) (hy : evY m y = some (.int k b)) (hn : op ≠ .shl ∧ op ≠ .shr) (h : intA op k a b = some v) :
    ∀ t, Has t nt m → evOp T (.binOp op xt x y yt) t s = some (.val v, s) := by
  intro t ht
  have : binA T op xt (.int k a) (.int k b) = some v := by
    unfold binA
    cases op <;> simp_all
  simp only [evOp, evY_ok ht hx, evY_ok ht hy, this]
def In64 (a : Int) : Prop := -9223372036854775808 ≤ a ∧ a < 9223372036854775808
theorem wrap64 {a : Int} (h : In64 a) : IntKind.i64.wrap a = a := by
  obtain ⟨h1, h2⟩ := h
  simp only [IntKind.wrap, IntKind.signed, IntKind.bits, Bool.true_and, decide_eq_true_eq, ge_iff_le, show (2 : Int) ^ 64 = 18446744073709551616 from rfl, show (2 : Int) ^ (64 - 1) = 9223372036854775808 from rfl]
  by_cases hc : (9223372036854775808 : Int) ≤ a % 18446744073709551616
  · rw [if_pos hc]; omega
  · rw [if_neg hc]; omega
theorem op_add {xt yt : TypeId} {x y : Operand} {a b : Int} (hx : evY m x = some (.int .i64 a)) (hy : evY m y = some (.int .i64 b)) (h : In64 (a + b)) :
    ∀ t, Has t nt m → evOp T (.binOp .add xt x y yt) t s = some (.val (.int .i64 (a + b)), s) :=
  op_int hx hy (by decide) (by unfold intA; rw [wrap64 h])
theorem op_sub {xt yt : TypeId} {x y : Operand} {a b : Int} (hx : evY m x = some (.int .i64 a)) (hy : evY m y = some (.int .i64 b)) (h : In64 (a - b)) :
    ∀ t, Has t nt m → evOp T (.binOp .sub xt x y yt) t s = some (.val (.int .i64 (a - b)), s) :=
  op_int hx hy (by decide) (by unfold intA; rw [wrap64 h])
theorem op_len {tt : TypeId} {x : Operand} {v : AV} {i : TI} {e : TypeId} {n : Nat} {args : Array Operand} {tys : Array TypeId} (ha : args.toList = [x]) (hb : tys.toList = [tt]) (hx : evY m x = some v) (hT : T tt = some i) (hs : i.sh = .slice e) (hn : v.slen = some n) :
    ∀ t, Has t nt m → evOp T (.call ⟨.builtin .len, args, tys⟩) t s = some (.val (.int .i64 n), s) := by
  intro t ht
  have h1 : evsY m [x] = some [v] := by simp only [evsY, hx]
  simp only [evOp, ha, hb, evsY_ok ht h1, callA, lenA, hT, hs, hn]
theorem op_fld {st : TypeId} {x : Operand} {f : Nat} {i : TI} {fs : List (Nat × Nat × Bool)} {off sz : Nat} {ag : Bool} {p : AV} {cs : List AV} (hx : evY m x = some p) (hT : T st = some i) (hs : i.sh = .struct fs) (hf : fs[f]? = some (off, sz, ag)) (hz : sz ≠ 0) (hp : Pt s.h p cs) (ho : off ≤ cs.length) :
    ∀ t, Has t nt m → evOp T (.fieldAddr st x f) t s = some (.val (fldA p off), s) := by
  intro t ht
  obtain ⟨sh, size, bytes, zero, flat⟩ := i
  cases hs
  cases p with
  | ptr g j o => simp only [evOp, hT, hf, evY_ok ht hx, hz, if_false, fldA]
  | rop xs =>
    have : off ≤ xs.length := by
      have := congrArg List.length hp.1
      rw [List.length_take] at this
      omega
    simp only [evOp, hT, hf, evY_ok ht hx, hz, if_false, fldA, this, if_true]
  | _ => exact hp.elim
def loadC (i : TI) (cs : List AV) : Option AV := if i.cnt ≤ cs.length then ofCells i.sh.isAgg (cs.take i.cnt) else none
theorem op_load {tt : TypeId} {a : Operand} {i : TI} {p v : AV} {cs : List AV} (hx : evY m a = some p) (hT : T tt = some i) (hp : Pt s.h p cs) (hc : loadC i cs = some v) :
    ∀ t, Has t nt m → evOp T (.load tt a) t s = some (.val v, s) := by
  intro t ht
  unfold loadC at hc
  split at hc
  · rename_i hl
    cases p with
    | ptr g j o =>
      have := rdH_part hp 0 i.cnt (by omega)
      rw [Nat.add_zero, List.drop_zero] at this
      simp only [evOp, hT, evY_ok ht hx, read_rd, this, hc]
    | rop xs =>
      obtain ⟨h1, h2⟩ := hp
      have h3 := congrArg List.length h1
      rw [List.length_take] at h3
      have h4 : xs.take i.cnt = cs.take i.cnt := by rw [← h1, List.take_take, Nat.min_eq_left hl]
      have h5 : i.cnt ≤ xs.length := by omega
      simp only [evOp, hT, evY_ok ht hx, h2, h4, h5, and_self, if_true, hc]
    | _ => exact hp.elim
  · cases hc
theorem op_idx {tt : TypeId} {x ix : Operand} {i ie : TI} {e : TypeId} {v vi : AV} {n : Nat} {cs : List (List AV)} (hx : evY m x = some v) (hi : evY m ix = some vi) (hn : natA vi = some n) (hT : T tt = some i) (hs : i.sh = .slice e) (he : T e = some ie) {sz : Nat} (hz : ie.size = sz) (hr : Row s.h sz v cs) (hl : n < cs.length) :
    ∀ t, Has t nt m → evOp T (.indexAddr tt x ix) t s = some (.val (elemA v n), s) := by
  intro t ht
  obtain ⟨sh, size, bytes, zero, flat⟩ := i
  cases hs
  have : idxA T tt v n = some (elemA v n) := by
    cases v with
    | nils => cases hr; simp at hl
    | ro nl xs =>
      obtain ⟨rfl, h2⟩ := hr
      rw [List.length_map] at hl
      have hx : xs[n]? = some xs[n] := List.getElem?_eq_getElem hl
      have h3 := (h2 xs[n].cells (List.mem_map_of_mem (List.getElem_mem hl))).1
      unfold idxA elemA
      simp only [hT, he, hx, h3, hz, if_true]
    | slc g j off sz' len lo ex =>
      obtain ⟨rfl, h2, rfl, h4, h5, h6⟩ := hr
      unfold idxA elemA
      simp only [hT, he, hz, hl, and_self, if_true]
    | _ => exact hr.elim
  simp only [evOp, evY_ok ht hx, evY_ok ht hi, hn, this]
theorem Row.slenF {h : Tr Grp} {sz : Nat} {v : AV} {α : Type} {f : α → List AV} {xs : List α} (k : Row h sz v (xs.map f)) : v.slen = some xs.length := by rw [k.slen, List.length_map]
theorem natA_cast (k : IntKind) (n : Nat) : natA (.int k (n : Int)) = some n := by simp [natA]
theorem op_idxF {tt : TypeId} {x ix : Operand} {i ie : TI} {e : TypeId} {v vi : AV} {n : Nat} {α : Type} {f : α → List AV} {xs : List α} (hx : evY m x = some v) (hi : evY m ix = some vi) (hn : natA vi = some n) (hT : T tt = some i) (hs : i.sh = .slice e) (he : T e = some ie) {sz : Nat} (hz : ie.size = sz) (hr : Row s.h sz v (xs.map f)) (hl : n < xs.length) :
    ∀ t, Has t nt m → evOp T (.indexAddr tt x ix) t s = some (.val (elemA v n), s) :=
  op_idx hx hi hn hT hs he hz hr (by rwa [List.length_map])
theorem natA_toNat {k : IntKind} {a : Int} (h : 0 ≤ a) : natA (.int k a) = some a.toNat := by simp [natA, h]
end
end Go.Ab
