/- Steps of operations that turn memory: variables, stores, made slices, append, cuts, copy. -/
import Derived.Test.YtdpdlmjlahehoaaH3
namespace Go.Ab
/-- A part of a row. -/
def cutA (v : AV) (l h : Nat) : AV := match v with
  | .slc g j off sz _ lo ex => .slc g j (off + l * sz) sz (h - l) (lo - l) ex
  | .ro nl xs => .ro nl ((xs.drop l).take (h - l))
  | v => v
theorem cutA_gs (v : AV) (l h : Nat) : (cutA v l h).gs = v.gs := by cases v <;> rfl
theorem Row.cut {H : Tr Grp} {sz : Nat} {v : AV} {cs : List (List AV)} (k : Row H sz v cs) {l h : Nat} (hl : l ≤ h) (hh : h ≤ cs.length) : Row H sz (cutA v l h) ((cs.drop l).take (h - l)) := by
  have hcells : ∀ c ∈ (cs.drop l).take (h - l), c.length = sz ∧ c.all AV.leaf = true := fun c hc => k.cells c (List.mem_of_mem_drop (List.mem_of_mem_take hc))
  cases v with
  | nils => cases k; simp [cutA, Row]
  | ro nl xs =>
    obtain ⟨rfl, -⟩ := k
    refine ⟨?_, hcells⟩
    rw [List.map_take, List.map_drop]
  | slc g j off sz' len lo ex =>
    obtain ⟨rfl, h2, rfl, h4, h5, rest, h6⟩ := k
    refine ⟨rfl, h2, by simp; omega, by omega, hcells, ((cs.drop l).drop (h - l)).flatten ++ rest, ?_⟩
    have e : cs = cs.take l ++ ((cs.drop l).take (h - l) ++ (cs.drop l).drop (h - l)) := by rw [List.take_append_drop, List.take_append_drop]
    have hA : (cs.take l).flatten.length = l * sz' := by
      rw [flat_len (sz := sz') fun c hc => (h5 c (List.mem_of_mem_take hc)).1, List.length_take, Nat.min_eq_left (by omega)]
    have hm : l * sz' + (lo - l) * sz' = lo * sz' := by rw [← Nat.add_mul]; congr 1; omega
    have := rdH_part h6 (l * sz') ((lo - l) * sz') (by omega)
    rw [this]
    congr 1
    have hlen := rdH_len h6
    have e2 : cs.flatten ++ rest = (cs.take l).flatten ++ (((cs.drop l).take (h - l)).flatten ++ (((cs.drop l).drop (h - l)).flatten ++ rest)) := by
      conv => lhs; rw [e, List.flatten_append, List.flatten_append]
      simp [List.append_assoc]
    rw [e2, ← hA, List.drop_left]
    apply List.take_of_length_le
    rw [e2, List.length_append, hA] at hlen
    omega
  | _ => exact k.elim
theorem Row.cutF {H : Tr Grp} {sz : Nat} {v : AV} {α : Type} {f : α → List AV} {xs : List α} (k : Row H sz v (xs.map f)) {h : Nat} (hh : h ≤ xs.length) : Row H sz (cutA v 0 h) ((xs.take h).map f) := by
  have := k.cut (Nat.zero_le h) (by rwa [List.length_map])
  rw [List.drop_zero, Nat.sub_zero, ← List.map_take] at this
  exact this

section
variable {P : Program} {T : Tab} {nt : Nat} {ops : Array Oper} {rest : List Oper} {m : Sy} {s : St} {Q : Sy → St → Prop} {d ty : Nat} {pos : String} {af : Array Edge} {g : Option (Nat × Bool)}
theorem w_alloc {e : TypeId} {i : TI} (hg : guardY ops m g = some true) (hd : Nat.ble (d + 1) nt = true) (hT : T e = some i) (hz : i.zero.all AV.leaf = true) (hok : s.Ok)
    (k : ∀ s', Pt s'.h (.ptr s.ctr 0 0) i.zero → Keep [] s s' → s'.ctr = s.ctr + 1 → W P T nt ops rest ((d, .ptr s.ctr 0 0) :: m) s' Q) : W P T nt ops (⟨some d, .alloc e, ty, pos, af, g⟩ :: rest) m s Q :=
  w_val hg hd (s' := s.newG ⟨[⟨i.zero, 0, none⟩]⟩) (fun t _ => by simp only [evOp, hT, hz, if_true]) (k _ (rd_new hok) (newG_keep hok _).1 rfl)
theorem w_box {e : TypeId} {x : Operand} {v : AV} (hg : guardY ops m g = some true) (hd : Nat.ble (d + 1) nt = true) (hx : evY m x = some v) (hz : v.cells.all AV.leaf = true) (hok : s.Ok)
    (k : ∀ s', Pt s'.h (.ptr s.ctr 0 0) v.cells → Keep [] s s' → s'.ctr = s.ctr + 1 → W P T nt ops rest ((d, .ptr s.ctr 0 0) :: m) s' Q) : W P T nt ops (⟨some d, .box e x, ty, pos, af, g⟩ :: rest) m s Q :=
  w_val hg hd (s' := s.newG ⟨[⟨v.cells, 0, none⟩]⟩) (fun t ht => by simp only [evOp, evY_ok ht hx, hz, if_true]) (k _ (rd_new hok) (newG_keep hok _).1 rfl)
/-- A variable written anew. -/
theorem w_store_all {tt : TypeId} {a x : Operand} {i : TI} {p u : AV} {old : List AV} (hg : guardY ops m g = some true) (ha : evY m a = some p) (hx : evY m x = some u) (hT : T tt = some i) (hl : u.cells.length = i.size) (hlo : u.cells.length = old.length)
    (hz : u.cells.all AV.leaf = true) (hok : s.Ok) (hp : Pt s.h p old) (hpg : p.gs ≠ [])
    (k : ∀ s', Pt s'.h p u.cells → Keep p.gs s s' → s'.ctr = s.ctr → W P T nt ops rest m s' Q) : W P T nt ops (⟨none, .store tt a x, ty, pos, af, g⟩ :: rest) m s Q := by
  cases p with
  | ptr g' j off =>
    obtain ⟨s', e1, e2, e3, e4⟩ := write_over hok hp (k := 0) (c := u.cells) (by omega) hz
    rw [Nat.add_zero] at e1
    refine w_eff hg (s' := s') (fun t ht => ?_) (k s' ?_ e3 e4)
    · have hnl : ¬ (u.cells.length ≠ i.size) := fun h => h hl
      simp only [evOp, hT, evY_ok ht ha, evY_ok ht hx, if_neg hnl, e1]
    · show rdH s'.h g' j off u.cells.length = some u.cells
      rw [hlo, e2]
      unfold over
      simp [hlo]
  | rop xs => exact (hpg rfl).elim
  | _ => exact hp.elim
/-- A part of a variable written. -/
theorem w_store_fld {tt : TypeId} {a x : Operand} {i : TI} {p u : AV} {o : Nat} {old : List AV} (hg : guardY ops m g = some true) (ha : evY m a = some (fldA p o)) (hx : evY m x = some u) (hT : T tt = some i) (hl : u.cells.length = i.size)
    (hz : u.cells.all AV.leaf = true) (hok : s.Ok) (hp : Pt s.h p old) (hpg : p.gs ≠ []) (hlo : o + u.cells.length ≤ old.length)
    (k : ∀ s', Pt s'.h p (over old o u.cells) → Keep p.gs s s' → s'.ctr = s.ctr → W P T nt ops rest m s' Q) : W P T nt ops (⟨none, .store tt a x, ty, pos, af, g⟩ :: rest) m s Q := by
  cases p with
  | ptr g' j off =>
    obtain ⟨s', e1, e2, e3, e4⟩ := write_over hok hp (k := o) (c := u.cells) hlo hz
    refine w_eff hg (s' := s') (fun t ht => ?_) (k s' ?_ e3 e4)
    · have hnl : ¬ (u.cells.length ≠ i.size) := fun h => h hl
      have ha' := evY_ok ht ha
      simp only [fldA] at ha'
      simp only [evOp, hT, ha', evY_ok ht hx, if_neg hnl, e1]
    · show rdH s'.h g' j off (over old o u.cells).length = some _
      rw [over_len hlo]
      exact e2
  | rop xs => exact (hpg rfl).elim
  | _ => exact hp.elim
/-- An element written. -/
theorem w_store_row {tt : TypeId} {a x : Operand} {i : TI} {r u : AV} {n sz : Nat} {cs : List (List AV)} (hg : guardY ops m g = some true) (ha : evY m a = some (elemA r n)) (hx : evY m x = some u) (hT : T tt = some i) (hl : u.cells.length = i.size) (hsz : i.size = sz)
    (hz : u.cells.all AV.leaf = true) (hok : s.Ok) (hr : Row s.h sz r cs) (hrg : r.gs ≠ []) (hn : n < cs.length)
    (k : ∀ s', Row s'.h sz r (cs.set n u.cells) → Keep r.gs s s' → s'.ctr = s.ctr → W P T nt ops rest m s' Q) : W P T nt ops (⟨none, .store tt a x, ty, pos, af, g⟩ :: rest) m s Q := by
  cases r with
  | slc g' j off sz' len lo ex =>
    obtain ⟨rfl, h2, rfl, h4, h5, rest', h6⟩ := hr
    have hul : u.cells.length = sz' := by rw [hl, hsz]
    have hb : n * sz' + u.cells.length ≤ cs.length * sz' := by rw [hul, ← Nat.succ_mul]; exact Nat.mul_le_mul_right _ hn
    have hb2 := Nat.mul_le_mul_right sz' h4
    obtain ⟨s', e1, e2, e3, e4⟩ := write_over hok h6 (k := n * sz') (c := u.cells) (by omega) hz
    refine w_eff hg (s' := s') (fun t ht => ?_) (k s' ?_ e3 e4)
    · have hnl : ¬ (u.cells.length ≠ i.size) := fun h => h hl
      have ha' := evY_ok ht ha
      simp only [elemA] at ha'
      simp only [evOp, hT, ha', evY_ok ht hx, if_neg hnl, e1]
    · refine ⟨rfl, h2, by simp, h4, ?_, rest', ?_⟩
      · intro c hc
        rcases List.mem_or_eq_of_mem_set hc with hc | rfl
        · exact h5 c hc
        · exact ⟨hul, hz⟩
      · rw [e2]
        have hfl : cs.flatten.length = cs.length * sz' := flat_len fun c hc => (h5 c hc).1
        rw [← flat_set (fun c hc => (h5 c hc).1) hn hul]
        unfold over
        rw [List.take_append_of_le_length (by omega), List.drop_append_of_le_length (by omega)]
        simp [List.append_assoc]
  | nils => exact (hrg rfl).elim
  | ro nl xs => exact (hrg rfl).elim
  | _ => exact hr.elim
/-- A slice of one element. -/
theorem w_lit1 {tt e : TypeId} {parts : Array (Nat × Operand)} {i ie : TI} {ps : List (Nat × AV)} {c : List AV} (hg : guardY ops m g = some true) (hd : Nat.ble (d + 1) nt = true) (hT : T tt = some i) (hs : i.sh = .slice e) (he : T e = some ie) (hp : evPartsY m parts.toList = some ps)
    (hz : ie.zero.length = ie.size) (h0 : ie.size ≠ 0) (h24 : ie.size ≤ 2 ^ 24) (hf : fillA (fun n => some (n * ie.size, ie.size)) ie.zero ps = some c) (hl : c.all AV.leaf = true) (hcl : c.length = ie.size) (hok : s.Ok)
    (k : ∀ v s', Row s'.h ie.size v [c] → Keep [] s s' → s'.ctr = s.ctr + 1 → v.gs = [s.ctr] → W P T nt ops rest ((d, v) :: m) s' Q) : W P T nt ops (⟨some d, .buildSlice tt 1 parts, ty, pos, af, g⟩ :: rest) m s Q := by
  obtain ⟨sh, size, bytes, zero, flat⟩ := i
  cases hs
  refine w_val hg hd (v := .slc s.ctr 0 0 ie.size 1 1 true) (s' := s.newG ⟨[⟨c, 0, none⟩]⟩) (fun t ht => ?_) (k _ _ ⟨rfl, h0, rfl, Nat.le_refl _, ?_, [], ?_⟩ (newG_keep hok _).1 rfl rfl)
  · have hcond : ¬ (1 * ie.size > 2 ^ 24 ∨ ie.zero.length ≠ ie.size ∨ ie.size = 0) := by
      rintro (h | h | h)
      · omega
      · exact h hz
      · exact h0 h
    have hfl : (List.replicate 1 ie.zero).flatten = ie.zero := by simp [List.replicate]
    simp only [evOp, hT, he, evPartsY_ok ht hp, if_neg hcond, hfl, hf, hl, if_true]
  · intro c' hc'
    rw [List.mem_singleton.1 hc']
    exact ⟨hcl, hl⟩
  · rw [Nat.one_mul, ← hcl]
    simpa using rd_new (s := s) (cs := c) hok
/-- make. -/
theorem w_make {tt e : TypeId} {x y : Operand} {i ie : TI} {n : Nat} (hg : guardY ops m g = some true) (hd : Nat.ble (d + 1) nt = true) (hT : T tt = some i) (hs : i.sh = .slice e) (he : T e = some ie) (hx : evY m x = some (.int .i64 n)) (hy : evY m y = some (.int .i64 n))
    (hz : ie.zero.length = ie.size) (h0 : ie.size ≠ 0) (hl : ie.zero.all AV.leaf = true) (hb : n * ie.bytes ≤ maxBytes) (hb' : n ≤ 140737488355328) (hok : s.Ok)
    (k : ∀ v s', Row s'.h ie.size v (List.replicate n ie.zero) → Keep [] s s' → s'.ctr = s.ctr + 1 → v.gs = [s.ctr] → W P T nt ops rest ((d, v) :: m) s' Q) : W P T nt ops (⟨some d, .makeSlice tt x y, ty, pos, af, g⟩ :: rest) m s Q := by
  obtain ⟨sh, size, bytes, zero, flat⟩ := i
  cases hs
  refine w_val hg hd (v := .slc s.ctr 0 0 ie.size n n true) (s' := s.newG ⟨[⟨(List.replicate n ie.zero).flatten, 0, none⟩]⟩) (fun t ht => ?_) (k _ _ ⟨rfl, h0, by simp, Nat.le_refl _, ?_, [], ?_⟩ (newG_keep hok _).1 rfl rfl)
  · have hcond : 0 ≤ (n : Int) ∧ True ∧ (n : Int).toNat * ie.bytes ≤ maxBytes ∧ (n : Int) ≤ 140737488355328 ∧ ie.zero.length = ie.size ∧ ie.size ≠ 0 ∧ ie.zero.all AV.leaf = true :=
      ⟨by omega, trivial, by simpa using hb, by omega, hz, h0, hl⟩
    simp only [evOp, hT, he, evY_ok ht hx, evY_ok ht hy]
    rw [if_pos hcond]
    rfl
  · intro c hc
    rw [List.eq_of_mem_replicate hc]
    exact ⟨hz, hl⟩
  · have : (List.replicate n ie.zero).flatten.length = n * ie.size := by
      rw [flat_len (sz := ie.size) fun c hc => by rw [List.eq_of_mem_replicate hc]; exact hz]
      simp
    rw [List.append_nil, ← this]
    exact rd_new hok
/-- append. -/
theorem w_append {tt e : TypeId} {x y : Operand} {args : Array Operand} {tys : Array TypeId} {i ie : TI} {a b : AV} {cs ns : List (List AV)} (hg : guardY ops m g = some true) (hd : Nat.ble (d + 1) nt = true) (h1 : args.toList = [x, y]) (h2 : tys.toList = [tt, tt])
    (hx : evY m x = some a) (hy : evY m y = some b) (hT : T tt = some i) (hs : i.sh = .slice e) (he : T e = some ie) (h0 : ie.size ≠ 0) (hok : s.Ok) (ha : Row s.h ie.size a cs) (hro : a.gs = [] → a = .nils) (hb : Row s.h ie.size b ns)
    (hb1 : (cs.length + ns.length) * ie.bytes ≤ maxBytes) (hb2 : cs.length + ns.length ≤ maxBytes)
    (k : ∀ v s', Row s'.h ie.size v (cs ++ ns) → Keep a.gs s s' → s'.ctr ≤ s.ctr + 1 → (v.gs = a.gs ∨ v.gs = [s.ctr]) → (v.gs = [] → v = .nils) → (ns ≠ [] → v.gs ≠ []) → W P T nt ops rest ((d, v) :: m) s' Q) :
    W P T nt ops (⟨some d, .call ⟨.builtin .append, args, tys⟩, ty, pos, af, g⟩ :: rest) m s Q := by
  obtain ⟨sh, size, bytes, zero, flat⟩ := i
  cases hs
  obtain ⟨v, s', e1, e2, e3, e4, e5, e6, e7⟩ := app_row hok h0 ha hro hb.cells hb1 hb2
  refine w_val hg hd (v := v) (s' := s') (fun t ht => ?_) (k v s' e2 e3 e4 e5 e6 e7)
  have hev : evsY m [x, y] = some [a, b] := by simp only [evsY, hx, hy]
  simp only [evOp, h1, h2, evsY_ok ht hev, callA, ne_eq, not_true_eq_false, if_false, hT, he, hb.slen, hb.elems, e1]
def optY (m : Sy) : Option Operand → Option (Option Nat)
  | none => some none
  | some x => match evY m x with
    | none => none
    | some v => match natA v with
      | none => none
      | some n => some (some n)
theorem optY_ok {t : TL} (h : Has t nt m) {x : Option Operand} {r : Option Nat} (e : optY m x = some r) : optNat t x = some r := by
  cases x with
  | none => exact e
  | some x =>
    simp only [optY] at e
    simp only [optNat]
    cases hx : evY m x with
    | none => rw [hx] at e; cases e
    | some v => rw [hx] at e; rw [evY_ok h hx]; exact e
theorem optY_some {x : Operand} {v : AV} {n : Nat} (hx : evY m x = some v) (hn : natA v = some n) : optY m (some x) = some (some n) := by
  unfold optY; simp only [hx, hn]
/-- A cut of a row. -/
theorem op_cut {tt e : TypeId} {x : Operand} {lo hi : Option Operand} {i ie : TI} {v : AV} {cs : List (List AV)} {l h : Option Nat} {sz l' h' : Nat} (hx : evY m x = some v) (hlo : optY m lo = some l) (hhi : optY m hi = some h) (hT : T tt = some i) (hs : i.sh = .slice e) (he : T e = some ie) (hz : ie.size = sz)
    (hr : Row s.h sz v cs) (el : l.getD 0 = l') (eh : h.getD cs.length = h') (h1 : l' ≤ h') (h2 : h' ≤ cs.length) : ∀ t, Has t nt m → evOp T (.slice tt x lo hi none) t s = some (.val (cutA v l' h'), s) := by
  intro t ht
  subst el eh
  obtain ⟨sh, size, bytes, zero, flat⟩ := i
  cases hs
  have ho : optNat t none = some none := rfl
  have hao : arrOk T tt v s = true := by unfold arrOk; simp only [hT]
  have : sliceA T tt v l h none = some (cutA v (l.getD 0) (h.getD cs.length)) := by
    cases v with
    | nils =>
      cases hr
      have e1 : l.getD 0 = 0 := by simp at h1 h2; omega
      have e2 : h.getD 0 = 0 := by simpa using h2
      have hcond : l.getD 0 = 0 ∧ h.getD 0 = 0 ∧ (none : Option Nat).getD 0 = 0 ∧ ((none : Option Nat).isSome = true → h.isSome = true) := ⟨e1, e2, rfl, fun h => by cases h⟩
      unfold sliceA
      simp only [hT, he, if_pos hcond, cutA]
    | ro nl xs =>
      obtain ⟨rfl, hc⟩ := hr
      rw [List.length_map] at h1 h2 ⊢
      have hall : (xs.all fun x => x.cells.length == ie.size) = true := by
        rw [List.all_eq_true]
        intro y hy
        rw [(hc y.cells (List.mem_map_of_mem hy)).1, hz]
        exact beq_self_eq_true _
      have hcond : l.getD 0 ≤ h.getD xs.length ∧ h.getD xs.length ≤ xs.length ∧ (xs.all fun x => x.cells.length == ie.size) = true := ⟨h1, h2, hall⟩
      unfold sliceA
      simp only [hT, he, if_pos hcond, cutA]
    | slc g j off sz' len lo' ex =>
      obtain ⟨rfl, k2, rfl, k4, -⟩ := hr
      have hn : ¬ (ie.size ≠ sz') := fun h => h hz
      have hcond : l.getD 0 ≤ h.getD cs.length ∧ h.getD cs.length ≤ lo' := ⟨h1, by omega⟩
      unfold sliceA
      simp only [hT, he, if_neg hn, if_pos hcond, cutA]
    | _ => exact hr.elim
  simp only [evOp, evY_ok ht hx, optY_ok ht hlo, optY_ok ht hhi, ho, hao, if_true, this]
/-- A cut row cut anew, with what stands behind it. -/
theorem op_recut {tt e : TypeId} {x hi : Operand} {i ie : TI} {v vh : AV} {cs : List (List AV)} {sz n h' : Nat} (hx : evY m x = some (cutA v 0 n)) (hvh : evY m hi = some vh) (hhi : natA vh = some h') (hT : T tt = some i) (hs : i.sh = .slice e) (he : T e = some ie) (hz : ie.size = sz)
    (hr : Row s.h sz v cs) (hv : v.gs ≠ []) (h2 : h' ≤ cs.length) : ∀ t, Has t nt m → evOp T (.slice tt x none (some hi) none) t s = some (.val (cutA v 0 h'), s) := by
  intro t ht
  obtain ⟨sh, size, bytes, zero, flat⟩ := i
  cases hs
  have ho : optNat t none = some none := rfl
  cases v with
  | slc g j off sz' len lo' ex =>
    obtain ⟨rfl, k2, rfl, k4, -⟩ := hr
    have hao : arrOk T tt (cutA (.slc g j off sz' cs.length lo' ex) 0 n) s = true := by unfold arrOk; simp only [hT, cutA]
    have hn : ¬ (ie.size ≠ sz') := fun h => h hz
    have hcond : 0 ≤ h' ∧ h' ≤ lo' := ⟨by omega, by omega⟩
    have : sliceA T tt (cutA (.slc g j off sz' cs.length lo' ex) 0 n) none (some h') none = some (cutA (.slc g j off sz' cs.length lo' ex) 0 h') := by
      unfold sliceA cutA
      simp only [hT, he, if_neg hn, Option.getD_none, Option.getD_some, Nat.sub_zero, Nat.zero_mul, Nat.add_zero, hcond, and_self, if_true]
    simp only [evOp, evY_ok ht hx, optY_ok ht (optY_some hvh hhi), ho, hao, if_true, this]
  | nils => exact (hv rfl).elim
  | ro nl xs => exact (hv rfl).elim
  | _ => exact hr.elim
theorem op_convert {a b : TypeId} {x : Operand} {i i' : TI} {k k' k'' : IntKind} {n : Int} (hx : evY m x = some (.int k n)) (ha : T a = some i) (hb : T b = some i') (h1 : i.sh = .num k'') (h2 : i'.sh = .num k') :
    ∀ t, Has t nt m → evOp T (.convert a b x) t s = some (.val (.int k' (k'.wrap n)), s) := by
  intro t ht
  obtain ⟨sh, size, bytes, zero, flat⟩ := i
  obtain ⟨sh', size', bytes', zero', flat'⟩ := i'
  cases h1
  cases h2
  simp only [evOp, ha, hb, evY_ok ht hx]
end
end Go.Ab
