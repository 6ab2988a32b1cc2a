/- Parts of one proof, put together: H19 D25 H20 H21 D26 D27 D28 H22 D29 D30 D31 N1 D32. -/
import Derived.Test.YtdpdlmjlahehoaaLinkBinds3
/- What a function owns, in one list of chunks: each with its groups, all apart; rules that turn the list. -/
namespace Go.Ab
structure Chunk where
  F : Nat → Prop
  P : Tr Grp → Prop
  kp : ∀ {Y : List Nat} {s s' : St}, P s.h → Keep Y s s' → (∀ g ∈ Y, ¬ F g) → P s'.h
def ptC (p : AV) (cs : List AV) : Chunk := ⟨fun g => g ∈ p.gs, fun h => Pt h p cs, fun k h hY => k.keep h fun g hg hy => hY g hy hg⟩
def rowC (v : AV) (sz : Nat) (css : List (List AV)) : Chunk := ⟨fun g => g ∈ v.gs, fun h => Row h sz v css ∧ (v.gs = [] → v = .nils), fun k h hY => ⟨k.1.keep h fun g hg hy => hY g hy hg, k.2⟩⟩
def emC : Chunk := ⟨fun _ => False, fun _ => True, fun _ _ _ => trivial⟩
def bldC {α : Type} (R : RP α) (hG : Good R) (F : Nat → Prop) (sz : Nat) (v : AV) (xs : List α) : Chunk :=
  ⟨F, fun h => ∃ css, Row h sz v css ∧ (v.gs = [] → v = .nils) ∧ (∀ g ∈ v.gs, F g) ∧ css.length = xs.length ∧ ∀ (i : Nat) (x : α) (c : List AV), xs[i]? = some x → css[i]? = some c → R h (fun g => F g ∧ g ∉ v.gs) x c,
   fun ⟨css, h1, h2, h3, h4, h5⟩ h hY => ⟨css, h1.keep h fun g hg hy => hY g hy (h3 g hg), h2, h3, h4, fun i x c k1 k2 => hG.keep (h5 i x c k1 k2) h fun g hy hF => hY g hy hF.1⟩⟩
structure SH (s0 : St) (L : List Chunk) (s : St) : Prop where
  K : Keep [] s0 s
  own : ∀ (i : Nat) (c : Chunk), L[i]? = some c → c.P s.h ∧ ∀ g, c.F g → s0.ctr ≤ g ∧ g < s.ctr
  dis : ∀ (i j : Nat) (c d : Chunk), i ≠ j → L[i]? = some c → L[j]? = some d → ∀ g, c.F g → ¬ d.F g
section
variable {s0 s s' : St} {L : List Chunk} {c c' d : Chunk} {i j : Nat} {Y : List Nat}
theorem SH.ok (h : SH s0 L s) : s.Ok := h.K.ok
theorem SH.start (hok : s.Ok) : SH s [] s := ⟨Keep.refl hok, fun i c h => by simp at h, fun i j c d _ h => by simp at h⟩
theorem SH.get (h : SH s0 L s) (i : Nat) (hi : L[i]? = some c) : c.P s.h := (h.own i c hi).1
theorem SH.bd (h : SH s0 L s) (i : Nat) (hi : L[i]? = some c) : ∀ g, c.F g → s0.ctr ≤ g ∧ g < s.ctr := (h.own i c hi).2
theorem SH.row {v : AV} {sz : Nat} {css : List (List AV)} (h : SH s0 L s) (i : Nat) (hi : L[i]? = some (rowC v sz css)) : Row s.h sz v css := (h.get i hi).1
theorem SH.nls {v : AV} {sz : Nat} {css : List (List AV)} (h : SH s0 L s) (i : Nat) (hi : L[i]? = some (rowC v sz css)) : v.gs = [] → v = .nils := (h.get i hi).2
theorem SH.pt {p : AV} {cs : List AV} (h : SH s0 L s) (i : Nat) (hi : L[i]? = some (ptC p cs)) : Pt s.h p cs := h.get i hi
theorem SH.mov (h : SH s0 L s) (k : Keep [] s s') : SH s0 L s' :=
  ⟨h.K.two k, fun i c hi => ⟨c.kp (h.own i c hi).1 k (fun g hg => by cases hg), fun g hg => ⟨((h.own i c hi).2 g hg).1, Nat.lt_of_lt_of_le ((h.own i c hi).2 g hg).2 k.ctr⟩⟩, h.dis⟩
theorem SH.add (h : SH s0 L s) (k : Keep [] s s') (c : Chunk) (hP : c.P s'.h) (hF : ∀ g, c.F g → s.ctr ≤ g ∧ g < s'.ctr) : SH s0 (L ++ [c]) s' := by
  have hm := h.mov k
  have hc := h.K.ctr
  have key : ∀ (i : Nat) (x : Chunk), (L ++ [c])[i]? = some x → (i < L.length ∧ L[i]? = some x) ∨ (i = L.length ∧ x = c) := by
    intro i x hi
    by_cases hl : i < L.length
    · rw [List.getElem?_append_left hl] at hi; exact .inl ⟨hl, hi⟩
    · have h1 := (List.getElem?_eq_some_iff.1 hi).1
      rw [List.length_append, List.length_singleton] at h1
      have e : i = L.length := by omega
      subst e
      rw [List.getElem?_append_right (Nat.le_refl _), Nat.sub_self] at hi
      simp at hi
      exact .inr ⟨rfl, hi.symm⟩
  refine ⟨hm.K, fun i x hi => ?_, fun i j x y hij hi hj g hx hy => ?_⟩
  · rcases key i x hi with ⟨-, h1⟩ | ⟨-, rfl⟩
    · exact hm.own i x h1
    · exact ⟨hP, fun g hg => ⟨Nat.le_trans hc (hF g hg).1, (hF g hg).2⟩⟩
  · rcases key i x hi with ⟨h0, h1⟩ | ⟨h1, rfl⟩ <;> rcases key j y hj with ⟨k0, k1⟩ | ⟨k1, rfl⟩
    · exact h.dis i j x y hij h1 k1 g hx hy
    · have := (h.own i x h1).2 g hx; have := hF g hy; omega
    · have := (h.own j y k1).2 g hy; have := hF g hx; omega
    · omega
theorem getElem?_set_cases {α : Type} {L : List α} {i j : Nat} {c x : α} (h : (L.set i c)[j]? = some x) : (j = i ∧ x = c ∧ i < L.length) ∨ (j ≠ i ∧ L[j]? = some x) := by
  rw [List.getElem?_set] at h
  split at h
  · rename_i e
    split at h
    · cases h; exact .inl ⟨e.symm, rfl, by omega⟩
    · cases h
  · exact .inr ⟨by omega, h⟩
theorem SH.upd (h : SH s0 L s) (i : Nat) (hi : L[i]? = some c) (k : Keep Y s s') (hY : ∀ g ∈ Y, c.F g) (c' : Chunk) (hP : c'.P s'.h) (hF : ∀ g, c'.F g → c.F g ∨ (s.ctr ≤ g ∧ g < s'.ctr)) : SH s0 (L.set i c') s' := by
  have hc := h.K.ctr
  have hk := k.ctr
  refine ⟨h.K.fresh k fun g hg => ((h.own i c hi).2 g (hY g hg)).1, fun j x hj => ?_, fun a b x y hab ha hb g hx hy => ?_⟩
  · rcases getElem?_set_cases hj with ⟨-, rfl, -⟩ | ⟨hne, hj⟩
    · refine ⟨hP, fun g hg => ?_⟩
      rcases hF g hg with h1 | h1
      · have := (h.own i c hi).2 g h1; omega
      · omega
    · obtain ⟨k1, k2⟩ := h.own j x hj
      refine ⟨x.kp k1 k fun g hg hx => h.dis j i x c hne hj hi g hx (hY g hg), fun g hg => ?_⟩
      have := k2 g hg; omega
  · rcases getElem?_set_cases ha with ⟨e1, e1', -⟩ | ⟨hne, ha'⟩ <;> rcases getElem?_set_cases hb with ⟨e2, e2', -⟩ | ⟨hne2, hb'⟩
    · omega
    · rw [e1'] at hx
      rcases hF g hx with h1 | h1
      · exact h.dis i b c y (by omega) hi hb' g h1 hy
      · have := (h.own b y hb').2 g hy; omega
    · rw [e2'] at hy
      rcases hF g hy with h1 | h1
      · exact h.dis a i x c (by omega) ha' hi g hx h1
      · have := (h.own a x ha').2 g hx; omega
    · exact h.dis a b x y hab ha' hb' g hx hy
/-- Two chunks as one. -/
theorem SH.mrg (h : SH s0 L s) (i j : Nat) (_hij : i ≠ j) (hi : L[i]? = some c) (hj : L[j]? = some d) (c' : Chunk) (hP : c'.P s.h) (hF : ∀ g, c'.F g → c.F g ∨ d.F g) : SH s0 ((L.set j emC).set i c') s := by
  refine ⟨h.K, fun a x ha => ?_, fun a b x y hab ha hb g hx hy => ?_⟩
  · rcases getElem?_set_cases ha with ⟨-, rfl, -⟩ | ⟨-, ha⟩
    · exact ⟨hP, fun g hg => (hF g hg).elim ((h.own i c hi).2 g) ((h.own j d hj).2 g)⟩
    · rcases getElem?_set_cases ha with ⟨-, rfl, -⟩ | ⟨-, ha⟩
      · exact ⟨trivial, fun g hg => hg.elim⟩
      · exact h.own a x ha
  · rcases getElem?_set_cases ha with ⟨e1, e1', -⟩ | ⟨n1, ha'⟩ <;> rcases getElem?_set_cases hb with ⟨e2, e2', -⟩ | ⟨n2, hb'⟩
    · omega
    · rw [e1'] at hx
      rcases getElem?_set_cases hb' with ⟨-, e3, -⟩ | ⟨n3, hb''⟩
      · rw [e3] at hy; exact hy
      · rcases hF g hx with h1 | h1
        · exact h.dis i b c y (by omega) hi hb'' g h1 hy
        · exact h.dis j b d y (by omega) hj hb'' g h1 hy
    · rw [e2'] at hy
      rcases getElem?_set_cases ha' with ⟨-, e3, -⟩ | ⟨n3, ha''⟩
      · rw [e3] at hx; exact hx
      · rcases hF g hy with h1 | h1
        · exact h.dis a i x c (by omega) ha'' hi g hx h1
        · exact h.dis a j x d (by omega) ha'' hj g hx h1
    · rcases getElem?_set_cases ha' with ⟨-, e3, -⟩ | ⟨n3, ha''⟩
      · rw [e3] at hx; exact hx
      · rcases getElem?_set_cases hb' with ⟨-, e4, -⟩ | ⟨n4, hb''⟩
        · rw [e4] at hy; exact hy
        · exact h.dis a b x y hab ha'' hb'' g hx hy
def pickL (L : List Chunk) : List Nat → Option (List Chunk)
  | [] => some []
  | j :: r => match L[j]?, pickL L r with
    | some c, some l => some (c :: l)
    | _, _ => none
theorem pickL_get : ∀ {js : List Nat} {L L' : List Chunk}, pickL L js = some L' → ∀ (i : Nat) (c : Chunk), L'[i]? = some c → ∃ j, js[i]? = some j ∧ L[j]? = some c
  | [], L, L', h, i, c, hi => by cases h; simp at hi
  | j :: r, L, L', h, i, c, hi => by
    unfold pickL at h
    split at h
    · rename_i x l hx hl
      cases h
      cases i with
      | zero => simp at hi; subst hi; exact ⟨j, rfl, hx⟩
      | succ i =>
        obtain ⟨k, h1, h2⟩ := pickL_get hl i c (by simpa using hi)
        exact ⟨k, by simpa using h1, h2⟩
    · cases h
/-- Some of the chunks, in another order. -/
theorem SH.sel {L' : List Chunk} (h : SH s0 L s) (js : List Nat) (hL : pickL L js = some L') (hn : js.Nodup) : SH s0 L' s := by
  refine ⟨h.K, fun i c hi => ?_, fun a b x y hab ha hb => ?_⟩
  · obtain ⟨k, -, h2⟩ := pickL_get hL i c hi
    exact h.own k c h2
  · obtain ⟨p, p1, p2⟩ := pickL_get hL a x ha
    obtain ⟨q, q1, q2⟩ := pickL_get hL b y hb
    refine h.dis p q x y (fun e => hab ?_) p2 q2
    subst e
    exact (List.getElem?_inj (List.getElem?_eq_some_iff.1 p1).1 hn).1 (p1.trans q1.symm)
theorem SH.nil (h : SH s0 L s) (sz : Nat) : SH s0 (L ++ [rowC .nils sz []]) s := h.add (Keep.refl h.ok) _ ⟨rfl, fun _ => rfl⟩ fun g hg => by cases hg
end
theorem row_newb {s s' : St} {sz : Nat} {v : AV} {css : List (List AV)} (_k : Keep [] s s') (_h : Row s'.h sz v css) (hv : v.gs = [s.ctr]) (hc : s'.ctr = s.ctr + 1) : ∀ g ∈ v.gs, s.ctr ≤ g ∧ g < s'.ctr := fun g hg => by
  rw [hv] at hg; rw [List.mem_singleton.1 hg]; omega
section
variable {P : Program} {T : Tab} {K : FuncId → Option Bool} {nt : Nat} {ops : Array Oper} {rest : List Oper} {m : Sy} {s s0 : St} {Q : Sy → St → Prop} {d ty : Nat} {pos : String} {af : Array Edge} {g : Option (Nat × Bool)} {L : List Chunk}
theorem ws_alloc {e : TypeId} {i : TI} (hS : SH s0 L s) (hg : guardY ops m g = some true) (hd : Nat.ble (d + 1) nt = true) (hT : T e = some i) (hz : i.zero.all AV.leaf = true)
    (k : ∀ c s', SH s0 (L ++ [ptC (.ptr c 0 0) i.zero]) s' → Keep [] s s' → W P T K nt ops rest ((d, .ptr c 0 0) :: m) s' Q) : W P T K nt ops (⟨some d, .alloc e, ty, pos, af, g⟩ :: rest) m s Q := by
  refine w_alloc hg hd hT hz hS.ok fun s' hp hk hc => k _ s' (hS.add hk _ hp fun g hg => ?_) hk
  rw [List.mem_singleton.1 hg]; omega
theorem ws_box {e : TypeId} {x : Operand} {v : AV} (hS : SH s0 L s) (hg : guardY ops m g = some true) (hd : Nat.ble (d + 1) nt = true) (hx : evY m x = some v) (hz : v.cells.all AV.leaf = true)
    (k : ∀ c s', SH s0 (L ++ [ptC (.ptr c 0 0) v.cells]) s' → Keep [] s s' → W P T K nt ops rest ((d, .ptr c 0 0) :: m) s' Q) : W P T K nt ops (⟨some d, .box e x, ty, pos, af, g⟩ :: rest) m s Q := by
  refine w_box hg hd hx hz hS.ok fun s' hp hk hc => k _ s' (hS.add hk _ hp fun g hg => ?_) hk
  rw [List.mem_singleton.1 hg]; omega
theorem ws_store {tt : TypeId} {a x : Operand} {i : TI} {u : AV} {c o : Nat} {cs : List AV} (n : Nat) (hS : SH s0 L s) (hn : L[n]? = some (ptC (.ptr c 0 0) cs)) (hg : guardY ops m g = some true) (ha : evY m a = some (.ptr c 0 o)) (hx : evY m x = some u) (hT : T tt = some i) (hl : u.cells.length = i.size)
    (hz : u.cells.all AV.leaf = true) (hlo : o + u.cells.length ≤ cs.length)
    (k : ∀ s', SH s0 (L.set n (ptC (.ptr c 0 0) (over cs o u.cells))) s' → W P T K nt ops rest m s' Q) : W P T K nt ops (⟨none, .store tt a x, ty, pos, af, g⟩ :: rest) m s Q := by
  refine w_store_fld (o := o) hg (p := .ptr c 0 0) (by rw [ha]; simp only [fldA, Nat.zero_add]) hx hT hl hz hS.ok (hS.pt n hn) (by simp [AV.gs]) hlo fun s' hp hk hc => k s' (hS.upd n hn hk (fun g hg => hg) _ hp fun g hg => .inl hg)
theorem ws_storeL {tt : TypeId} {a x : Operand} {i : TI} {u : AV} {c o : Nat} {cs : List AV} (n : Nat) (hS : SH s0 L s) (hn : L[n]? = some (ptC (.ptr c 0 0) cs)) (hg : guardY ops m g = some true) (ha : evY m a = some (.ptr c 0 o)) (hx : evY m x = some u) (hT : T tt = some i) (h1 : i.size = 1)
    (hu : u.leaf = true) (hlo : o < cs.length)
    (k : ∀ s', SH s0 (L.set n (ptC (.ptr c 0 0) (cs.set o u))) s' → W P T K nt ops rest m s' Q) : W P T K nt ops (⟨none, .store tt a x, ty, pos, af, g⟩ :: rest) m s Q := by
  have hc : u.cells = [u] := AV.cells_leaf hu
  refine ws_store n hS hn hg ha hx hT (by rw [hc, h1]; rfl) (by rw [hc]; simp [hu]) (by rw [hc]; exact hlo) fun s' h => k s' ?_
  have : over cs o u.cells = cs.set o u := by
    rw [hc]; unfold over
    rw [List.set_eq_take_append_cons_drop, if_pos hlo]
    simp
  rwa [this] at h
theorem op_fldP {st : TypeId} {x : Operand} {f : Nat} {i : TI} {fs : List (Nat × Nat × Bool)} {off sz : Nat} {ag : Bool} {c j o : Nat} (hx : evY m x = some (.ptr c j o)) (hT : T st = some i) (hs : i.sh = .struct fs) (hf : fs[f]? = some (off, sz, ag)) (hz : sz ≠ 0) :
    ∀ t, Has t nt m → evOp T (.fieldAddr st x f) t s = some (.val (.ptr c j (o + off)), s) := by
  intro t ht
  obtain ⟨sh, size, bytes, zero, flat⟩ := i
  cases hs
  simp only [evOp, hT, hf, evY_ok ht hx, hz, if_false]
theorem Pt.at {h : Tr Grp} {c o : Nat} {cs : List AV} (k : Pt h (.ptr c 0 0) cs) (ho : o ≤ cs.length) : Pt h (.ptr c 0 o) (cs.drop o) := by
  have := k.fld o ho
  rwa [fldA, Nat.zero_add] at this
theorem op_loadC {tt : TypeId} {a : Operand} {i : TI} {c o : Nat} {v : AV} {cs : List AV} (n : Nat) (hS : SH s0 L s) (hn : L[n]? = some (ptC (.ptr c 0 0) cs)) (hx : evY m a = some (.ptr c 0 o)) (hT : T tt = some i) (ho : o ≤ cs.length) (hc : loadC i (cs.drop o) = some v) :
    ∀ t, Has t nt m → evOp T (.load tt a) t s = some (.val v, s) := op_load hx hT ((hS.pt n hn).at ho) hc
theorem ws_append {tt e : TypeId} {x y : Operand} {args : Array Operand} {tys : Array TypeId} {i ie : TI} {a b : AV} {sz : Nat} {cs ns : List (List AV)} (n : Nat) (hS : SH s0 L s) (hn : L[n]? = some (rowC a sz cs)) (hg : guardY ops m g = some true) (hd : Nat.ble (d + 1) nt = true) (h1 : args.toList = [x, y]) (h2 : tys.toList = [tt, tt])
    (hx : evY m x = some a) (hy : evY m y = some b) (hT : T tt = some i) (hs : i.sh = .slice e) (he : T e = some ie) (hsz : ie.size = sz) (h0 : sz ≠ 0) (hb : Row s.h sz b ns)
    (hb1 : (cs.length + ns.length) * ie.bytes ≤ maxBytes) (hb2 : cs.length + ns.length ≤ maxBytes)
    (k : ∀ v s', SH s0 (L.set n (rowC v sz (cs ++ ns))) s' → W P T K nt ops rest ((d, v) :: m) s' Q) :
    W P T K nt ops (⟨some d, .call ⟨.builtin .append, args, tys⟩, ty, pos, af, g⟩ :: rest) m s Q := by
  subst hsz
  refine w_append hg hd h1 h2 hx hy hT hs he h0 hS.ok (hS.row n hn) (hS.nls n hn) hb hb1 hb2 fun v s' hv hk hle hvg hvn _ => k v s' (hS.upd n hn hk (fun g hg => hg) _ ⟨hv, hvn⟩ fun g hg => ?_)
  rcases hvg with h | h
  · exact .inl (by have hg : _ ∈ v.gs := hg; rwa [h] at hg)
  · have hg : _ ∈ v.gs := hg
    exact .inr ⟨by rw [h] at hg; rw [List.mem_singleton.1 hg]; exact Nat.le_refl _, hv.lt hk.ok _ hg⟩
/-- append of one element that was just built. -/
theorem ws_lit1 {tt e : TypeId} {parts : Array (Nat × Operand)} {i ie : TI} {ps : List (Nat × AV)} {c : List AV} {sz : Nat} (hS : SH s0 L s) (hg : guardY ops m g = some true) (hd : Nat.ble (d + 1) nt = true) (hT : T tt = some i) (hs : i.sh = .slice e) (he : T e = some ie) (hp : evPartsY m parts.toList = some ps)
    (hsz : ie.size = sz) (hz : ie.zero.length = ie.size) (h0 : ie.size ≠ 0) (h24 : ie.size ≤ 2 ^ 24) (hf : fillA (fun n => some (n * ie.size, ie.size)) ie.zero ps = some c) (hl : c.all AV.leaf = true) (hcl : c.length = ie.size)
    (k : ∀ v s', SH s0 L s' → Keep [] s s' → Row s'.h sz v [c] → W P T K nt ops rest ((d, v) :: m) s' Q) : W P T K nt ops (⟨some d, .buildSlice tt 1 parts, ty, pos, af, g⟩ :: rest) m s Q := by
  subst hsz
  exact w_lit1 hg hd hT hs he hp hz h0 h24 hf hl hcl hS.ok fun v s' hv hk hc hvg => k v s' (hS.mov hk) hk hv
theorem ws_storeE {tt : TypeId} {a x : Operand} {i : TI} {r u : AV} {j sz : Nat} {cs : List (List AV)} (n : Nat) (hS : SH s0 L s) (hn : L[n]? = some (rowC r sz cs)) (hg : guardY ops m g = some true) (ha : evY m a = some (elemA r j)) (hx : evY m x = some u) (hT : T tt = some i) (hl : u.cells.length = i.size) (hsz : i.size = sz)
    (hz : u.cells.all AV.leaf = true) (hj : j < cs.length)
    (k : ∀ s', SH s0 (L.set n (rowC r sz (cs.set j u.cells))) s' → W P T K nt ops rest m s' Q) : W P T K nt ops (⟨none, .store tt a x, ty, pos, af, g⟩ :: rest) m s Q := by
  have hr := hS.row n hn
  have hne : r.gs ≠ [] := fun h => by
    have := hS.nls n hn h
    subst this
    cases (hr : cs = [])
    simp at hj
  exact w_store_row hg ha hx hT hl hsz hz hS.ok hr hne hj fun s' hv hk hc => k s' (hS.upd n hn hk (fun g hg => hg) _ ⟨hv, fun h => (hne h).elim⟩ fun g hg => .inl hg)
end
end Go.Ab
/- link.Link. -/
namespace Go.Ab
open Go.Proofs
theorem Lent.ng {α : Type} {h : Tr Grp} {sz : Nat} {f : α → List AV} {mk : List AV} {v : AV} {xs : List α} (k : Lent h sz f mk v xs) : v.gs ≠ [] := by
  obtain ⟨u, rfl, hu, -⟩ := k
  rw [cutA_gs]; exact hu
theorem fill2 {a b : AV} (ha : a.leaf = true) (hb : b.leaf = true) : fillA (fun n => some (n * 1, 1)) (List.replicate 2 [AV.nils]).flatten [(0, a), (1, b)] = some [a, b] := by
  simp [fillA, AV.cells_leaf ha, AV.cells_leaf hb, over, List.replicate]
theorem dis_clip2 {u v : AV} (h : Dis u v) : Dis (clipA u) (clipA v) := fun g hg h' => h g (by rwa [clipA_gs] at hg) (by rwa [clipA_gs] at h')
end Go.Ab
/- Appending, with what it leaves of the rows of the same group; several rows that are apart. -/
namespace Go.Ab
/-- What appending leaves. -/
structure AppK (a v : AV) (s s' : St) (k : Nat) : Prop where
  fin : v.gs = a.gs → a.gs ≠ [] → finA s'.h v = finA s.h a + k
  rows : ∀ {sz' : Nat} {r : AV} {rs : List (List AV)}, Row s.h sz' r rs → (∀ g ∈ r.gs, g ∈ a.gs → finA s.h r ≤ finA s.h a) → Row s'.h sz' r rs ∧ finA s'.h r = finA s.h r
section
variable {P : Program} {T : Tab} {K : FuncId → Option Bool} {nt : Nat} {ops : Array Oper} {rest : List Oper} {m : Sy} {s s0 : St} {Q : Sy → St → Prop} {d ty : Nat} {pos : String} {af : Array Edge} {g : Option (Nat × Bool)} {L : List Chunk}
theorem w_appendK {tt e : TypeId} {x y : Operand} {args : Array Operand} {tys : Array TypeId} {i ie : TI} {a b : AV} {cs ns : List (List AV)} {sz : Nat} (hg : guardY ops m g = some true) (hd : Nat.ble (d + 1) nt = true) (h1 : args.toList = [x, y]) (h2 : tys.toList = [tt, tt])
    (hx : evY m x = some a) (hy : evY m y = some b) (hT : T tt = some i) (hs : i.sh = .slice e) (he : T e = some ie) (hsz : ie.size = sz) (h0 : sz ≠ 0) (hok : s.Ok) (ha : Row s.h sz a cs) (hro : a.gs = [] → a = .nils) (hb : Row s.h sz b ns)
    (hb1 : (cs.length + ns.length) * ie.bytes ≤ maxBytes) (hb2 : cs.length + ns.length ≤ maxBytes)
    (k : ∀ v s', Row s'.h sz v (cs ++ ns) → Keep a.gs s s' → s'.ctr ≤ s.ctr + 1 → (v.gs = a.gs ∨ v.gs = [s.ctr]) → (v.gs = [] → v = .nils) → (ns ≠ [] → v.gs ≠ []) → AppK a v s s' (ns.length * sz) → W P T K nt ops rest ((d, v) :: m) s' Q) :
    W P T K nt ops (⟨some d, .call ⟨.builtin .append, args, tys⟩, ty, pos, af, g⟩ :: rest) m s Q := by
  subst hsz
  obtain ⟨sh, size, bytes, zero, flat⟩ := i
  cases hs
  obtain ⟨v, s', e1, e2, e3, e4, e5, e6, e7⟩ := app_row hok h0 ha hro hb.cells hb1 hb2
  have hnl : ns.flatten.length = ns.length * ie.size := flat_len fun c hc => (hb.cells c hc).1
  obtain ⟨k1, k2⟩ := app_keep hok ha hro e1 hnl
  refine w_val hg hd (v := v) (s' := s') (fun t ht => ?_) (k v s' e2 e3 e4 e5 e6 e7 ⟨k1, fun h1 h2 => k2 h1 h2⟩)
  have hev : evsY m [x, y] = some [a, b] := by simp only [evsY, hx, hy]
  simp only [evOp, h1, h2, evsY_ok ht hev, callA, ne_eq, not_true_eq_false, if_false, hT, he, hb.slen, hb.elems, e1]
end
/-- Rows by number; of each, what G says. -/
def RowsI {α : Type} (h : Tr Grp) (sz : Nat) (f : α → List AV) (data : List (AV × List α)) (G : Nat → List α → Prop) : Prop :=
  ∀ (q : Nat) (p : AV × List α), data[q]? = some p → ∃ xs : List α, xs.length = p.2.length ∧ Row h sz p.1 (xs.map f) ∧ G q xs
section
variable {α : Type} {sz : Nat} {f : α → List AV} {data : List (AV × List α)} {G G' : Nat → List α → Prop} {s s' : St}
theorem pw_get {β : Type} {R : β → β → Prop} {l : List β} (h : l.Pairwise R) (hs : ∀ {a b}, R a b → R b a) {i j : Nat} {x y : β} (hx : l[i]? = some x) (hy : l[j]? = some y) (hij : i ≠ j) : R x y := by
  obtain ⟨h1, rfl⟩ := List.getElem?_eq_some_iff.1 hx
  obtain ⟨h2, rfl⟩ := List.getElem?_eq_some_iff.1 hy
  rw [List.pairwise_iff_getElem] at h
  rcases Nat.lt_or_gt_of_ne hij with k | k
  · exact h i j h1 h2 k
  · exact hs (h j i h2 h1 k)
theorem RowsI.upd (k : RowsI s.h sz f data G) (hd : (data.map (·.1)).Pairwise Dis) {i : Nat} {p : AV × List α} (hi : data[i]? = some p) (hk : Keep p.1.gs s s') {xs : List α} (hr : Row s'.h sz p.1 (xs.map f)) (hl : xs.length = p.2.length) (hG : G' i xs) (hG' : ∀ q xs, q ≠ i → G q xs → G' q xs) : RowsI s'.h sz f data G' := by
  intro q p' hq
  by_cases e : q = i
  · subst e
    rw [hi] at hq
    cases hq
    exact ⟨xs, hl, hr, hG⟩
  · obtain ⟨ys, h1, h2, h3⟩ := k q p' hq
    have hdis : Dis p'.1 p.1 := pw_get hd (fun h => h.symm) (i := q) (j := i) (by rw [List.getElem?_map, hq]; rfl) (by rw [List.getElem?_map, hi]; rfl) e
    exact ⟨ys, h1, h2.keep hk hdis, hG' q ys e h3⟩
theorem RowsI.keep (k : RowsI s.h sz f data G) {Y : List Nat} (hk : Keep Y s s') (hY : ∀ p ∈ data, ∀ g ∈ p.1.gs, g ∉ Y) : RowsI s'.h sz f data G := by
  intro q p hq
  obtain ⟨ys, h1, h2, h3⟩ := k q p hq
  exact ⟨ys, h1, h2.keep hk (hY p (List.mem_of_getElem? hq)), h3⟩
theorem RowsI.mono (k : RowsI s.h sz f data G) (h : ∀ q p xs, data[q]? = some p → xs.length = p.2.length → G q xs → G' q xs) : RowsI s.h sz f data G' := by
  intro q p hq
  obtain ⟨ys, h1, h2, h3⟩ := k q p hq
  exact ⟨ys, h1, h2, h q p ys hq h1 h3⟩
def fullM (mk : Nat → Nat → α) (i n : Nat) : List α := (List.range n).map (mk i)
theorem fullM_get (mk : Nat → Nat → α) {i n q : Nat} (h : q < n) : (fullM mk i n)[q]? = some (mk i q) := by
  simp [fullM, h]
theorem fullM_len (mk : Nat → Nat → α) (i n : Nat) : (fullM mk i n).length = n := by simp [fullM]
/-- So many marks are written. -/
def MarkG (mk : Nat → Nat → α) (i k : Nat) (q : Nat) (xs : List α) : Prop := (q < i → xs = fullM mk q xs.length) ∧ (q = i → xs.take k = fullM mk i (min k xs.length))
theorem MarkG.zero (mk : Nat → Nat → α) (q : Nat) (xs : List α) : MarkG mk 0 0 q xs := ⟨fun h => by omega, fun _ => by simp [fullM]⟩
theorem MarkG.next {mk : Nat → Nat → α} {i k q : Nat} {xs : List α} (h : MarkG mk i k q xs) (hk : q = i → xs.length ≤ k) : MarkG mk (i + 1) 0 q xs := by
  refine ⟨fun hq => ?_, fun _ => by simp [fullM]⟩
  by_cases e : q = i
  · have := h.2 e
    have h3 := hk e
    rw [List.take_of_length_le h3, Nat.min_eq_right h3] at this
    rw [e]; exact this
  · exact h.1 (by omega)
theorem MarkG.step {mk : Nat → Nat → α} {i k : Nat} {xs : List α} (h : MarkG mk i k i xs) (hk : k < xs.length) : MarkG mk i (k + 1) i (xs.set k (mk i k)) := by
  refine ⟨fun h => by omega, fun _ => ?_⟩
  have := h.2 rfl
  rw [Nat.min_eq_left (Nat.le_of_lt hk)] at this
  rw [List.length_set, Nat.min_eq_left (by omega)]
  have e1 : (xs.set k (mk i k)).take (k + 1) = xs.take k ++ [mk i k] := by
    rw [List.set_eq_take_append_cons_drop, if_pos hk, List.take_append]
    simp [Nat.min_eq_left (Nat.le_of_lt hk)]
    exact List.take_of_length_le (by simp; omega)
  rw [e1, this]
  simp [fullM, List.range_succ]
theorem MarkG.other {mk : Nat → Nat → α} {i k k' q : Nat} {xs : List α} (hq : q ≠ i) (h : MarkG mk i k q xs) : MarkG mk i k' q xs := ⟨h.1, fun e => (hq e).elim⟩
/-- All rows are written full. -/
def FullG (mk : Nat → Nat → α) (q : Nat) (xs : List α) : Prop := xs = fullM mk q xs.length
end
end Go.Ab
/- Rows that were handed out, written full and gone on with. -/
namespace Go.Ab
section
variable {α : Type} {s : St} {sz : Nat} {f : α → List AV} {data : List (AV × List α)} {mk tl : Nat → Nat → α} {i cut : Nat} {ms : List AV} {F : AV} {z z' : St} {p : AV × List α}
structure Ap2 (s : St) (sz : Nat) (f : α → List AV) (data : List (AV × List α)) (mk tl : Nat → Nat → α) (i cut : Nat) (ms : List AV) (F : AV) (z : St) : Prop where
  K : Keep (data.flatMap (·.1.gs)) s z
  old : RowsI z.h sz f data (FullG mk)
  len : ms.length = i
  new : ∀ (j : Nat) (w : AV) (p : AV × List α), ms[j]? = some w → data[j]? = some p → Row z.h sz w ((fullM mk j p.2.length ++ fullM tl j 30).map f) ∧ ∀ g ∈ w.gs, g ∈ p.1.gs ∨ (s.ctr ≤ g ∧ g < cut)
  rF : Row z.h 1 F (ms.map fun w => [w])
  Fb : ∀ g ∈ F.gs, s.ctr ≤ g ∧ g < cut
  Fn : F.gs = [] → F = .nils
  dis : ∀ (j : Nat) (w : AV), ms[j]? = some w → Dis w F
  cutb : s.ctr ≤ cut ∧ cut ≤ z.ctr
theorem Ap2.grow (k : Ap2 s sz f data mk tl i cut ms F z) (hd : (data.map (·.1)).Pairwise Dis) (hb : ∀ p ∈ data, ∀ g ∈ p.1.gs, g < s.ctr) (hp : data[i]? = some p) {Y : List Nat} (hk : Keep Y z z') (hY : ∀ g ∈ Y, g ∈ p.1.gs ∨ cut ≤ g) (hrow : ∀ xs : List α, Row z.h sz p.1 (xs.map f) → Row z'.h sz p.1 (xs.map f)) : Ap2 s sz f data mk tl i cut ms F z' := by
  have hpm := List.mem_of_getElem? hp
  have hdis : ∀ (q : Nat) (p' : AV × List α), q ≠ i → data[q]? = some p' → Dis p'.1 p.1 := fun q p' e hq => pw_get hd (fun h => h.symm) (i := q) (j := i) (by rw [List.getElem?_map, hq]; rfl) (by rw [List.getElem?_map, hp]; rfl) e
  have hcut := k.cutb
  refine ⟨k.K.trans hk fun g hg => ?_, fun q p' hq => ?_, k.len, fun j w p' h1 h2 => ?_, k.rF.keep hk fun g hg hy => ?_, k.Fb, k.Fn, k.dis, ⟨hcut.1, Nat.le_trans hcut.2 hk.ctr⟩⟩
  · rcases hY g hg with h | h
    · exact .inl (List.mem_flatMap.2 ⟨p, hpm, h⟩)
    · exact .inr (Nat.le_trans hcut.1 h)
  · obtain ⟨ys, h1, h2, h3⟩ := k.old q p' hq
    by_cases e : q = i
    · subst e
      rw [hp] at hq
      cases hq
      exact ⟨ys, h1, hrow _ h2, h3⟩
    · refine ⟨ys, h1, h2.keep hk fun g hg hy => ?_, h3⟩
      rcases hY g hy with h | h
      · exact hdis q p' e hq g hg h
      · have := hb p' (List.mem_of_getElem? hq) g hg; omega
  · obtain ⟨k1, k2⟩ := k.new j w p' h1 h2
    have hj : j ≠ i := by
      have := (List.getElem?_eq_some_iff.1 h1).1
      rw [k.len] at this; omega
    refine ⟨k1.keep hk fun g hg hy => ?_, k2⟩
    rcases k2 g hg with h | h <;> rcases hY g hy with h' | h'
    · exact hdis j p' hj h2 g h h'
    · have := hb p' (List.mem_of_getElem? h2) g h; omega
    · have := hb p hpm g h'; omega
    · omega
  · have := k.Fb g hg
    rcases hY g hy with h | h
    · have := hb p hpm g h; omega
    · omega
theorem Ap2.push (k : Ap2 s sz f data mk tl i cut ms F z) (hb : ∀ p ∈ data, ∀ g ∈ p.1.gs, g < s.ctr) (hp : data[i]? = some p) {l F' : AV} (hl : Row z.h sz l ((fullM mk i p.2.length ++ fullM tl i 30).map f)) (hlb : ∀ g ∈ l.gs, g ∈ p.1.gs ∨ cut ≤ g)
    (hF : Row z'.h 1 F' (ms.map (fun w => [w]) ++ [[l]])) (hk : Keep F.gs z z') (hFg : F'.gs = F.gs ∨ F'.gs = [z.ctr]) (hFn : F'.gs = [] → F' = .nils) : Ap2 s sz f data mk tl (i + 1) z'.ctr (ms ++ [l]) F' z' := by
  have hpm := List.mem_of_getElem? hp
  have hcut := k.cutb
  have hct := hk.ctr
  have hz := k.K.ctr
  have hlF : Dis l F := fun g hg hf => by
    have := k.Fb g hf
    rcases hlb g hg with h | h
    · have := hb p hpm g h; omega
    · omega
  have hlz := hl.lt hk.ok0
  have hFb : ∀ g ∈ F'.gs, s.ctr ≤ g ∧ g < z'.ctr := fun g hg => by
    refine ⟨?_, hF.lt hk.ok g hg⟩
    rcases hFg with h | h
    · rw [h] at hg; exact (k.Fb g hg).1
    · rw [h] at hg; rw [List.mem_singleton.1 hg]; exact hz
  have hsub : ∀ w : AV, Dis w F → (∀ g ∈ w.gs, g < z.ctr) → Dis w F' := fun w h h' g hg hg' => by
    rcases hFg with e | e
    · rw [e] at hg'; exact h g hg hg'
    · rw [e] at hg'; have := h' g hg; rw [List.mem_singleton.1 hg'] at this; omega
  have key : ∀ (j : Nat) (w : AV), (ms ++ [l])[j]? = some w → (j < i ∧ ms[j]? = some w) ∨ (j = i ∧ w = l) := by
    intro j w hj
    by_cases hlt : j < ms.length
    · rw [List.getElem?_append_left hlt] at hj; exact .inl ⟨by rw [← k.len]; exact hlt, hj⟩
    · have h1 := (List.getElem?_eq_some_iff.1 hj).1
      rw [List.length_append, List.length_singleton] at h1
      have e : j = ms.length := by omega
      subst e
      rw [List.getElem?_append_right (Nat.le_refl _), Nat.sub_self] at hj
      simp at hj
      exact .inr ⟨k.len, hj.symm⟩
  refine ⟨k.K.trans hk fun g hg => .inr (k.Fb g hg).1, ?_, by simp [k.len], fun j w p' h1 h2 => ?_, by rw [List.map_append]; exact hF, hFb, hFn, fun j w h1 => ?_, ⟨by omega, Nat.le_refl _⟩⟩
  · exact k.old.keep hk fun p' hp' g hg hf => by have := hb p' hp' g hg; have := k.Fb g hf; omega
  · rcases key j w h1 with ⟨-, h⟩ | ⟨rfl, rfl⟩
    · obtain ⟨k1, k2⟩ := k.new j w p' h h2
      exact ⟨k1.keep hk (k.dis j w h), fun g hg => (k2 g hg).imp id fun h => ⟨h.1, by omega⟩⟩
    · rw [hp] at h2
      cases h2
      exact ⟨hl.keep hk hlF, fun g hg => (hlb g hg).imp id fun h => ⟨by omega, by have := hlz g hg; omega⟩⟩
  · rcases key j w h1 with ⟨hj, h⟩ | ⟨rfl, rfl⟩
    · refine hsub w (k.dis j w h) fun g hg => ?_
      have hjd : j < data.length := Nat.lt_trans hj (List.getElem?_eq_some_iff.1 hp).1
      exact ((k.new j w _ h (List.getElem?_eq_getElem hjd)).1.lt hk.ok0 g hg)
    · exact hsub _ hlF hlz
end
section
variable {T : Tab} {nt : Nat} {m : Sy} {s : St}
theorem op_mul {xt yt : TypeId} {x y : Operand} {a b : Int} (hx : evY m x = some (.int .i64 a)) (hy : evY m y = some (.int .i64 b)) (h : In64 (a * b)) :
    ∀ t, Has t nt m → evOp T (.binOp .mul xt x y yt) t s = some (.val (.int .i64 (a * b)), s) :=
  op_int hx hy (by decide) (by unfold intA; rw [wrap64 h])
end
end Go.Ab
/- Lists that were handed out are written over: they are apart. -/
namespace Go.Ab
open Go.Proofs
theorem fillS1 {a : AV} (ha : a.leaf = true) : fillA (fun n => some (n * 1, 1)) [AV.nils] [(0, a)] = some [a] := by
  simp [fillA, AV.cells_leaf ha, over]
theorem natA_add (k : IntKind) (a b : Nat) : natA (.int k ((a : Int) + (b : Nat))) = some (a + b) := by
  have : ((a : Int) + (b : Nat)) = ((a + b : Nat) : Int) := by omega
  rw [this]; exact natA_cast _ _
theorem finA_keep {X : List Nat} {s s' : St} {sz : Nat} {v : AV} {cs : List (List AV)} (hr : Row s.h sz v cs) (hk : Keep X s s') (hX : ∀ g ∈ v.gs, g ∉ X) : finA s'.h v = finA s.h v :=
  finA_same fun g hg => by
    obtain ⟨G, hG⟩ := hr.has g hg
    rw [hG]; exact hk.keep g (hX g hg) G hG
def mkL (i k : Nat) : Int := 1000 * (i : Int) + (k : Nat)
def tlL (i k : Nat) : Int := 500000 + 1000 * (i : Int) + (k : Nat)
def mkI (i k : Nat) : InstrL := ⟨1000 * (i : Int) + (k : Nat), 0⟩
def tlI (i k : Nat) : InstrL := ⟨500000 + 1000 * (i : Int) + (k : Nat), 0⟩
set_option maxRecDepth 10000 in
set_option maxHeartbeats 8000000 in
/-- Lists of labels. -/
theorem apartLabels_ok {s : St} {v : AV} {data : List (AV × List Int)} (hok : s.Ok) (hv : Row s.h 1 v (data.map fun p => [p.1])) (hvX : ∀ g ∈ v.gs, g ∉ data.flatMap (·.1.gs)) (hr : ∀ p ∈ data, Row s.h 1 p.1 (p.2.map lC)) (hd : (data.map (·.1)).Pairwise Dis) (hn : ∀ p ∈ data, p.1.gs = [] → p.1 = .nils)
    (hl1 : data.length ≤ 1000000) (hl2 : ∀ p ∈ data, p.2.length ≤ 2097152) : CallS Try.prog Tt Kt 82 [v] s (fun r s' => Keep (data.flatMap (·.1.gs)) s s' ∧ r = .bool true) := by
  have hb : ∀ p ∈ data, ∀ g ∈ p.1.gs, g < s.ctr := fun p hp => (hr p hp).lt hok
  refine call_of (fn := Try.f82) (nt := 130) Try.func82 rfl rfl rfl ?_
  repeat refine wc_seq ?_
  refine wc_region ?_
  refine w_val rfl rfl (op_pure rfl) ?_
  refine w_nil ?_
  refine then_n ?_
  repeat refine wc_seq ?_
  have hK := Keep.refl hok
  have hvl : v.slen = some data.length := hv.slenF
  have hI : RowsI s.h 1 lC data (MarkG mkL 0 0) := fun q p hq => ⟨p.2, rfl, hr p (List.mem_of_getElem? hq), MarkG.zero _ _ _⟩
  have hK : Keep (data.flatMap (·.1.gs)) s s := hK.more (fun g hg => by cases hg)
  refine wc_region ?_
  refine w_val rfl rfl (op_pure rfl) ?_
  refine w_nil ?_
  refine then_n ?_
  repeat refine wc_seq ?_
  refine wc_block ?_
  refine wc_loop_at (fun j m z => ∃ i : Nat, j = data.length - i ∧ i ≤ data.length ∧ m = [(0, v), (3, .int .i64 (i : Nat))] ∧ Keep (data.flatMap (·.1.gs)) s z ∧ RowsI z.h 1 lC data (MarkG mkL i 0)) data.length
    [(0, v), (3, .int .i64 ((0 : Nat) : Int))] (Sub.cons rfl (Sub.cons rfl (Sub.nil _))) ⟨0, by simp, by simp, rfl, hK, hI⟩ ?_
  clear hK hI
  rintro j m z ⟨i, rfl, hi, rfl, hK, hI⟩
  have hvz := hv.keep hK hvX
  repeat refine wc_seq ?_
  refine wc_region ?_
  refine w_val rfl rfl (op_pure rfl) ?_
  refine w_val rfl rfl (op_pure rfl) ?_
  refine w_val rfl rfl (op_len rfl rfl rfl rfl rfl (by assumption)) ?_
  refine w_val rfl rfl (op_pure rfl) ?_
  refine w_nil ?_
  refine then_n ?_
  repeat refine wc_seq ?_
  refine wc_condT rfl (fun h16 => ?_) (fun h16 => ?_)
  · simp only [decide_eq_true_eq] at h16
    refine wc_skip ?_
    refine then_n ?_
    repeat refine wc_seq ?_
    refine wc_block ?_
    repeat refine wc_seq ?_
    obtain ⟨p, hp⟩ : ∃ x, data[i]? = some x := ⟨_, List.getElem?_eq_getElem (by omega)⟩
    have hpm := List.mem_of_getElem? hp
    have hpl := hl2 p hpm
    refine wc_region ?_
    refine w_val rfl rfl (op_pure rfl) ?_
    refine w_nil ?_
    refine then_n ?_
    refine wc_block ?_
    refine wc_loop_at (fun j m z => ∃ k : Nat, j = p.2.length - k ∧ k ≤ p.2.length ∧ m = [(0, v), (3, .int .i64 (i : Nat)), (4, .int .i64 (k : Nat))] ∧ Keep (data.flatMap (·.1.gs)) s z ∧ RowsI z.h 1 lC data (MarkG mkL i k)) p.2.length
      [(0, v), (3, .int .i64 (i : Nat)), (4, .int .i64 ((0 : Nat) : Int))] (Sub.cons rfl (Sub.cons rfl (Sub.cons rfl (Sub.nil _)))) ⟨0, by simp, by simp, rfl, hK, hI⟩ ?_
    clear hK hI hvz
    rintro j1 m1 z ⟨k, rfl, hk, rfl, hK, hI⟩
    have hvz := hv.keep hK hvX
    obtain ⟨xs, hxl, hxr, hxG⟩ := hI i p hp
    have hxs : p.1.slen = some p.2.length := hxr.slenF.trans (congrArg some hxl)
    repeat refine wc_seq ?_
    refine wc_region ?_
    refine w_val rfl rfl (op_pure rfl) ?_
    refine w_val rfl rfl (op_pure rfl) ?_
    refine w_val rfl rfl (op_pure rfl) ?_
    refine w_val rfl rfl (op_idxF rfl rfl (natA_cast _ _) rfl rfl rfl rfl (by assumption) (by omega)) ?_
    refine w_val rfl rfl (op_load rfl rfl (Row.mk_pt hvz hp) rfl) ?_
    refine w_val rfl rfl (op_len rfl rfl rfl rfl rfl (by assumption)) ?_
    refine w_val rfl rfl (op_pure rfl) ?_
    refine w_nil ?_
    refine then_n ?_
    repeat refine wc_seq ?_
    refine wc_condT rfl (fun h25 => ?_) (fun h25 => ?_)
    · simp only [decide_eq_true_eq] at h25
      refine wc_skip ?_
      refine then_n ?_
      repeat refine wc_seq ?_
      refine wc_block ?_
      refine wc_region ?_
      refine w_val rfl rfl (op_pure rfl) ?_
      refine w_val rfl rfl (op_pure rfl) ?_
      refine w_val rfl rfl (op_idxF rfl rfl (natA_cast _ _) rfl rfl rfl rfl (by assumption) (by omega)) ?_
      refine w_val rfl rfl (op_load rfl rfl (Row.mk_pt hvz hp) rfl) ?_
      refine w_val rfl rfl (op_pure rfl) ?_
      refine w_val rfl rfl (op_pure rfl) ?_
      refine w_val rfl rfl (op_mul rfl rfl (by unfold In64; omega)) ?_
      refine w_val rfl rfl (op_pure rfl) ?_
      refine w_val rfl rfl (op_add rfl rfl (by unfold In64; omega)) ?_
      refine w_val rfl rfl (op_cv (r := 1000 * (i : Int) + (k : Nat)) rfl rfl rfl rfl rfl (wrapU64 (by omega) (by omega))) ?_
      refine w_val rfl rfl (op_idxF rfl rfl (natA_cast _ _) rfl rfl rfl rfl hxr (by omega)) ?_
      refine w_store_row rfl rfl rfl rfl rfl rfl rfl hK.ok hxr (fun e => by have := hn p hpm e; rw [this] at hxr; have h0 := congrArg List.length (show xs.map lC = [] from hxr); rw [List.length_map, List.length_nil] at h0; omega) (by rw [List.length_map]; omega) ?_
      intro zz hx2 hk2 hc2
      have hI := hI.upd hd hp hk2 (xs := xs.set k (mkL i k)) (G' := MarkG mkL i (k + 1)) (by rw [List.map_set]; exact hx2) (by rw [List.length_set]; exact hxl) (hxG.step (by omega)) (fun q xs hq h => h.other hq)
      have hK := hK.trans hk2 (fun g hg => .inl (List.mem_flatMap.2 ⟨p, hpm, hg⟩))
      clear hx2 hk2 hc2 hxr hxG
      refine w_nil ?_
      refine out_n ?_
      refine then_n ?_
      refine wc_region ?_
      refine w_val rfl rfl (op_pure rfl) ?_
      refine w_val rfl rfl (op_add rfl rfl (by unfold In64; omega)) ?_
      refine w_val rfl rfl (op_pure rfl) ?_
      refine w_nil ?_
      exact round_n _ _ (by omega) (Sub.cons rfl (Sub.cons rfl (Sub.cons rfl (Sub.nil _)))) ⟨k + 1, rfl, by omega, rfl, hK, hI⟩
    simp only [decide_eq_false_iff_not] at h25
    obtain rfl : k = p.2.length := by omega
    replace hI := hI.mono (G' := MarkG mkL (i + 1) 0) (fun q p' xs hq hx h => h.next fun e => by subst e; rw [hp] at hq; cases hq; omega)
    clear hxr hxG hxs
    refine wc_exit ?_
    repeat first | refine then_x ?_ | refine round_x ?_ | refine cut_x ?_ | refine out_x' (by decide) ?_
    refine out_x ?_
    refine out_n ?_
    refine then_n ?_
    refine wc_region ?_
    refine w_val rfl rfl (op_pure rfl) ?_
    refine w_val rfl rfl (op_add rfl rfl (by unfold In64; omega)) ?_
    refine w_val rfl rfl (op_pure rfl) ?_
    refine w_nil ?_
    exact round_n _ _ (by omega) (Sub.cons rfl (Sub.cons rfl (Sub.nil _))) ⟨i + 1, rfl, by omega, rfl, hK, hI⟩
  simp only [decide_eq_false_iff_not] at h16
  obtain rfl : i = data.length := by omega
  refine wc_exit ?_
  repeat first | refine then_x ?_ | refine round_x ?_ | refine cut_x ?_ | refine out_x' (by decide) ?_
  refine out_x ?_
  refine then_n ?_
  repeat refine wc_seq ?_
  have hcut := hK.ctr
  have hA : Ap2 s 1 lC data mkL tlL 0 z.ctr [] .nils z := ⟨hK, hI.mono fun q p xs hq _ h => h.1 (List.getElem?_eq_some_iff.1 hq).1, rfl, fun j w p h => (by simp at h), rfl, fun g hg => (by cases hg), fun _ => rfl, fun j w h => (by simp at h), ⟨hcut, Nat.le_refl _⟩⟩
  clear hI hK hvz
  refine wc_region ?_
  refine w_val rfl rfl (op_pure rfl) ?_
  refine w_nil ?_
  refine then_n ?_
  repeat refine wc_seq ?_
  refine wc_region ?_
  refine w_val rfl rfl (op_pure rfl) ?_
  refine w_nil ?_
  refine then_n ?_
  repeat refine wc_seq ?_
  refine wc_block ?_
  refine wc_loop_at (fun j m z => ∃ (i cut : Nat) (ms : List AV) (F : AV), j = data.length - i ∧ i ≤ data.length ∧ m = [(0, v), (5, F), (6, .int .i64 (i : Nat))] ∧ Ap2 s 1 lC data mkL tlL i cut ms F z) data.length
    [(0, v), (5, .nils), (6, .int .i64 ((0 : Nat) : Int))] (Sub.cons rfl (Sub.cons rfl (Sub.cons rfl (Sub.nil _)))) ⟨0, _, _, _, by simp, by simp, rfl, hA⟩ ?_
  clear hA hcut
  rintro j m z ⟨i, cut, ms, F, rfl, hi, rfl, hA⟩
  have hvz := hv.keep hA.K hvX
  have hcut := hA.cutb
  repeat refine wc_seq ?_
  refine wc_region ?_
  refine w_val rfl rfl (op_pure rfl) ?_
  refine w_val rfl rfl (op_pure rfl) ?_
  refine w_val rfl rfl (op_len rfl rfl rfl rfl rfl (by assumption)) ?_
  refine w_val rfl rfl (op_pure rfl) ?_
  refine w_nil ?_
  refine then_n ?_
  repeat refine wc_seq ?_
  refine wc_condT rfl (fun h42 => ?_) (fun h42 => ?_)
  · simp only [decide_eq_true_eq] at h42
    refine wc_skip ?_
    refine then_n ?_
    repeat refine wc_seq ?_
    refine wc_block ?_
    repeat refine wc_seq ?_
    obtain ⟨p, hp⟩ : ∃ x, data[i]? = some x := ⟨_, List.getElem?_eq_getElem (by omega)⟩
    have hpm := List.mem_of_getElem? hp
    have hpl := hl2 p hpm
    obtain ⟨xs, hxl, hxr, hxG⟩ := hA.old i p hp
    unfold FullG at hxG
    rw [hxl] at hxG
    rw [hxG] at hxr
    clear hxG hxl
    refine wc_region ?_
    refine w_val rfl rfl (op_pure rfl) ?_
    refine w_val rfl rfl (op_pure rfl) ?_
    refine w_val rfl rfl (op_idxF rfl rfl (natA_cast _ _) rfl rfl rfl rfl (by assumption) (by omega)) ?_
    refine w_val rfl rfl (op_load rfl rfl (Row.mk_pt hvz hp) rfl) ?_
    refine w_val rfl rfl (op_pure rfl) ?_
    refine w_nil ?_
    refine then_n ?_
    repeat refine wc_seq ?_
    refine wc_region ?_
    refine w_val rfl rfl (op_pure rfl) ?_
    refine w_nil ?_
    refine then_n ?_
    repeat refine wc_seq ?_
    refine wc_block ?_
    refine wc_loop_at (fun j m z => ∃ (k : Nat) (l : AV), j = 30 - k ∧ k ≤ 30 ∧ m = [(0, v), (5, F), (6, .int .i64 (i : Nat)), (7, l), (8, .int .i64 (k : Nat))] ∧ Ap2 s 1 lC data mkL tlL i cut ms F z ∧ Row z.h 1 p.1 ((fullM mkL i p.2.length).map lC) ∧ Row z.h 1 l ((fullM mkL i p.2.length ++ fullM tlL i k).map lC) ∧
        (∀ g ∈ l.gs, g ∈ p.1.gs ∨ cut ≤ g) ∧ (l.gs = [] → l = .nils) ∧ (∀ g ∈ p.1.gs, g ∈ l.gs → finA z.h p.1 ≤ finA z.h l)) 30
      [(0, v), (5, F), (6, .int .i64 (i : Nat)), (7, p.1), (8, .int .i64 ((0 : Nat) : Int))] (Sub.cons rfl (Sub.cons rfl (Sub.cons rfl (Sub.cons rfl (Sub.cons rfl (Sub.nil _)))))) ⟨0, p.1, by simp, by simp, rfl, hA, hxr, by simpa [fullM] using hxr, fun g hg => .inl hg, hn p hpm, fun g _ _ => Nat.le_refl _⟩ ?_
    clear hA hxr hvz
    rintro j1 m1 z ⟨k, l, rfl, hk, rfl, hA, hxr, hl, hlb, hln, hlf⟩
    have hcut := hA.cutb
    repeat refine wc_seq ?_
    refine wc_region ?_
    refine w_val rfl rfl (op_pure rfl) ?_
    refine w_val rfl rfl (op_pure rfl) ?_
    refine w_nil ?_
    refine then_n ?_
    repeat refine wc_seq ?_
    refine wc_condT rfl (fun h50 => ?_) (fun h50 => ?_)
    · simp only [decide_eq_true_eq] at h50
      refine wc_skip ?_
      refine then_n ?_
      repeat refine wc_seq ?_
      refine wc_block ?_
      refine wc_region ?_
      refine w_val rfl rfl (op_pure rfl) ?_
      refine w_val rfl rfl (op_pure rfl) ?_
      refine w_val rfl rfl (op_mul rfl rfl (by unfold In64; omega)) ?_
      refine w_val rfl rfl (op_add rfl rfl (by unfold In64; omega)) ?_
      refine w_val rfl rfl (op_pure rfl) ?_
      refine w_val rfl rfl (op_add rfl rfl (by unfold In64; omega)) ?_
      refine w_val rfl rfl (op_cv (r := 500000 + 1000 * (i : Int) + (k : Nat)) rfl rfl rfl rfl rfl (wrapU64 (by omega) (by omega))) ?_
      refine w_lit1 (c := [.int .u64 (500000 + 1000 * (i : Int) + (k : Nat))]) rfl rfl rfl rfl rfl rfl rfl (by decide) (by decide) rfl rfl rfl hA.K.ok ?_
      rintro b z1 hb1 hk1 hc1 hg1
      have hA := hA.grow hd hb hp hk1 (fun g hg => by cases hg) (fun xs h => h.keep0 hk1)
      have hfp : finA z1.h p.1 = finA z.h p.1 := finA_keep hxr hk1 (fun g _ h => by cases h)
      have hfl : finA z1.h l = finA z.h l := finA_keep hl hk1 (fun g _ h => by cases h)
      rw [← hfp, ← hfl] at hlf
      have hxr := hxr.keep0 hk1
      have hl := hl.keep0 hk1
      have hcz : cut ≤ z1.ctr := by have := hA.cutb; omega
      clear hfp hfl hk1 hc1 hg1
      refine w_appendK (sz := 1) (ns := [tlL i k].map lC) rfl rfl rfl rfl rfl rfl rfl rfl rfl rfl (by decide) hA.K.ok hl hln hb1 (by simp only [List.length_map, List.length_append, List.length_cons, List.length_nil, fullM_len, maxBytes]; omega) (by simp only [List.length_map, List.length_append, List.length_cons, List.length_nil, fullM_len, maxBytes]; omega) ?_
      rintro l2 z2 hl2' hk2 hc2 hg2 hn2 - hap
      rw [← List.map_append, List.append_assoc, show fullM tlL i k ++ [tlL i k] = fullM tlL i (k + 1) by simp [fullM, List.range_succ]] at hl2'
      have hlt := hxr.lt hA.K.ok
      obtain ⟨hx2, hfx⟩ := hap.rows hxr hlf
      have hlf2 : ∀ g ∈ p.1.gs, g ∈ l2.gs → finA z2.h p.1 ≤ finA z2.h l2 := fun g h1 h2 => by
        rcases hg2 with e | e
        · rw [e] at h2
          rw [hfx, hap.fin e (fun e0 => by rw [e0] at h2; cases h2)]
          exact Nat.le_trans (hlf g h1 h2) (Nat.le_add_right _ _)
        · rw [e] at h2; have := hlt g h1; rw [List.mem_singleton.1 h2] at this; omega
      have hlb2 : ∀ g ∈ l2.gs, g ∈ p.1.gs ∨ cut ≤ g := fun g h => by
        rcases hg2 with e | e
        · rw [e] at h; exact hlb g h
        · rw [e] at h; rw [List.mem_singleton.1 h]; exact .inr hcz
      have hA := hA.grow hd hb hp hk2 hlb (fun xs h => (hap.rows h hlf).1)
      clear hap hfx hxr hl hb1
      refine w_val rfl rfl (op_pure rfl) ?_
      refine w_nil ?_
      refine out_n ?_
      refine then_n ?_
      refine wc_region ?_
      refine w_val rfl rfl (op_pure rfl) ?_
      refine w_val rfl rfl (op_add rfl rfl (by unfold In64; omega)) ?_
      refine w_val rfl rfl (op_pure rfl) ?_
      refine w_nil ?_
      exact round_n _ _ (by omega) (Sub.cons rfl (Sub.cons rfl (Sub.cons rfl (Sub.cons rfl (Sub.cons rfl (Sub.nil _)))))) ⟨k + 1, l2, rfl, by omega, rfl, hA, hx2, hl2', hlb2, hn2, hlf2⟩
    simp only [decide_eq_false_iff_not] at h50
    obtain rfl : k = 30 := by omega
    refine wc_exit ?_
    repeat first | refine then_x ?_ | refine round_x ?_ | refine cut_x ?_ | refine out_x' (by decide) ?_
    refine out_x ?_
    refine then_n ?_
    refine wc_region ?_
    refine w_val rfl rfl (op_pure rfl) ?_
    refine w_val rfl rfl (op_pure rfl) ?_
    refine w_lit1 (c := [l]) rfl rfl rfl rfl rfl rfl rfl (by decide) (by decide) (fillS1 hl.leaf) (by simp only [List.all_cons, List.all_nil, hl.leaf]; rfl) rfl hA.K.ok ?_
    rintro b z1 hb1 hk1 hc1 -
    have hA := hA.grow hd hb hp hk1 (fun g hg => by cases hg) (fun xs h => h.keep0 hk1)
    have hl := hl.keep0 hk1
    clear hk1 hc1
    refine w_append rfl rfl rfl rfl rfl rfl rfl rfl rfl (by decide) hA.K.ok hA.rF hA.Fn hb1 (by rw [List.length_map, hA.len]; simp only [List.length_cons, List.length_nil, maxBytes]; omega) (by rw [List.length_map, hA.len]; simp only [List.length_cons, List.length_nil, maxBytes]; omega) ?_
    rintro F2 z2 hF2 hk2 - hg2 hn2 -
    have hA := hA.push hb hp hl hlb hF2 hk2 hg2 hn2
    refine w_val rfl rfl (op_pure rfl) ?_
    refine w_nil ?_
    refine out_n ?_
    refine then_n ?_
    refine wc_region ?_
    refine w_val rfl rfl (op_pure rfl) ?_
    refine w_val rfl rfl (op_add rfl rfl (by unfold In64; omega)) ?_
    refine w_val rfl rfl (op_pure rfl) ?_
    refine w_nil ?_
    exact round_n _ _ (by omega) (Sub.cons rfl (Sub.cons rfl (Sub.cons rfl (Sub.nil _)))) ⟨i + 1, _, _, F2, rfl, by omega, rfl, hA⟩
  simp only [decide_eq_false_iff_not] at h42
  obtain rfl : i = data.length := by omega
  refine wc_exit ?_
  repeat first | refine then_x ?_ | refine round_x ?_ | refine cut_x ?_ | refine out_x' (by decide) ?_
  refine out_x ?_
  refine then_n ?_
  repeat refine wc_seq ?_
  have hFz := hA.rF
  have hml := hA.len
  refine wc_region ?_
  refine w_val rfl rfl (op_pure rfl) ?_
  refine w_nil ?_
  refine then_n ?_
  repeat refine wc_seq ?_
  refine wc_block ?_
  refine wc_loop_at (fun j m z' => ∃ i : Nat, j = data.length - i ∧ i ≤ data.length ∧ m = [(0, v), (5, F), (9, .int .i64 (i : Nat))] ∧ z = z') data.length
    [(0, v), (5, F), (9, .int .i64 ((0 : Nat) : Int))] (Sub.cons rfl (Sub.cons rfl (Sub.cons rfl (Sub.nil _)))) ⟨0, by simp, by simp, rfl, rfl⟩ ?_
  rintro j m _ ⟨i, rfl, hi, rfl, rfl⟩
  repeat refine wc_seq ?_
  refine wc_region ?_
  refine w_val rfl rfl (op_pure rfl) ?_
  refine w_val rfl rfl (op_pure rfl) ?_
  refine w_val rfl rfl (op_len rfl rfl rfl rfl rfl (by assumption)) ?_
  refine w_val rfl rfl (op_pure rfl) ?_
  refine w_nil ?_
  refine then_n ?_
  repeat refine wc_seq ?_
  refine wc_condT rfl (fun h69 => ?_) (fun h69 => ?_)
  · simp only [decide_eq_true_eq] at h69
    refine wc_skip ?_
    refine then_n ?_
    repeat refine wc_seq ?_
    refine wc_block ?_
    repeat refine wc_seq ?_
    obtain ⟨p, hp⟩ : ∃ x, data[i]? = some x := ⟨_, List.getElem?_eq_getElem (by omega)⟩
    have hpm := List.mem_of_getElem? hp
    have hpl := hl2 p hpm
    obtain ⟨xs, hxl, hxr, hxG⟩ := hA.old i p hp
    unfold FullG at hxG
    rw [hxl] at hxG
    rw [hxG] at hxr
    clear hxG hxl
    have hxs : p.1.slen = some p.2.length := hxr.slenF.trans (by rw [fullM_len])
    obtain ⟨w, hw⟩ : ∃ x, ms[i]? = some x := ⟨_, List.getElem?_eq_getElem (by omega)⟩
    obtain ⟨hwr, -⟩ := hA.new i w p hw hp
    refine wc_region ?_
    refine w_val rfl rfl (op_pure rfl) ?_
    refine w_val rfl rfl (op_pure rfl) ?_
    refine w_val rfl rfl (op_idxF rfl rfl (natA_cast _ _) rfl rfl rfl rfl (by assumption) (by omega)) ?_
    refine w_val rfl rfl (op_load rfl rfl (Row.mk_pt hvz hp) rfl) ?_
    refine w_val rfl rfl (op_len rfl rfl rfl rfl rfl (by assumption)) ?_
    refine w_val rfl rfl (op_pure rfl) ?_
    refine w_nil ?_
    refine then_n ?_
    repeat refine wc_seq ?_
    refine wc_region ?_
    refine w_val rfl rfl (op_pure rfl) ?_
    refine w_nil ?_
    refine then_n ?_
    repeat refine wc_seq ?_
    refine wc_block ?_
    refine wc_loop_at (fun j m z' => ∃ k : Nat, j = p.2.length - k ∧ k ≤ p.2.length ∧ m = [(0, v), (5, F), (9, .int .i64 (i : Nat)), (10, .int .i64 (p.2.length : Nat)), (11, .int .i64 (k : Nat))] ∧ z = z') p.2.length
      [(0, v), (5, F), (9, .int .i64 (i : Nat)), (10, .int .i64 (p.2.length : Nat)), (11, .int .i64 ((0 : Nat) : Int))] (Sub.cons rfl (Sub.cons rfl (Sub.cons rfl (Sub.cons rfl (Sub.cons rfl (Sub.nil _)))))) ⟨0, by simp, by simp, rfl, rfl⟩ ?_
    rintro j1 m1 _ ⟨k, rfl, hk, rfl, rfl⟩
    repeat refine wc_seq ?_
    refine wc_region ?_
    refine w_val rfl rfl (op_pure rfl) ?_
    refine w_val rfl rfl (op_pure rfl) ?_
    refine w_val rfl rfl (op_pure rfl) ?_
    refine w_nil ?_
    refine then_n ?_
    repeat refine wc_seq ?_
    refine wc_condT rfl (fun h79 => ?_) (fun h79 => ?_)
    · simp only [decide_eq_true_eq] at h79
      refine wc_skip ?_
      refine then_n ?_
      repeat refine wc_seq ?_
      refine wc_block ?_
      repeat refine wc_seq ?_
      have hxk : (fullM mkL i p.2.length)[k]? = some (mkL i k) := fullM_get _ (by omega)
      have hwk : (fullM mkL i p.2.length ++ fullM tlL i 30)[k]? = some (mkL i k) := by rw [List.getElem?_append_left (by rw [fullM_len]; omega)]; exact hxk
      refine wc_region ?_
      refine w_val rfl rfl (op_pure rfl) ?_
      refine w_val rfl rfl (op_pure rfl) ?_
      refine w_val rfl rfl (op_idxF rfl rfl (natA_cast _ _) rfl rfl rfl rfl (by assumption) (by omega)) ?_
      refine w_val rfl rfl (op_load rfl rfl (Row.mk_pt hvz hp) rfl) ?_
      refine w_val rfl rfl (op_pure rfl) ?_
      refine w_val rfl rfl (op_idxF rfl rfl (natA_cast _ _) rfl rfl rfl rfl hxr (by rw [fullM_len]; omega)) ?_
      refine w_val rfl rfl (op_load rfl rfl (Row.mk_pt hxr hxk) rfl) ?_
      refine w_val rfl rfl (op_cv (r := mkL i k) rfl rfl rfl rfl rfl (wrap64 (by unfold In64 mkL; omega))) ?_
      refine w_val rfl rfl (op_pure rfl) ?_
      refine w_val rfl rfl (op_mul rfl rfl (by unfold In64; omega)) ?_
      refine w_val rfl rfl (op_pure rfl) ?_
      refine w_val rfl rfl (op_add rfl rfl (by unfold In64; omega)) ?_
      refine w_val rfl rfl (op_int (v := .bool false) rfl rfl (by decide) (by simp [intA, mkL])) ?_
      refine w_val rfl rfl (op_pure rfl) ?_
      refine w_split (i := 95) rfl (fun h95 => ?_) (fun h95 => ?_)
      · cases h95
      skip
      refine w_val rfl rfl (op_pure rfl) ?_
      refine w_val rfl rfl (op_pure rfl) ?_
      refine w_val rfl rfl (op_idxF rfl rfl (natA_cast _ _) rfl rfl rfl rfl hFz (by omega)) ?_
      refine w_val rfl rfl (op_load rfl rfl (Row.mk_pt hFz hw) rfl) ?_
      refine w_val rfl rfl (op_pure rfl) ?_
      refine w_val rfl rfl (op_idxF rfl rfl (natA_cast _ _) rfl rfl rfl rfl hwr (by rw [List.length_append, fullM_len, fullM_len]; omega)) ?_
      refine w_val rfl rfl (op_load rfl rfl (Row.mk_pt hwr hwk) rfl) ?_
      refine w_val rfl rfl (op_cv (r := mkL i k) rfl rfl rfl rfl rfl (wrap64 (by unfold In64 mkL; omega))) ?_
      refine w_val rfl rfl (op_pure rfl) ?_
      refine w_val rfl rfl (op_mul rfl rfl (by unfold In64; omega)) ?_
      refine w_val rfl rfl (op_pure rfl) ?_
      refine w_val rfl rfl (op_add rfl rfl (by unfold In64; omega)) ?_
      refine w_val rfl rfl (op_int (v := .bool false) rfl rfl (by decide) (by simp [intA, mkL])) ?_
      refine w_val rfl rfl (op_pure rfl) ?_
      refine w_nil ?_
      refine then_n ?_
      refine wc_condT rfl (fun h109 => ?_) (fun h109 => ?_)
      · cases h109
      skip
      refine wc_skip ?_
      refine out_n ?_
      refine then_n ?_
      refine wc_region ?_
      refine w_val rfl rfl (op_pure rfl) ?_
      refine w_val rfl rfl (op_add rfl rfl (by unfold In64; omega)) ?_
      refine w_val rfl rfl (op_pure rfl) ?_
      refine w_nil ?_
      exact round_n _ _ (by omega) (Sub.cons rfl (Sub.cons rfl (Sub.cons rfl (Sub.cons rfl (Sub.cons rfl (Sub.nil _)))))) ⟨k + 1, rfl, by omega, rfl, rfl⟩
    simp only [decide_eq_false_iff_not] at h79
    obtain rfl : k = p.2.length := by omega
    refine wc_exit ?_
    repeat first | refine then_x ?_ | refine round_x ?_ | refine cut_x ?_ | refine out_x' (by decide) ?_
    refine out_x ?_
    refine then_n ?_
    repeat refine wc_seq ?_
    refine wc_region ?_
    refine w_val rfl rfl (op_pure rfl) ?_
    refine w_nil ?_
    refine then_n ?_
    refine wc_block ?_
    refine wc_loop_at (fun j m z' => ∃ k : Nat, j = 30 - k ∧ k ≤ 30 ∧ m = [(0, v), (5, F), (9, .int .i64 (i : Nat)), (10, .int .i64 (p.2.length : Nat)), (12, .int .i64 (k : Nat))] ∧ z = z') 30
      [(0, v), (5, F), (9, .int .i64 (i : Nat)), (10, .int .i64 (p.2.length : Nat)), (12, .int .i64 ((0 : Nat) : Int))] (Sub.cons rfl (Sub.cons rfl (Sub.cons rfl (Sub.cons rfl (Sub.cons rfl (Sub.nil _)))))) ⟨0, by simp, by simp, rfl, rfl⟩ ?_
    rintro j1 m1 _ ⟨k, rfl, hk, rfl, rfl⟩
    repeat refine wc_seq ?_
    refine wc_region ?_
    refine w_val rfl rfl (op_pure rfl) ?_
    refine w_val rfl rfl (op_pure rfl) ?_
    refine w_nil ?_
    refine then_n ?_
    repeat refine wc_seq ?_
    refine wc_condT rfl (fun h111 => ?_) (fun h111 => ?_)
    · simp only [decide_eq_true_eq] at h111
      refine wc_skip ?_
      refine then_n ?_
      repeat refine wc_seq ?_
      refine wc_block ?_
      repeat refine wc_seq ?_
      have hwk : (fullM mkL i p.2.length ++ fullM tlL i 30)[p.2.length + k]? = some (tlL i k) := by rw [List.getElem?_append_right (by rw [fullM_len]; omega), fullM_len, Nat.add_sub_cancel_left]; exact fullM_get _ (by omega)
      refine wc_region ?_
      refine w_val rfl rfl (op_pure rfl) ?_
      refine w_val rfl rfl (op_pure rfl) ?_
      refine w_val rfl rfl (op_idxF rfl rfl (natA_cast _ _) rfl rfl rfl rfl hFz (by omega)) ?_
      refine w_val rfl rfl (op_load rfl rfl (Row.mk_pt hFz hw) rfl) ?_
      refine w_val rfl rfl (op_pure rfl) ?_
      refine w_val rfl rfl (op_pure rfl) ?_
      refine w_val rfl rfl (op_add rfl rfl (by unfold In64; omega)) ?_
      refine w_val rfl rfl (op_idxF (n := p.2.length + k) rfl rfl (natA_add _ _ _) rfl rfl rfl rfl hwr (by rw [List.length_append, fullM_len, fullM_len]; omega)) ?_
      refine w_val rfl rfl (op_load rfl rfl (Row.mk_pt hwr hwk) rfl) ?_
      refine w_val rfl rfl (op_cv (r := tlL i k) rfl rfl rfl rfl rfl (wrap64 (by unfold In64 tlL; omega))) ?_
      refine w_val rfl rfl (op_pure rfl) ?_
      refine w_val rfl rfl (op_mul rfl rfl (by unfold In64; omega)) ?_
      refine w_val rfl rfl (op_add rfl rfl (by unfold In64; omega)) ?_
      refine w_val rfl rfl (op_pure rfl) ?_
      refine w_val rfl rfl (op_add rfl rfl (by unfold In64; omega)) ?_
      refine w_val rfl rfl (op_int (v := .bool false) rfl rfl (by decide) (by simp [intA, tlL])) ?_
      refine w_nil ?_
      refine then_n ?_
      refine wc_condT rfl (fun h129 => ?_) (fun h129 => ?_)
      · cases h129
      skip
      refine wc_skip ?_
      refine out_n ?_
      refine then_n ?_
      refine wc_region ?_
      refine w_val rfl rfl (op_pure rfl) ?_
      refine w_val rfl rfl (op_add rfl rfl (by unfold In64; omega)) ?_
      refine w_val rfl rfl (op_pure rfl) ?_
      refine w_nil ?_
      exact round_n _ _ (by omega) (Sub.cons rfl (Sub.cons rfl (Sub.cons rfl (Sub.cons rfl (Sub.cons rfl (Sub.nil _)))))) ⟨k + 1, rfl, by omega, rfl, rfl⟩
    simp only [decide_eq_false_iff_not] at h111
    obtain rfl : k = 30 := by omega
    refine wc_exit ?_
    repeat first | refine then_x ?_ | refine round_x ?_ | refine cut_x ?_ | refine out_x' (by decide) ?_
    refine out_x ?_
    refine out_n ?_
    refine then_n ?_
    refine wc_region ?_
    refine w_val rfl rfl (op_pure rfl) ?_
    refine w_val rfl rfl (op_add rfl rfl (by unfold In64; omega)) ?_
    refine w_val rfl rfl (op_pure rfl) ?_
    refine w_nil ?_
    exact round_n _ _ (by omega) (Sub.cons rfl (Sub.cons rfl (Sub.cons rfl (Sub.nil _)))) ⟨i + 1, rfl, by omega, rfl, rfl⟩
  simp only [decide_eq_false_iff_not] at h69
  obtain rfl : i = data.length := by omega
  refine wc_exit ?_
  repeat first | refine then_x ?_ | refine round_x ?_ | refine cut_x ?_ | refine out_x' (by decide) ?_
  refine out_x ?_
  refine then_n ?_
  repeat refine wc_seq ?_
  refine wc_region ?_
  refine w_val rfl rfl (op_pure rfl) ?_
  refine w_nil ?_
  refine then_n ?_
  refine wc_ret ?_
  repeat first | refine then_r ?_ | refine out_r ?_ | refine round_r ?_ | refine cut_r ?_ | refine sc_r ?_
  exact ⟨_, rfl, hA.K, rfl⟩
set_option maxRecDepth 10000 in
set_option maxHeartbeats 8000000 in
/-- Lists of numbers. -/
theorem apartInts_ok {s : St} {v : AV} {data : List (AV × List Int)} (hok : s.Ok) (hv : Row s.h 1 v (data.map fun p => [p.1])) (hvX : ∀ g ∈ v.gs, g ∉ data.flatMap (·.1.gs)) (hr : ∀ p ∈ data, Row s.h 1 p.1 (p.2.map iC)) (hd : (data.map (·.1)).Pairwise Dis) (hn : ∀ p ∈ data, p.1.gs = [] → p.1 = .nils)
    (hl1 : data.length ≤ 1000000) (hl2 : ∀ p ∈ data, p.2.length ≤ 2097152) : CallS Try.prog Tt Kt 25 [v] s (fun r s' => Keep (data.flatMap (·.1.gs)) s s' ∧ r = .bool true) := by
  have hb : ∀ p ∈ data, ∀ g ∈ p.1.gs, g < s.ctr := fun p hp => (hr p hp).lt hok
  refine call_of (fn := Try.f25) (nt := 125) Try.func25 rfl rfl rfl ?_
  repeat refine wc_seq ?_
  refine wc_region ?_
  refine w_val rfl rfl (op_pure rfl) ?_
  refine w_nil ?_
  refine then_n ?_
  repeat refine wc_seq ?_
  have hK := Keep.refl hok
  have hvl : v.slen = some data.length := hv.slenF
  have hI : RowsI s.h 1 iC data (MarkG mkL 0 0) := fun q p hq => ⟨p.2, rfl, hr p (List.mem_of_getElem? hq), MarkG.zero _ _ _⟩
  have hK : Keep (data.flatMap (·.1.gs)) s s := hK.more (fun g hg => by cases hg)
  refine wc_region ?_
  refine w_val rfl rfl (op_pure rfl) ?_
  refine w_nil ?_
  refine then_n ?_
  repeat refine wc_seq ?_
  refine wc_block ?_
  refine wc_loop_at (fun j m z => ∃ i : Nat, j = data.length - i ∧ i ≤ data.length ∧ m = [(0, v), (3, .int .i64 (i : Nat))] ∧ Keep (data.flatMap (·.1.gs)) s z ∧ RowsI z.h 1 iC data (MarkG mkL i 0)) data.length
    [(0, v), (3, .int .i64 ((0 : Nat) : Int))] (Sub.cons rfl (Sub.cons rfl (Sub.nil _))) ⟨0, by simp, by simp, rfl, hK, hI⟩ ?_
  clear hK hI
  rintro j m z ⟨i, rfl, hi, rfl, hK, hI⟩
  have hvz := hv.keep hK hvX
  repeat refine wc_seq ?_
  refine wc_region ?_
  refine w_val rfl rfl (op_pure rfl) ?_
  refine w_val rfl rfl (op_pure rfl) ?_
  refine w_val rfl rfl (op_len rfl rfl rfl rfl rfl (by assumption)) ?_
  refine w_val rfl rfl (op_pure rfl) ?_
  refine w_nil ?_
  refine then_n ?_
  repeat refine wc_seq ?_
  refine wc_condT rfl (fun h16 => ?_) (fun h16 => ?_)
  · simp only [decide_eq_true_eq] at h16
    refine wc_skip ?_
    refine then_n ?_
    repeat refine wc_seq ?_
    refine wc_block ?_
    repeat refine wc_seq ?_
    obtain ⟨p, hp⟩ : ∃ x, data[i]? = some x := ⟨_, List.getElem?_eq_getElem (by omega)⟩
    have hpm := List.mem_of_getElem? hp
    have hpl := hl2 p hpm
    refine wc_region ?_
    refine w_val rfl rfl (op_pure rfl) ?_
    refine w_nil ?_
    refine then_n ?_
    refine wc_block ?_
    refine wc_loop_at (fun j m z => ∃ k : Nat, j = p.2.length - k ∧ k ≤ p.2.length ∧ m = [(0, v), (3, .int .i64 (i : Nat)), (4, .int .i64 (k : Nat))] ∧ Keep (data.flatMap (·.1.gs)) s z ∧ RowsI z.h 1 iC data (MarkG mkL i k)) p.2.length
      [(0, v), (3, .int .i64 (i : Nat)), (4, .int .i64 ((0 : Nat) : Int))] (Sub.cons rfl (Sub.cons rfl (Sub.cons rfl (Sub.nil _)))) ⟨0, by simp, by simp, rfl, hK, hI⟩ ?_
    clear hK hI hvz
    rintro j1 m1 z ⟨k, rfl, hk, rfl, hK, hI⟩
    have hvz := hv.keep hK hvX
    obtain ⟨xs, hxl, hxr, hxG⟩ := hI i p hp
    have hxs : p.1.slen = some p.2.length := hxr.slenF.trans (congrArg some hxl)
    repeat refine wc_seq ?_
    refine wc_region ?_
    refine w_val rfl rfl (op_pure rfl) ?_
    refine w_val rfl rfl (op_pure rfl) ?_
    refine w_val rfl rfl (op_pure rfl) ?_
    refine w_val rfl rfl (op_idxF rfl rfl (natA_cast _ _) rfl rfl rfl rfl (by assumption) (by omega)) ?_
    refine w_val rfl rfl (op_load rfl rfl (Row.mk_pt hvz hp) rfl) ?_
    refine w_val rfl rfl (op_len rfl rfl rfl rfl rfl (by assumption)) ?_
    refine w_val rfl rfl (op_pure rfl) ?_
    refine w_nil ?_
    refine then_n ?_
    repeat refine wc_seq ?_
    refine wc_condT rfl (fun h25 => ?_) (fun h25 => ?_)
    · simp only [decide_eq_true_eq] at h25
      refine wc_skip ?_
      refine then_n ?_
      repeat refine wc_seq ?_
      refine wc_block ?_
      refine wc_region ?_
      refine w_val rfl rfl (op_pure rfl) ?_
      refine w_val rfl rfl (op_pure rfl) ?_
      refine w_val rfl rfl (op_idxF rfl rfl (natA_cast _ _) rfl rfl rfl rfl (by assumption) (by omega)) ?_
      refine w_val rfl rfl (op_load rfl rfl (Row.mk_pt hvz hp) rfl) ?_
      refine w_val rfl rfl (op_pure rfl) ?_
      refine w_val rfl rfl (op_pure rfl) ?_
      refine w_val rfl rfl (op_mul rfl rfl (by unfold In64; omega)) ?_
      refine w_val rfl rfl (op_pure rfl) ?_
      refine w_val rfl rfl (op_add rfl rfl (by unfold In64; omega)) ?_
      refine w_val rfl rfl (op_idxF rfl rfl (natA_cast _ _) rfl rfl rfl rfl hxr (by omega)) ?_
      refine w_store_row rfl rfl rfl rfl rfl rfl rfl hK.ok hxr (fun e => by have := hn p hpm e; rw [this] at hxr; have h0 := congrArg List.length (show xs.map iC = [] from hxr); rw [List.length_map, List.length_nil] at h0; omega) (by rw [List.length_map]; omega) ?_
      intro zz hx2 hk2 hc2
      have hI := hI.upd hd hp hk2 (xs := xs.set k (mkL i k)) (G' := MarkG mkL i (k + 1)) (by rw [List.map_set]; exact hx2) (by rw [List.length_set]; exact hxl) (hxG.step (by omega)) (fun q xs hq h => h.other hq)
      have hK := hK.trans hk2 (fun g hg => .inl (List.mem_flatMap.2 ⟨p, hpm, hg⟩))
      clear hx2 hk2 hc2 hxr hxG
      refine w_nil ?_
      refine out_n ?_
      refine then_n ?_
      refine wc_region ?_
      refine w_val rfl rfl (op_pure rfl) ?_
      refine w_val rfl rfl (op_add rfl rfl (by unfold In64; omega)) ?_
      refine w_val rfl rfl (op_pure rfl) ?_
      refine w_nil ?_
      exact round_n _ _ (by omega) (Sub.cons rfl (Sub.cons rfl (Sub.cons rfl (Sub.nil _)))) ⟨k + 1, rfl, by omega, rfl, hK, hI⟩
    simp only [decide_eq_false_iff_not] at h25
    obtain rfl : k = p.2.length := by omega
    replace hI := hI.mono (G' := MarkG mkL (i + 1) 0) (fun q p' xs hq hx h => h.next fun e => by subst e; rw [hp] at hq; cases hq; omega)
    clear hxr hxG hxs
    refine wc_exit ?_
    repeat first | refine then_x ?_ | refine round_x ?_ | refine cut_x ?_ | refine out_x' (by decide) ?_
    refine out_x ?_
    refine out_n ?_
    refine then_n ?_
    refine wc_region ?_
    refine w_val rfl rfl (op_pure rfl) ?_
    refine w_val rfl rfl (op_add rfl rfl (by unfold In64; omega)) ?_
    refine w_val rfl rfl (op_pure rfl) ?_
    refine w_nil ?_
    exact round_n _ _ (by omega) (Sub.cons rfl (Sub.cons rfl (Sub.nil _))) ⟨i + 1, rfl, by omega, rfl, hK, hI⟩
  simp only [decide_eq_false_iff_not] at h16
  obtain rfl : i = data.length := by omega
  refine wc_exit ?_
  repeat first | refine then_x ?_ | refine round_x ?_ | refine cut_x ?_ | refine out_x' (by decide) ?_
  refine out_x ?_
  refine then_n ?_
  repeat refine wc_seq ?_
  have hcut := hK.ctr
  have hA : Ap2 s 1 iC data mkL tlL 0 z.ctr [] .nils z := ⟨hK, hI.mono fun q p xs hq _ h => h.1 (List.getElem?_eq_some_iff.1 hq).1, rfl, fun j w p h => (by simp at h), rfl, fun g hg => (by cases hg), fun _ => rfl, fun j w h => (by simp at h), ⟨hcut, Nat.le_refl _⟩⟩
  clear hI hK hvz
  refine wc_region ?_
  refine w_val rfl rfl (op_pure rfl) ?_
  refine w_nil ?_
  refine then_n ?_
  repeat refine wc_seq ?_
  refine wc_region ?_
  refine w_val rfl rfl (op_pure rfl) ?_
  refine w_nil ?_
  refine then_n ?_
  repeat refine wc_seq ?_
  refine wc_block ?_
  refine wc_loop_at (fun j m z => ∃ (i cut : Nat) (ms : List AV) (F : AV), j = data.length - i ∧ i ≤ data.length ∧ m = [(0, v), (5, F), (6, .int .i64 (i : Nat))] ∧ Ap2 s 1 iC data mkL tlL i cut ms F z) data.length
    [(0, v), (5, .nils), (6, .int .i64 ((0 : Nat) : Int))] (Sub.cons rfl (Sub.cons rfl (Sub.cons rfl (Sub.nil _)))) ⟨0, _, _, _, by simp, by simp, rfl, hA⟩ ?_
  clear hA hcut
  rintro j m z ⟨i, cut, ms, F, rfl, hi, rfl, hA⟩
  have hvz := hv.keep hA.K hvX
  have hcut := hA.cutb
  repeat refine wc_seq ?_
  refine wc_region ?_
  refine w_val rfl rfl (op_pure rfl) ?_
  refine w_val rfl rfl (op_pure rfl) ?_
  refine w_val rfl rfl (op_len rfl rfl rfl rfl rfl (by assumption)) ?_
  refine w_val rfl rfl (op_pure rfl) ?_
  refine w_nil ?_
  refine then_n ?_
  repeat refine wc_seq ?_
  refine wc_condT rfl (fun h41 => ?_) (fun h41 => ?_)
  · simp only [decide_eq_true_eq] at h41
    refine wc_skip ?_
    refine then_n ?_
    repeat refine wc_seq ?_
    refine wc_block ?_
    repeat refine wc_seq ?_
    obtain ⟨p, hp⟩ : ∃ x, data[i]? = some x := ⟨_, List.getElem?_eq_getElem (by omega)⟩
    have hpm := List.mem_of_getElem? hp
    have hpl := hl2 p hpm
    obtain ⟨xs, hxl, hxr, hxG⟩ := hA.old i p hp
    unfold FullG at hxG
    rw [hxl] at hxG
    rw [hxG] at hxr
    clear hxG hxl
    refine wc_region ?_
    refine w_val rfl rfl (op_pure rfl) ?_
    refine w_val rfl rfl (op_pure rfl) ?_
    refine w_val rfl rfl (op_idxF rfl rfl (natA_cast _ _) rfl rfl rfl rfl (by assumption) (by omega)) ?_
    refine w_val rfl rfl (op_load rfl rfl (Row.mk_pt hvz hp) rfl) ?_
    refine w_val rfl rfl (op_pure rfl) ?_
    refine w_nil ?_
    refine then_n ?_
    repeat refine wc_seq ?_
    refine wc_region ?_
    refine w_val rfl rfl (op_pure rfl) ?_
    refine w_nil ?_
    refine then_n ?_
    repeat refine wc_seq ?_
    refine wc_block ?_
    refine wc_loop_at (fun j m z => ∃ (k : Nat) (l : AV), j = 30 - k ∧ k ≤ 30 ∧ m = [(0, v), (5, F), (6, .int .i64 (i : Nat)), (7, l), (8, .int .i64 (k : Nat))] ∧ Ap2 s 1 iC data mkL tlL i cut ms F z ∧ Row z.h 1 p.1 ((fullM mkL i p.2.length).map iC) ∧ Row z.h 1 l ((fullM mkL i p.2.length ++ fullM tlL i k).map iC) ∧
        (∀ g ∈ l.gs, g ∈ p.1.gs ∨ cut ≤ g) ∧ (l.gs = [] → l = .nils) ∧ (∀ g ∈ p.1.gs, g ∈ l.gs → finA z.h p.1 ≤ finA z.h l)) 30
      [(0, v), (5, F), (6, .int .i64 (i : Nat)), (7, p.1), (8, .int .i64 ((0 : Nat) : Int))] (Sub.cons rfl (Sub.cons rfl (Sub.cons rfl (Sub.cons rfl (Sub.cons rfl (Sub.nil _)))))) ⟨0, p.1, by simp, by simp, rfl, hA, hxr, by simpa [fullM] using hxr, fun g hg => .inl hg, hn p hpm, fun g _ _ => Nat.le_refl _⟩ ?_
    clear hA hxr hvz
    rintro j1 m1 z ⟨k, l, rfl, hk, rfl, hA, hxr, hl, hlb, hln, hlf⟩
    have hcut := hA.cutb
    repeat refine wc_seq ?_
    refine wc_region ?_
    refine w_val rfl rfl (op_pure rfl) ?_
    refine w_val rfl rfl (op_pure rfl) ?_
    refine w_nil ?_
    refine then_n ?_
    repeat refine wc_seq ?_
    refine wc_condT rfl (fun h49 => ?_) (fun h49 => ?_)
    · simp only [decide_eq_true_eq] at h49
      refine wc_skip ?_
      refine then_n ?_
      repeat refine wc_seq ?_
      refine wc_block ?_
      refine wc_region ?_
      refine w_val rfl rfl (op_pure rfl) ?_
      refine w_val rfl rfl (op_pure rfl) ?_
      refine w_val rfl rfl (op_mul rfl rfl (by unfold In64; omega)) ?_
      refine w_val rfl rfl (op_add rfl rfl (by unfold In64; omega)) ?_
      refine w_val rfl rfl (op_pure rfl) ?_
      refine w_val rfl rfl (op_add rfl rfl (by unfold In64; omega)) ?_
      refine w_lit1 (c := [.int .i64 (500000 + 1000 * (i : Int) + (k : Nat))]) rfl rfl rfl rfl rfl rfl rfl (by decide) (by decide) rfl rfl rfl hA.K.ok ?_
      rintro b z1 hb1 hk1 hc1 hg1
      have hA := hA.grow hd hb hp hk1 (fun g hg => by cases hg) (fun xs h => h.keep0 hk1)
      have hfp : finA z1.h p.1 = finA z.h p.1 := finA_keep hxr hk1 (fun g _ h => by cases h)
      have hfl : finA z1.h l = finA z.h l := finA_keep hl hk1 (fun g _ h => by cases h)
      rw [← hfp, ← hfl] at hlf
      have hxr := hxr.keep0 hk1
      have hl := hl.keep0 hk1
      have hcz : cut ≤ z1.ctr := by have := hA.cutb; omega
      clear hfp hfl hk1 hc1 hg1
      refine w_appendK (sz := 1) (ns := [tlL i k].map iC) rfl rfl rfl rfl rfl rfl rfl rfl rfl rfl (by decide) hA.K.ok hl hln hb1 (by simp only [List.length_map, List.length_append, List.length_cons, List.length_nil, fullM_len, maxBytes]; omega) (by simp only [List.length_map, List.length_append, List.length_cons, List.length_nil, fullM_len, maxBytes]; omega) ?_
      rintro l2 z2 hl2' hk2 hc2 hg2 hn2 - hap
      rw [← List.map_append, List.append_assoc, show fullM tlL i k ++ [tlL i k] = fullM tlL i (k + 1) by simp [fullM, List.range_succ]] at hl2'
      have hlt := hxr.lt hA.K.ok
      obtain ⟨hx2, hfx⟩ := hap.rows hxr hlf
      have hlf2 : ∀ g ∈ p.1.gs, g ∈ l2.gs → finA z2.h p.1 ≤ finA z2.h l2 := fun g h1 h2 => by
        rcases hg2 with e | e
        · rw [e] at h2
          rw [hfx, hap.fin e (fun e0 => by rw [e0] at h2; cases h2)]
          exact Nat.le_trans (hlf g h1 h2) (Nat.le_add_right _ _)
        · rw [e] at h2; have := hlt g h1; rw [List.mem_singleton.1 h2] at this; omega
      have hlb2 : ∀ g ∈ l2.gs, g ∈ p.1.gs ∨ cut ≤ g := fun g h => by
        rcases hg2 with e | e
        · rw [e] at h; exact hlb g h
        · rw [e] at h; rw [List.mem_singleton.1 h]; exact .inr hcz
      have hA := hA.grow hd hb hp hk2 hlb (fun xs h => (hap.rows h hlf).1)
      clear hap hfx hxr hl hb1
      refine w_val rfl rfl (op_pure rfl) ?_
      refine w_nil ?_
      refine out_n ?_
      refine then_n ?_
      refine wc_region ?_
      refine w_val rfl rfl (op_pure rfl) ?_
      refine w_val rfl rfl (op_add rfl rfl (by unfold In64; omega)) ?_
      refine w_val rfl rfl (op_pure rfl) ?_
      refine w_nil ?_
      exact round_n _ _ (by omega) (Sub.cons rfl (Sub.cons rfl (Sub.cons rfl (Sub.cons rfl (Sub.cons rfl (Sub.nil _)))))) ⟨k + 1, l2, rfl, by omega, rfl, hA, hx2, hl2', hlb2, hn2, hlf2⟩
    simp only [decide_eq_false_iff_not] at h49
    obtain rfl : k = 30 := by omega
    refine wc_exit ?_
    repeat first | refine then_x ?_ | refine round_x ?_ | refine cut_x ?_ | refine out_x' (by decide) ?_
    refine out_x ?_
    refine then_n ?_
    refine wc_region ?_
    refine w_val rfl rfl (op_pure rfl) ?_
    refine w_val rfl rfl (op_pure rfl) ?_
    refine w_lit1 (c := [l]) rfl rfl rfl rfl rfl rfl rfl (by decide) (by decide) (fillS1 hl.leaf) (by simp only [List.all_cons, List.all_nil, hl.leaf]; rfl) rfl hA.K.ok ?_
    rintro b z1 hb1 hk1 hc1 -
    have hA := hA.grow hd hb hp hk1 (fun g hg => by cases hg) (fun xs h => h.keep0 hk1)
    have hl := hl.keep0 hk1
    clear hk1 hc1
    refine w_append rfl rfl rfl rfl rfl rfl rfl rfl rfl (by decide) hA.K.ok hA.rF hA.Fn hb1 (by rw [List.length_map, hA.len]; simp only [List.length_cons, List.length_nil, maxBytes]; omega) (by rw [List.length_map, hA.len]; simp only [List.length_cons, List.length_nil, maxBytes]; omega) ?_
    rintro F2 z2 hF2 hk2 - hg2 hn2 -
    have hA := hA.push hb hp hl hlb hF2 hk2 hg2 hn2
    refine w_val rfl rfl (op_pure rfl) ?_
    refine w_nil ?_
    refine out_n ?_
    refine then_n ?_
    refine wc_region ?_
    refine w_val rfl rfl (op_pure rfl) ?_
    refine w_val rfl rfl (op_add rfl rfl (by unfold In64; omega)) ?_
    refine w_val rfl rfl (op_pure rfl) ?_
    refine w_nil ?_
    exact round_n _ _ (by omega) (Sub.cons rfl (Sub.cons rfl (Sub.cons rfl (Sub.nil _)))) ⟨i + 1, _, _, F2, rfl, by omega, rfl, hA⟩
  simp only [decide_eq_false_iff_not] at h41
  obtain rfl : i = data.length := by omega
  refine wc_exit ?_
  repeat first | refine then_x ?_ | refine round_x ?_ | refine cut_x ?_ | refine out_x' (by decide) ?_
  refine out_x ?_
  refine then_n ?_
  repeat refine wc_seq ?_
  have hFz := hA.rF
  have hml := hA.len
  refine wc_region ?_
  refine w_val rfl rfl (op_pure rfl) ?_
  refine w_nil ?_
  refine then_n ?_
  repeat refine wc_seq ?_
  refine wc_block ?_
  refine wc_loop_at (fun j m z' => ∃ i : Nat, j = data.length - i ∧ i ≤ data.length ∧ m = [(0, v), (5, F), (9, .int .i64 (i : Nat))] ∧ z = z') data.length
    [(0, v), (5, F), (9, .int .i64 ((0 : Nat) : Int))] (Sub.cons rfl (Sub.cons rfl (Sub.cons rfl (Sub.nil _)))) ⟨0, by simp, by simp, rfl, rfl⟩ ?_
  rintro j m _ ⟨i, rfl, hi, rfl, rfl⟩
  repeat refine wc_seq ?_
  refine wc_region ?_
  refine w_val rfl rfl (op_pure rfl) ?_
  refine w_val rfl rfl (op_pure rfl) ?_
  refine w_val rfl rfl (op_len rfl rfl rfl rfl rfl (by assumption)) ?_
  refine w_val rfl rfl (op_pure rfl) ?_
  refine w_nil ?_
  refine then_n ?_
  repeat refine wc_seq ?_
  refine wc_condT rfl (fun h67 => ?_) (fun h67 => ?_)
  · simp only [decide_eq_true_eq] at h67
    refine wc_skip ?_
    refine then_n ?_
    repeat refine wc_seq ?_
    refine wc_block ?_
    repeat refine wc_seq ?_
    obtain ⟨p, hp⟩ : ∃ x, data[i]? = some x := ⟨_, List.getElem?_eq_getElem (by omega)⟩
    have hpm := List.mem_of_getElem? hp
    have hpl := hl2 p hpm
    obtain ⟨xs, hxl, hxr, hxG⟩ := hA.old i p hp
    unfold FullG at hxG
    rw [hxl] at hxG
    rw [hxG] at hxr
    clear hxG hxl
    have hxs : p.1.slen = some p.2.length := hxr.slenF.trans (by rw [fullM_len])
    obtain ⟨w, hw⟩ : ∃ x, ms[i]? = some x := ⟨_, List.getElem?_eq_getElem (by omega)⟩
    obtain ⟨hwr, -⟩ := hA.new i w p hw hp
    refine wc_region ?_
    refine w_val rfl rfl (op_pure rfl) ?_
    refine w_val rfl rfl (op_pure rfl) ?_
    refine w_val rfl rfl (op_idxF rfl rfl (natA_cast _ _) rfl rfl rfl rfl (by assumption) (by omega)) ?_
    refine w_val rfl rfl (op_load rfl rfl (Row.mk_pt hvz hp) rfl) ?_
    refine w_val rfl rfl (op_len rfl rfl rfl rfl rfl (by assumption)) ?_
    refine w_val rfl rfl (op_pure rfl) ?_
    refine w_nil ?_
    refine then_n ?_
    repeat refine wc_seq ?_
    refine wc_region ?_
    refine w_val rfl rfl (op_pure rfl) ?_
    refine w_nil ?_
    refine then_n ?_
    repeat refine wc_seq ?_
    refine wc_block ?_
    refine wc_loop_at (fun j m z' => ∃ k : Nat, j = p.2.length - k ∧ k ≤ p.2.length ∧ m = [(0, v), (5, F), (9, .int .i64 (i : Nat)), (10, .int .i64 (p.2.length : Nat)), (11, .int .i64 (k : Nat))] ∧ z = z') p.2.length
      [(0, v), (5, F), (9, .int .i64 (i : Nat)), (10, .int .i64 (p.2.length : Nat)), (11, .int .i64 ((0 : Nat) : Int))] (Sub.cons rfl (Sub.cons rfl (Sub.cons rfl (Sub.cons rfl (Sub.cons rfl (Sub.nil _)))))) ⟨0, by simp, by simp, rfl, rfl⟩ ?_
    rintro j1 m1 _ ⟨k, rfl, hk, rfl, rfl⟩
    repeat refine wc_seq ?_
    refine wc_region ?_
    refine w_val rfl rfl (op_pure rfl) ?_
    refine w_val rfl rfl (op_pure rfl) ?_
    refine w_val rfl rfl (op_pure rfl) ?_
    refine w_nil ?_
    refine then_n ?_
    repeat refine wc_seq ?_
    refine wc_condT rfl (fun h77 => ?_) (fun h77 => ?_)
    · simp only [decide_eq_true_eq] at h77
      refine wc_skip ?_
      refine then_n ?_
      repeat refine wc_seq ?_
      refine wc_block ?_
      repeat refine wc_seq ?_
      have hxk : (fullM mkL i p.2.length)[k]? = some (mkL i k) := fullM_get _ (by omega)
      have hwk : (fullM mkL i p.2.length ++ fullM tlL i 30)[k]? = some (mkL i k) := by rw [List.getElem?_append_left (by rw [fullM_len]; omega)]; exact hxk
      refine wc_region ?_
      refine w_val rfl rfl (op_pure rfl) ?_
      refine w_val rfl rfl (op_pure rfl) ?_
      refine w_val rfl rfl (op_idxF rfl rfl (natA_cast _ _) rfl rfl rfl rfl (by assumption) (by omega)) ?_
      refine w_val rfl rfl (op_load rfl rfl (Row.mk_pt hvz hp) rfl) ?_
      refine w_val rfl rfl (op_pure rfl) ?_
      refine w_val rfl rfl (op_idxF rfl rfl (natA_cast _ _) rfl rfl rfl rfl hxr (by rw [fullM_len]; omega)) ?_
      refine w_val rfl rfl (op_load rfl rfl (Row.mk_pt hxr hxk) rfl) ?_
      refine w_val rfl rfl (op_pure rfl) ?_
      refine w_val rfl rfl (op_mul rfl rfl (by unfold In64; omega)) ?_
      refine w_val rfl rfl (op_pure rfl) ?_
      refine w_val rfl rfl (op_add rfl rfl (by unfold In64; omega)) ?_
      refine w_val rfl rfl (op_int (v := .bool false) rfl rfl (by decide) (by simp [intA, mkL])) ?_
      refine w_val rfl rfl (op_pure rfl) ?_
      refine w_split (i := 92) rfl (fun h92 => ?_) (fun h92 => ?_)
      · cases h92
      skip
      refine w_val rfl rfl (op_pure rfl) ?_
      refine w_val rfl rfl (op_pure rfl) ?_
      refine w_val rfl rfl (op_idxF rfl rfl (natA_cast _ _) rfl rfl rfl rfl hFz (by omega)) ?_
      refine w_val rfl rfl (op_load rfl rfl (Row.mk_pt hFz hw) rfl) ?_
      refine w_val rfl rfl (op_pure rfl) ?_
      refine w_val rfl rfl (op_idxF rfl rfl (natA_cast _ _) rfl rfl rfl rfl hwr (by rw [List.length_append, fullM_len, fullM_len]; omega)) ?_
      refine w_val rfl rfl (op_load rfl rfl (Row.mk_pt hwr hwk) rfl) ?_
      refine w_val rfl rfl (op_pure rfl) ?_
      refine w_val rfl rfl (op_mul rfl rfl (by unfold In64; omega)) ?_
      refine w_val rfl rfl (op_pure rfl) ?_
      refine w_val rfl rfl (op_add rfl rfl (by unfold In64; omega)) ?_
      refine w_val rfl rfl (op_int (v := .bool false) rfl rfl (by decide) (by simp [intA, mkL])) ?_
      refine w_val rfl rfl (op_pure rfl) ?_
      refine w_nil ?_
      refine then_n ?_
      refine wc_condT rfl (fun h105 => ?_) (fun h105 => ?_)
      · cases h105
      skip
      refine wc_skip ?_
      refine out_n ?_
      refine then_n ?_
      refine wc_region ?_
      refine w_val rfl rfl (op_pure rfl) ?_
      refine w_val rfl rfl (op_add rfl rfl (by unfold In64; omega)) ?_
      refine w_val rfl rfl (op_pure rfl) ?_
      refine w_nil ?_
      exact round_n _ _ (by omega) (Sub.cons rfl (Sub.cons rfl (Sub.cons rfl (Sub.cons rfl (Sub.cons rfl (Sub.nil _)))))) ⟨k + 1, rfl, by omega, rfl, rfl⟩
    simp only [decide_eq_false_iff_not] at h77
    obtain rfl : k = p.2.length := by omega
    refine wc_exit ?_
    repeat first | refine then_x ?_ | refine round_x ?_ | refine cut_x ?_ | refine out_x' (by decide) ?_
    refine out_x ?_
    refine then_n ?_
    repeat refine wc_seq ?_
    refine wc_region ?_
    refine w_val rfl rfl (op_pure rfl) ?_
    refine w_nil ?_
    refine then_n ?_
    refine wc_block ?_
    refine wc_loop_at (fun j m z' => ∃ k : Nat, j = 30 - k ∧ k ≤ 30 ∧ m = [(0, v), (5, F), (9, .int .i64 (i : Nat)), (10, .int .i64 (p.2.length : Nat)), (12, .int .i64 (k : Nat))] ∧ z = z') 30
      [(0, v), (5, F), (9, .int .i64 (i : Nat)), (10, .int .i64 (p.2.length : Nat)), (12, .int .i64 ((0 : Nat) : Int))] (Sub.cons rfl (Sub.cons rfl (Sub.cons rfl (Sub.cons rfl (Sub.cons rfl (Sub.nil _)))))) ⟨0, by simp, by simp, rfl, rfl⟩ ?_
    rintro j1 m1 _ ⟨k, rfl, hk, rfl, rfl⟩
    repeat refine wc_seq ?_
    refine wc_region ?_
    refine w_val rfl rfl (op_pure rfl) ?_
    refine w_val rfl rfl (op_pure rfl) ?_
    refine w_nil ?_
    refine then_n ?_
    repeat refine wc_seq ?_
    refine wc_condT rfl (fun h107 => ?_) (fun h107 => ?_)
    · simp only [decide_eq_true_eq] at h107
      refine wc_skip ?_
      refine then_n ?_
      repeat refine wc_seq ?_
      refine wc_block ?_
      repeat refine wc_seq ?_
      have hwk : (fullM mkL i p.2.length ++ fullM tlL i 30)[p.2.length + k]? = some (tlL i k) := by rw [List.getElem?_append_right (by rw [fullM_len]; omega), fullM_len, Nat.add_sub_cancel_left]; exact fullM_get _ (by omega)
      refine wc_region ?_
      refine w_val rfl rfl (op_pure rfl) ?_
      refine w_val rfl rfl (op_pure rfl) ?_
      refine w_val rfl rfl (op_idxF rfl rfl (natA_cast _ _) rfl rfl rfl rfl hFz (by omega)) ?_
      refine w_val rfl rfl (op_load rfl rfl (Row.mk_pt hFz hw) rfl) ?_
      refine w_val rfl rfl (op_pure rfl) ?_
      refine w_val rfl rfl (op_pure rfl) ?_
      refine w_val rfl rfl (op_add rfl rfl (by unfold In64; omega)) ?_
      refine w_val rfl rfl (op_idxF (n := p.2.length + k) rfl rfl (natA_add _ _ _) rfl rfl rfl rfl hwr (by rw [List.length_append, fullM_len, fullM_len]; omega)) ?_
      refine w_val rfl rfl (op_load rfl rfl (Row.mk_pt hwr hwk) rfl) ?_
      refine w_val rfl rfl (op_pure rfl) ?_
      refine w_val rfl rfl (op_mul rfl rfl (by unfold In64; omega)) ?_
      refine w_val rfl rfl (op_add rfl rfl (by unfold In64; omega)) ?_
      refine w_val rfl rfl (op_pure rfl) ?_
      refine w_val rfl rfl (op_add rfl rfl (by unfold In64; omega)) ?_
      refine w_val rfl rfl (op_int (v := .bool false) rfl rfl (by decide) (by simp [intA, tlL])) ?_
      refine w_nil ?_
      refine then_n ?_
      refine wc_condT rfl (fun h124 => ?_) (fun h124 => ?_)
      · cases h124
      skip
      refine wc_skip ?_
      refine out_n ?_
      refine then_n ?_
      refine wc_region ?_
      refine w_val rfl rfl (op_pure rfl) ?_
      refine w_val rfl rfl (op_add rfl rfl (by unfold In64; omega)) ?_
      refine w_val rfl rfl (op_pure rfl) ?_
      refine w_nil ?_
      exact round_n _ _ (by omega) (Sub.cons rfl (Sub.cons rfl (Sub.cons rfl (Sub.cons rfl (Sub.cons rfl (Sub.nil _)))))) ⟨k + 1, rfl, by omega, rfl, rfl⟩
    simp only [decide_eq_false_iff_not] at h107
    obtain rfl : k = 30 := by omega
    refine wc_exit ?_
    repeat first | refine then_x ?_ | refine round_x ?_ | refine cut_x ?_ | refine out_x' (by decide) ?_
    refine out_x ?_
    refine out_n ?_
    refine then_n ?_
    refine wc_region ?_
    refine w_val rfl rfl (op_pure rfl) ?_
    refine w_val rfl rfl (op_add rfl rfl (by unfold In64; omega)) ?_
    refine w_val rfl rfl (op_pure rfl) ?_
    refine w_nil ?_
    exact round_n _ _ (by omega) (Sub.cons rfl (Sub.cons rfl (Sub.cons rfl (Sub.nil _)))) ⟨i + 1, rfl, by omega, rfl, rfl⟩
  simp only [decide_eq_false_iff_not] at h67
  obtain rfl : i = data.length := by omega
  refine wc_exit ?_
  repeat first | refine then_x ?_ | refine round_x ?_ | refine cut_x ?_ | refine out_x' (by decide) ?_
  refine out_x ?_
  refine then_n ?_
  repeat refine wc_seq ?_
  refine wc_region ?_
  refine w_val rfl rfl (op_pure rfl) ?_
  refine w_nil ?_
  refine then_n ?_
  refine wc_ret ?_
  repeat first | refine then_r ?_ | refine out_r ?_ | refine round_r ?_ | refine cut_r ?_ | refine sc_r ?_
  exact ⟨_, rfl, hA.K, rfl⟩
set_option maxRecDepth 10000 in
set_option maxHeartbeats 8000000 in
/-- Lists of instructions. -/
theorem apartCode_ok {s : St} {v : AV} {data : List (AV × List InstrL)} (hok : s.Ok) (hv : Row s.h 1 v (data.map fun p => [p.1])) (hvX : ∀ g ∈ v.gs, g ∉ data.flatMap (·.1.gs)) (hr : ∀ p ∈ data, Row s.h 2 p.1 (p.2.map inC)) (hd : (data.map (·.1)).Pairwise Dis) (hn : ∀ p ∈ data, p.1.gs = [] → p.1 = .nils)
    (hl1 : data.length ≤ 1000000) (hl2 : ∀ p ∈ data, p.2.length ≤ 2097152) : CallS Try.prog Tt Kt 24 [v] s (fun r s' => Keep (data.flatMap (·.1.gs)) s s' ∧ r = .bool true) := by
  have hb : ∀ p ∈ data, ∀ g ∈ p.1.gs, g < s.ctr := fun p hp => (hr p hp).lt hok
  refine call_of (fn := Try.f24) (nt := 130) Try.func24 rfl rfl rfl ?_
  repeat refine wc_seq ?_
  refine wc_region ?_
  refine w_val rfl rfl (op_pure rfl) ?_
  refine w_nil ?_
  refine then_n ?_
  repeat refine wc_seq ?_
  have hK := Keep.refl hok
  have hvl : v.slen = some data.length := hv.slenF
  have hI : RowsI s.h 2 inC data (MarkG mkI 0 0) := fun q p hq => ⟨p.2, rfl, hr p (List.mem_of_getElem? hq), MarkG.zero _ _ _⟩
  have hK : Keep (data.flatMap (·.1.gs)) s s := hK.more (fun g hg => by cases hg)
  refine wc_region ?_
  refine w_val rfl rfl (op_pure rfl) ?_
  refine w_nil ?_
  refine then_n ?_
  repeat refine wc_seq ?_
  refine wc_block ?_
  refine wc_loop_at (fun j m z => ∃ i : Nat, j = data.length - i ∧ i ≤ data.length ∧ m = [(0, v), (3, .int .i64 (i : Nat))] ∧ Keep (data.flatMap (·.1.gs)) s z ∧ RowsI z.h 2 inC data (MarkG mkI i 0)) data.length
    [(0, v), (3, .int .i64 ((0 : Nat) : Int))] (Sub.cons rfl (Sub.cons rfl (Sub.nil _))) ⟨0, by simp, by simp, rfl, hK, hI⟩ ?_
  clear hK hI
  rintro j m z ⟨i, rfl, hi, rfl, hK, hI⟩
  have hvz := hv.keep hK hvX
  repeat refine wc_seq ?_
  refine wc_region ?_
  refine w_val rfl rfl (op_pure rfl) ?_
  refine w_val rfl rfl (op_pure rfl) ?_
  refine w_val rfl rfl (op_len rfl rfl rfl rfl rfl (by assumption)) ?_
  refine w_val rfl rfl (op_pure rfl) ?_
  refine w_nil ?_
  refine then_n ?_
  repeat refine wc_seq ?_
  refine wc_condT rfl (fun h16 => ?_) (fun h16 => ?_)
  · simp only [decide_eq_true_eq] at h16
    refine wc_skip ?_
    refine then_n ?_
    repeat refine wc_seq ?_
    refine wc_block ?_
    repeat refine wc_seq ?_
    obtain ⟨p, hp⟩ : ∃ x, data[i]? = some x := ⟨_, List.getElem?_eq_getElem (by omega)⟩
    have hpm := List.mem_of_getElem? hp
    have hpl := hl2 p hpm
    refine wc_region ?_
    refine w_val rfl rfl (op_pure rfl) ?_
    refine w_nil ?_
    refine then_n ?_
    refine wc_block ?_
    refine wc_loop_at (fun j m z => ∃ k : Nat, j = p.2.length - k ∧ k ≤ p.2.length ∧ m = [(0, v), (3, .int .i64 (i : Nat)), (4, .int .i64 (k : Nat))] ∧ Keep (data.flatMap (·.1.gs)) s z ∧ RowsI z.h 2 inC data (MarkG mkI i k)) p.2.length
      [(0, v), (3, .int .i64 (i : Nat)), (4, .int .i64 ((0 : Nat) : Int))] (Sub.cons rfl (Sub.cons rfl (Sub.cons rfl (Sub.nil _)))) ⟨0, by simp, by simp, rfl, hK, hI⟩ ?_
    clear hK hI hvz
    rintro j1 m1 z ⟨k, rfl, hk, rfl, hK, hI⟩
    have hvz := hv.keep hK hvX
    obtain ⟨xs, hxl, hxr, hxG⟩ := hI i p hp
    have hxs : p.1.slen = some p.2.length := hxr.slenF.trans (congrArg some hxl)
    repeat refine wc_seq ?_
    refine wc_region ?_
    refine w_val rfl rfl (op_pure rfl) ?_
    refine w_val rfl rfl (op_pure rfl) ?_
    refine w_val rfl rfl (op_pure rfl) ?_
    refine w_val rfl rfl (op_idxF rfl rfl (natA_cast _ _) rfl rfl rfl rfl (by assumption) (by omega)) ?_
    refine w_val rfl rfl (op_load rfl rfl (Row.mk_pt hvz hp) rfl) ?_
    refine w_val rfl rfl (op_len rfl rfl rfl rfl rfl (by assumption)) ?_
    refine w_val rfl rfl (op_pure rfl) ?_
    refine w_nil ?_
    refine then_n ?_
    repeat refine wc_seq ?_
    refine wc_condT rfl (fun h25 => ?_) (fun h25 => ?_)
    · simp only [decide_eq_true_eq] at h25
      refine wc_skip ?_
      refine then_n ?_
      repeat refine wc_seq ?_
      refine wc_block ?_
      refine wc_region ?_
      refine w_val rfl rfl (op_pure rfl) ?_
      refine w_val rfl rfl (op_pure rfl) ?_
      refine w_val rfl rfl (op_idxF rfl rfl (natA_cast _ _) rfl rfl rfl rfl (by assumption) (by omega)) ?_
      refine w_val rfl rfl (op_load rfl rfl (Row.mk_pt hvz hp) rfl) ?_
      refine w_val rfl rfl (op_pure rfl) ?_
      refine w_val rfl rfl (op_pure rfl) ?_
      refine w_val rfl rfl (op_mul rfl rfl (by unfold In64; omega)) ?_
      refine w_val rfl rfl (op_pure rfl) ?_
      refine w_val rfl rfl (op_add rfl rfl (by unfold In64; omega)) ?_
      refine w_val rfl rfl (op_pure rfl) ?_
      refine w_val rfl rfl (op_idxF rfl rfl (natA_cast _ _) rfl rfl rfl rfl hxr (by omega)) ?_
      refine w_store_row rfl rfl rfl rfl rfl rfl rfl hK.ok hxr (fun e => by have := hn p hpm e; rw [this] at hxr; have h0 := congrArg List.length (show xs.map inC = [] from hxr); rw [List.length_map, List.length_nil] at h0; omega) (by rw [List.length_map]; omega) ?_
      intro zz hx2 hk2 hc2
      have hI := hI.upd hd hp hk2 (xs := xs.set k (mkI i k)) (G' := MarkG mkI i (k + 1)) (by rw [List.map_set]; exact hx2) (by rw [List.length_set]; exact hxl) (hxG.step (by omega)) (fun q xs hq h => h.other hq)
      have hK := hK.trans hk2 (fun g hg => .inl (List.mem_flatMap.2 ⟨p, hpm, hg⟩))
      clear hx2 hk2 hc2 hxr hxG
      refine w_nil ?_
      refine out_n ?_
      refine then_n ?_
      refine wc_region ?_
      refine w_val rfl rfl (op_pure rfl) ?_
      refine w_val rfl rfl (op_add rfl rfl (by unfold In64; omega)) ?_
      refine w_val rfl rfl (op_pure rfl) ?_
      refine w_nil ?_
      exact round_n _ _ (by omega) (Sub.cons rfl (Sub.cons rfl (Sub.cons rfl (Sub.nil _)))) ⟨k + 1, rfl, by omega, rfl, hK, hI⟩
    simp only [decide_eq_false_iff_not] at h25
    obtain rfl : k = p.2.length := by omega
    replace hI := hI.mono (G' := MarkG mkI (i + 1) 0) (fun q p' xs hq hx h => h.next fun e => by subst e; rw [hp] at hq; cases hq; omega)
    clear hxr hxG hxs
    refine wc_exit ?_
    repeat first | refine then_x ?_ | refine round_x ?_ | refine cut_x ?_ | refine out_x' (by decide) ?_
    refine out_x ?_
    refine out_n ?_
    refine then_n ?_
    refine wc_region ?_
    refine w_val rfl rfl (op_pure rfl) ?_
    refine w_val rfl rfl (op_add rfl rfl (by unfold In64; omega)) ?_
    refine w_val rfl rfl (op_pure rfl) ?_
    refine w_nil ?_
    exact round_n _ _ (by omega) (Sub.cons rfl (Sub.cons rfl (Sub.nil _))) ⟨i + 1, rfl, by omega, rfl, hK, hI⟩
  simp only [decide_eq_false_iff_not] at h16
  obtain rfl : i = data.length := by omega
  refine wc_exit ?_
  repeat first | refine then_x ?_ | refine round_x ?_ | refine cut_x ?_ | refine out_x' (by decide) ?_
  refine out_x ?_
  refine then_n ?_
  repeat refine wc_seq ?_
  have hcut := hK.ctr
  have hA : Ap2 s 2 inC data mkI tlI 0 z.ctr [] .nils z := ⟨hK, hI.mono fun q p xs hq _ h => h.1 (List.getElem?_eq_some_iff.1 hq).1, rfl, fun j w p h => (by simp at h), rfl, fun g hg => (by cases hg), fun _ => rfl, fun j w h => (by simp at h), ⟨hcut, Nat.le_refl _⟩⟩
  clear hI hK hvz
  refine wc_region ?_
  refine w_val rfl rfl (op_pure rfl) ?_
  refine w_nil ?_
  refine then_n ?_
  repeat refine wc_seq ?_
  refine wc_region ?_
  refine w_val rfl rfl (op_pure rfl) ?_
  refine w_nil ?_
  refine then_n ?_
  repeat refine wc_seq ?_
  refine wc_block ?_
  refine wc_loop_at (fun j m z => ∃ (i cut : Nat) (ms : List AV) (F : AV), j = data.length - i ∧ i ≤ data.length ∧ m = [(0, v), (5, F), (6, .int .i64 (i : Nat))] ∧ Ap2 s 2 inC data mkI tlI i cut ms F z) data.length
    [(0, v), (5, .nils), (6, .int .i64 ((0 : Nat) : Int))] (Sub.cons rfl (Sub.cons rfl (Sub.cons rfl (Sub.nil _)))) ⟨0, _, _, _, by simp, by simp, rfl, hA⟩ ?_
  clear hA hcut
  rintro j m z ⟨i, cut, ms, F, rfl, hi, rfl, hA⟩
  have hvz := hv.keep hA.K hvX
  have hcut := hA.cutb
  repeat refine wc_seq ?_
  refine wc_region ?_
  refine w_val rfl rfl (op_pure rfl) ?_
  refine w_val rfl rfl (op_pure rfl) ?_
  refine w_val rfl rfl (op_len rfl rfl rfl rfl rfl (by assumption)) ?_
  refine w_val rfl rfl (op_pure rfl) ?_
  refine w_nil ?_
  refine then_n ?_
  repeat refine wc_seq ?_
  refine wc_condT rfl (fun h42 => ?_) (fun h42 => ?_)
  · simp only [decide_eq_true_eq] at h42
    refine wc_skip ?_
    refine then_n ?_
    repeat refine wc_seq ?_
    refine wc_block ?_
    repeat refine wc_seq ?_
    obtain ⟨p, hp⟩ : ∃ x, data[i]? = some x := ⟨_, List.getElem?_eq_getElem (by omega)⟩
    have hpm := List.mem_of_getElem? hp
    have hpl := hl2 p hpm
    obtain ⟨xs, hxl, hxr, hxG⟩ := hA.old i p hp
    unfold FullG at hxG
    rw [hxl] at hxG
    rw [hxG] at hxr
    clear hxG hxl
    refine wc_region ?_
    refine w_val rfl rfl (op_pure rfl) ?_
    refine w_val rfl rfl (op_pure rfl) ?_
    refine w_val rfl rfl (op_idxF rfl rfl (natA_cast _ _) rfl rfl rfl rfl (by assumption) (by omega)) ?_
    refine w_val rfl rfl (op_load rfl rfl (Row.mk_pt hvz hp) rfl) ?_
    refine w_val rfl rfl (op_pure rfl) ?_
    refine w_nil ?_
    refine then_n ?_
    repeat refine wc_seq ?_
    refine wc_region ?_
    refine w_val rfl rfl (op_pure rfl) ?_
    refine w_nil ?_
    refine then_n ?_
    repeat refine wc_seq ?_
    refine wc_block ?_
    refine wc_loop_at (fun j m z => ∃ (k : Nat) (l : AV), j = 30 - k ∧ k ≤ 30 ∧ m = [(0, v), (5, F), (6, .int .i64 (i : Nat)), (7, l), (8, .int .i64 (k : Nat))] ∧ Ap2 s 2 inC data mkI tlI i cut ms F z ∧ Row z.h 2 p.1 ((fullM mkI i p.2.length).map inC) ∧ Row z.h 2 l ((fullM mkI i p.2.length ++ fullM tlI i k).map inC) ∧
        (∀ g ∈ l.gs, g ∈ p.1.gs ∨ cut ≤ g) ∧ (l.gs = [] → l = .nils) ∧ (∀ g ∈ p.1.gs, g ∈ l.gs → finA z.h p.1 ≤ finA z.h l)) 30
      [(0, v), (5, F), (6, .int .i64 (i : Nat)), (7, p.1), (8, .int .i64 ((0 : Nat) : Int))] (Sub.cons rfl (Sub.cons rfl (Sub.cons rfl (Sub.cons rfl (Sub.cons rfl (Sub.nil _)))))) ⟨0, p.1, by simp, by simp, rfl, hA, hxr, by simpa [fullM] using hxr, fun g hg => .inl hg, hn p hpm, fun g _ _ => Nat.le_refl _⟩ ?_
    clear hA hxr hvz
    rintro j1 m1 z ⟨k, l, rfl, hk, rfl, hA, hxr, hl, hlb, hln, hlf⟩
    have hcut := hA.cutb
    repeat refine wc_seq ?_
    refine wc_region ?_
    refine w_val rfl rfl (op_pure rfl) ?_
    refine w_val rfl rfl (op_pure rfl) ?_
    refine w_nil ?_
    refine then_n ?_
    repeat refine wc_seq ?_
    refine wc_condT rfl (fun h50 => ?_) (fun h50 => ?_)
    · simp only [decide_eq_true_eq] at h50
      refine wc_skip ?_
      refine then_n ?_
      repeat refine wc_seq ?_
      refine wc_block ?_
      refine wc_region ?_
      refine w_val rfl rfl (op_pure rfl) ?_
      refine w_val rfl rfl (op_pure rfl) ?_
      refine w_val rfl rfl (op_mul rfl rfl (by unfold In64; omega)) ?_
      refine w_val rfl rfl (op_add rfl rfl (by unfold In64; omega)) ?_
      refine w_val rfl rfl (op_pure rfl) ?_
      refine w_val rfl rfl (op_add rfl rfl (by unfold In64; omega)) ?_
      refine w_val rfl rfl (op_pure rfl) ?_
      refine w_lit1 (c := [.int .i64 (500000 + 1000 * (i : Int) + (k : Nat)), .int .i64 0]) rfl rfl rfl rfl rfl rfl rfl (by decide) (by decide) rfl rfl rfl hA.K.ok ?_
      rintro b z1 hb1 hk1 hc1 hg1
      have hA := hA.grow hd hb hp hk1 (fun g hg => by cases hg) (fun xs h => h.keep0 hk1)
      have hfp : finA z1.h p.1 = finA z.h p.1 := finA_keep hxr hk1 (fun g _ h => by cases h)
      have hfl : finA z1.h l = finA z.h l := finA_keep hl hk1 (fun g _ h => by cases h)
      rw [← hfp, ← hfl] at hlf
      have hxr := hxr.keep0 hk1
      have hl := hl.keep0 hk1
      have hcz : cut ≤ z1.ctr := by have := hA.cutb; omega
      clear hfp hfl hk1 hc1 hg1
      refine w_appendK (sz := 2) (ns := [tlI i k].map inC) rfl rfl rfl rfl rfl rfl rfl rfl rfl rfl (by decide) hA.K.ok hl hln hb1 (by simp only [List.length_map, List.length_append, List.length_cons, List.length_nil, fullM_len, maxBytes]; omega) (by simp only [List.length_map, List.length_append, List.length_cons, List.length_nil, fullM_len, maxBytes]; omega) ?_
      rintro l2 z2 hl2' hk2 hc2 hg2 hn2 - hap
      rw [← List.map_append, List.append_assoc, show fullM tlI i k ++ [tlI i k] = fullM tlI i (k + 1) by simp [fullM, List.range_succ]] at hl2'
      have hlt := hxr.lt hA.K.ok
      obtain ⟨hx2, hfx⟩ := hap.rows hxr hlf
      have hlf2 : ∀ g ∈ p.1.gs, g ∈ l2.gs → finA z2.h p.1 ≤ finA z2.h l2 := fun g h1 h2 => by
        rcases hg2 with e | e
        · rw [e] at h2
          rw [hfx, hap.fin e (fun e0 => by rw [e0] at h2; cases h2)]
          exact Nat.le_trans (hlf g h1 h2) (Nat.le_add_right _ _)
        · rw [e] at h2; have := hlt g h1; rw [List.mem_singleton.1 h2] at this; omega
      have hlb2 : ∀ g ∈ l2.gs, g ∈ p.1.gs ∨ cut ≤ g := fun g h => by
        rcases hg2 with e | e
        · rw [e] at h; exact hlb g h
        · rw [e] at h; rw [List.mem_singleton.1 h]; exact .inr hcz
      have hA := hA.grow hd hb hp hk2 hlb (fun xs h => (hap.rows h hlf).1)
      clear hap hfx hxr hl hb1
      refine w_val rfl rfl (op_pure rfl) ?_
      refine w_nil ?_
      refine out_n ?_
      refine then_n ?_
      refine wc_region ?_
      refine w_val rfl rfl (op_pure rfl) ?_
      refine w_val rfl rfl (op_add rfl rfl (by unfold In64; omega)) ?_
      refine w_val rfl rfl (op_pure rfl) ?_
      refine w_nil ?_
      exact round_n _ _ (by omega) (Sub.cons rfl (Sub.cons rfl (Sub.cons rfl (Sub.cons rfl (Sub.cons rfl (Sub.nil _)))))) ⟨k + 1, l2, rfl, by omega, rfl, hA, hx2, hl2', hlb2, hn2, hlf2⟩
    simp only [decide_eq_false_iff_not] at h50
    obtain rfl : k = 30 := by omega
    refine wc_exit ?_
    repeat first | refine then_x ?_ | refine round_x ?_ | refine cut_x ?_ | refine out_x' (by decide) ?_
    refine out_x ?_
    refine then_n ?_
    refine wc_region ?_
    refine w_val rfl rfl (op_pure rfl) ?_
    refine w_val rfl rfl (op_pure rfl) ?_
    refine w_lit1 (c := [l]) rfl rfl rfl rfl rfl rfl rfl (by decide) (by decide) (fillS1 hl.leaf) (by simp only [List.all_cons, List.all_nil, hl.leaf]; rfl) rfl hA.K.ok ?_
    rintro b z1 hb1 hk1 hc1 -
    have hA := hA.grow hd hb hp hk1 (fun g hg => by cases hg) (fun xs h => h.keep0 hk1)
    have hl := hl.keep0 hk1
    clear hk1 hc1
    refine w_append rfl rfl rfl rfl rfl rfl rfl rfl rfl (by decide) hA.K.ok hA.rF hA.Fn hb1 (by rw [List.length_map, hA.len]; simp only [List.length_cons, List.length_nil, maxBytes]; omega) (by rw [List.length_map, hA.len]; simp only [List.length_cons, List.length_nil, maxBytes]; omega) ?_
    rintro F2 z2 hF2 hk2 - hg2 hn2 -
    have hA := hA.push hb hp hl hlb hF2 hk2 hg2 hn2
    refine w_val rfl rfl (op_pure rfl) ?_
    refine w_nil ?_
    refine out_n ?_
    refine then_n ?_
    refine wc_region ?_
    refine w_val rfl rfl (op_pure rfl) ?_
    refine w_val rfl rfl (op_add rfl rfl (by unfold In64; omega)) ?_
    refine w_val rfl rfl (op_pure rfl) ?_
    refine w_nil ?_
    exact round_n _ _ (by omega) (Sub.cons rfl (Sub.cons rfl (Sub.cons rfl (Sub.nil _)))) ⟨i + 1, _, _, F2, rfl, by omega, rfl, hA⟩
  simp only [decide_eq_false_iff_not] at h42
  obtain rfl : i = data.length := by omega
  refine wc_exit ?_
  repeat first | refine then_x ?_ | refine round_x ?_ | refine cut_x ?_ | refine out_x' (by decide) ?_
  refine out_x ?_
  refine then_n ?_
  repeat refine wc_seq ?_
  have hFz := hA.rF
  have hml := hA.len
  refine wc_region ?_
  refine w_val rfl rfl (op_pure rfl) ?_
  refine w_nil ?_
  refine then_n ?_
  repeat refine wc_seq ?_
  refine wc_block ?_
  refine wc_loop_at (fun j m z' => ∃ i : Nat, j = data.length - i ∧ i ≤ data.length ∧ m = [(0, v), (5, F), (9, .int .i64 (i : Nat))] ∧ z = z') data.length
    [(0, v), (5, F), (9, .int .i64 ((0 : Nat) : Int))] (Sub.cons rfl (Sub.cons rfl (Sub.cons rfl (Sub.nil _)))) ⟨0, by simp, by simp, rfl, rfl⟩ ?_
  rintro j m _ ⟨i, rfl, hi, rfl, rfl⟩
  repeat refine wc_seq ?_
  refine wc_region ?_
  refine w_val rfl rfl (op_pure rfl) ?_
  refine w_val rfl rfl (op_pure rfl) ?_
  refine w_val rfl rfl (op_len rfl rfl rfl rfl rfl (by assumption)) ?_
  refine w_val rfl rfl (op_pure rfl) ?_
  refine w_nil ?_
  refine then_n ?_
  repeat refine wc_seq ?_
  refine wc_condT rfl (fun h69 => ?_) (fun h69 => ?_)
  · simp only [decide_eq_true_eq] at h69
    refine wc_skip ?_
    refine then_n ?_
    repeat refine wc_seq ?_
    refine wc_block ?_
    repeat refine wc_seq ?_
    obtain ⟨p, hp⟩ : ∃ x, data[i]? = some x := ⟨_, List.getElem?_eq_getElem (by omega)⟩
    have hpm := List.mem_of_getElem? hp
    have hpl := hl2 p hpm
    obtain ⟨xs, hxl, hxr, hxG⟩ := hA.old i p hp
    unfold FullG at hxG
    rw [hxl] at hxG
    rw [hxG] at hxr
    clear hxG hxl
    have hxs : p.1.slen = some p.2.length := hxr.slenF.trans (by rw [fullM_len])
    obtain ⟨w, hw⟩ : ∃ x, ms[i]? = some x := ⟨_, List.getElem?_eq_getElem (by omega)⟩
    obtain ⟨hwr, -⟩ := hA.new i w p hw hp
    refine wc_region ?_
    refine w_val rfl rfl (op_pure rfl) ?_
    refine w_val rfl rfl (op_pure rfl) ?_
    refine w_val rfl rfl (op_idxF rfl rfl (natA_cast _ _) rfl rfl rfl rfl (by assumption) (by omega)) ?_
    refine w_val rfl rfl (op_load rfl rfl (Row.mk_pt hvz hp) rfl) ?_
    refine w_val rfl rfl (op_len rfl rfl rfl rfl rfl (by assumption)) ?_
    refine w_val rfl rfl (op_pure rfl) ?_
    refine w_nil ?_
    refine then_n ?_
    repeat refine wc_seq ?_
    refine wc_region ?_
    refine w_val rfl rfl (op_pure rfl) ?_
    refine w_nil ?_
    refine then_n ?_
    repeat refine wc_seq ?_
    refine wc_block ?_
    refine wc_loop_at (fun j m z' => ∃ k : Nat, j = p.2.length - k ∧ k ≤ p.2.length ∧ m = [(0, v), (5, F), (9, .int .i64 (i : Nat)), (10, .int .i64 (p.2.length : Nat)), (11, .int .i64 (k : Nat))] ∧ z = z') p.2.length
      [(0, v), (5, F), (9, .int .i64 (i : Nat)), (10, .int .i64 (p.2.length : Nat)), (11, .int .i64 ((0 : Nat) : Int))] (Sub.cons rfl (Sub.cons rfl (Sub.cons rfl (Sub.cons rfl (Sub.cons rfl (Sub.nil _)))))) ⟨0, by simp, by simp, rfl, rfl⟩ ?_
    rintro j1 m1 _ ⟨k, rfl, hk, rfl, rfl⟩
    repeat refine wc_seq ?_
    refine wc_region ?_
    refine w_val rfl rfl (op_pure rfl) ?_
    refine w_val rfl rfl (op_pure rfl) ?_
    refine w_val rfl rfl (op_pure rfl) ?_
    refine w_nil ?_
    refine then_n ?_
    repeat refine wc_seq ?_
    refine wc_condT rfl (fun h79 => ?_) (fun h79 => ?_)
    · simp only [decide_eq_true_eq] at h79
      refine wc_skip ?_
      refine then_n ?_
      repeat refine wc_seq ?_
      refine wc_block ?_
      repeat refine wc_seq ?_
      have hxk : (fullM mkI i p.2.length)[k]? = some (mkI i k) := fullM_get _ (by omega)
      have hwk : (fullM mkI i p.2.length ++ fullM tlI i 30)[k]? = some (mkI i k) := by rw [List.getElem?_append_left (by rw [fullM_len]; omega)]; exact hxk
      refine wc_region ?_
      refine w_val rfl rfl (op_pure rfl) ?_
      refine w_val rfl rfl (op_pure rfl) ?_
      refine w_val rfl rfl (op_idxF rfl rfl (natA_cast _ _) rfl rfl rfl rfl (by assumption) (by omega)) ?_
      refine w_val rfl rfl (op_load rfl rfl (Row.mk_pt hvz hp) rfl) ?_
      refine w_val rfl rfl (op_pure rfl) ?_
      refine w_val rfl rfl (op_idxF rfl rfl (natA_cast _ _) rfl rfl rfl rfl hxr (by rw [fullM_len]; omega)) ?_
      refine w_val rfl rfl (op_fld rfl rfl rfl rfl (by decide) (Row.mk_pt hxr hxk) (Nat.le_of_ble_eq_true rfl)) ?_
      refine w_val rfl rfl (op_load rfl rfl ((Row.mk_pt hxr hxk).fld _ (Nat.le_of_ble_eq_true rfl)) rfl) ?_
      refine w_val rfl rfl (op_pure rfl) ?_
      refine w_val rfl rfl (op_mul rfl rfl (by unfold In64; omega)) ?_
      refine w_val rfl rfl (op_pure rfl) ?_
      refine w_val rfl rfl (op_add rfl rfl (by unfold In64; omega)) ?_
      refine w_val rfl rfl (op_int (v := .bool false) rfl rfl (by decide) (by simp [intA, mkI])) ?_
      refine w_val rfl rfl (op_pure rfl) ?_
      refine w_split (i := 95) rfl (fun h95 => ?_) (fun h95 => ?_)
      · cases h95
      skip
      refine w_val rfl rfl (op_pure rfl) ?_
      refine w_val rfl rfl (op_pure rfl) ?_
      refine w_val rfl rfl (op_idxF rfl rfl (natA_cast _ _) rfl rfl rfl rfl hFz (by omega)) ?_
      refine w_val rfl rfl (op_load rfl rfl (Row.mk_pt hFz hw) rfl) ?_
      refine w_val rfl rfl (op_pure rfl) ?_
      refine w_val rfl rfl (op_idxF rfl rfl (natA_cast _ _) rfl rfl rfl rfl hwr (by rw [List.length_append, fullM_len, fullM_len]; omega)) ?_
      refine w_val rfl rfl (op_fld rfl rfl rfl rfl (by decide) (Row.mk_pt hwr hwk) (Nat.le_of_ble_eq_true rfl)) ?_
      refine w_val rfl rfl (op_load rfl rfl ((Row.mk_pt hwr hwk).fld _ (Nat.le_of_ble_eq_true rfl)) rfl) ?_
      refine w_val rfl rfl (op_pure rfl) ?_
      refine w_val rfl rfl (op_mul rfl rfl (by unfold In64; omega)) ?_
      refine w_val rfl rfl (op_pure rfl) ?_
      refine w_val rfl rfl (op_add rfl rfl (by unfold In64; omega)) ?_
      refine w_val rfl rfl (op_int (v := .bool false) rfl rfl (by decide) (by simp [intA, mkI])) ?_
      refine w_val rfl rfl (op_pure rfl) ?_
      refine w_nil ?_
      refine then_n ?_
      refine wc_condT rfl (fun h109 => ?_) (fun h109 => ?_)
      · cases h109
      skip
      refine wc_skip ?_
      refine out_n ?_
      refine then_n ?_
      refine wc_region ?_
      refine w_val rfl rfl (op_pure rfl) ?_
      refine w_val rfl rfl (op_add rfl rfl (by unfold In64; omega)) ?_
      refine w_val rfl rfl (op_pure rfl) ?_
      refine w_nil ?_
      exact round_n _ _ (by omega) (Sub.cons rfl (Sub.cons rfl (Sub.cons rfl (Sub.cons rfl (Sub.cons rfl (Sub.nil _)))))) ⟨k + 1, rfl, by omega, rfl, rfl⟩
    simp only [decide_eq_false_iff_not] at h79
    obtain rfl : k = p.2.length := by omega
    refine wc_exit ?_
    repeat first | refine then_x ?_ | refine round_x ?_ | refine cut_x ?_ | refine out_x' (by decide) ?_
    refine out_x ?_
    refine then_n ?_
    repeat refine wc_seq ?_
    refine wc_region ?_
    refine w_val rfl rfl (op_pure rfl) ?_
    refine w_nil ?_
    refine then_n ?_
    refine wc_block ?_
    refine wc_loop_at (fun j m z' => ∃ k : Nat, j = 30 - k ∧ k ≤ 30 ∧ m = [(0, v), (5, F), (9, .int .i64 (i : Nat)), (10, .int .i64 (p.2.length : Nat)), (12, .int .i64 (k : Nat))] ∧ z = z') 30
      [(0, v), (5, F), (9, .int .i64 (i : Nat)), (10, .int .i64 (p.2.length : Nat)), (12, .int .i64 ((0 : Nat) : Int))] (Sub.cons rfl (Sub.cons rfl (Sub.cons rfl (Sub.cons rfl (Sub.cons rfl (Sub.nil _)))))) ⟨0, by simp, by simp, rfl, rfl⟩ ?_
    rintro j1 m1 _ ⟨k, rfl, hk, rfl, rfl⟩
    repeat refine wc_seq ?_
    refine wc_region ?_
    refine w_val rfl rfl (op_pure rfl) ?_
    refine w_val rfl rfl (op_pure rfl) ?_
    refine w_nil ?_
    refine then_n ?_
    repeat refine wc_seq ?_
    refine wc_condT rfl (fun h111 => ?_) (fun h111 => ?_)
    · simp only [decide_eq_true_eq] at h111
      refine wc_skip ?_
      refine then_n ?_
      repeat refine wc_seq ?_
      refine wc_block ?_
      repeat refine wc_seq ?_
      have hwk : (fullM mkI i p.2.length ++ fullM tlI i 30)[p.2.length + k]? = some (tlI i k) := by rw [List.getElem?_append_right (by rw [fullM_len]; omega), fullM_len, Nat.add_sub_cancel_left]; exact fullM_get _ (by omega)
      refine wc_region ?_
      refine w_val rfl rfl (op_pure rfl) ?_
      refine w_val rfl rfl (op_pure rfl) ?_
      refine w_val rfl rfl (op_idxF rfl rfl (natA_cast _ _) rfl rfl rfl rfl hFz (by omega)) ?_
      refine w_val rfl rfl (op_load rfl rfl (Row.mk_pt hFz hw) rfl) ?_
      refine w_val rfl rfl (op_pure rfl) ?_
      refine w_val rfl rfl (op_pure rfl) ?_
      refine w_val rfl rfl (op_add rfl rfl (by unfold In64; omega)) ?_
      refine w_val rfl rfl (op_idxF (n := p.2.length + k) rfl rfl (natA_add _ _ _) rfl rfl rfl rfl hwr (by rw [List.length_append, fullM_len, fullM_len]; omega)) ?_
      refine w_val rfl rfl (op_fld rfl rfl rfl rfl (by decide) (Row.mk_pt hwr hwk) (Nat.le_of_ble_eq_true rfl)) ?_
      refine w_val rfl rfl (op_load rfl rfl ((Row.mk_pt hwr hwk).fld _ (Nat.le_of_ble_eq_true rfl)) rfl) ?_
      refine w_val rfl rfl (op_pure rfl) ?_
      refine w_val rfl rfl (op_mul rfl rfl (by unfold In64; omega)) ?_
      refine w_val rfl rfl (op_add rfl rfl (by unfold In64; omega)) ?_
      refine w_val rfl rfl (op_pure rfl) ?_
      refine w_val rfl rfl (op_add rfl rfl (by unfold In64; omega)) ?_
      refine w_val rfl rfl (op_int (v := .bool false) rfl rfl (by decide) (by simp [intA, tlI])) ?_
      refine w_nil ?_
      refine then_n ?_
      refine wc_condT rfl (fun h129 => ?_) (fun h129 => ?_)
      · cases h129
      skip
      refine wc_skip ?_
      refine out_n ?_
      refine then_n ?_
      refine wc_region ?_
      refine w_val rfl rfl (op_pure rfl) ?_
      refine w_val rfl rfl (op_add rfl rfl (by unfold In64; omega)) ?_
      refine w_val rfl rfl (op_pure rfl) ?_
      refine w_nil ?_
      exact round_n _ _ (by omega) (Sub.cons rfl (Sub.cons rfl (Sub.cons rfl (Sub.cons rfl (Sub.cons rfl (Sub.nil _)))))) ⟨k + 1, rfl, by omega, rfl, rfl⟩
    simp only [decide_eq_false_iff_not] at h111
    obtain rfl : k = 30 := by omega
    refine wc_exit ?_
    repeat first | refine then_x ?_ | refine round_x ?_ | refine cut_x ?_ | refine out_x' (by decide) ?_
    refine out_x ?_
    refine out_n ?_
    refine then_n ?_
    refine wc_region ?_
    refine w_val rfl rfl (op_pure rfl) ?_
    refine w_val rfl rfl (op_add rfl rfl (by unfold In64; omega)) ?_
    refine w_val rfl rfl (op_pure rfl) ?_
    refine w_nil ?_
    exact round_n _ _ (by omega) (Sub.cons rfl (Sub.cons rfl (Sub.cons rfl (Sub.nil _)))) ⟨i + 1, rfl, by omega, rfl, rfl⟩
  simp only [decide_eq_false_iff_not] at h69
  obtain rfl : i = data.length := by omega
  refine wc_exit ?_
  repeat first | refine then_x ?_ | refine round_x ?_ | refine cut_x ?_ | refine out_x' (by decide) ?_
  refine out_x ?_
  refine then_n ?_
  repeat refine wc_seq ?_
  refine wc_region ?_
  refine w_val rfl rfl (op_pure rfl) ?_
  refine w_nil ?_
  refine then_n ?_
  refine wc_ret ?_
  repeat first | refine then_r ?_ | refine out_r ?_ | refine round_r ?_ | refine cut_r ?_ | refine sc_r ?_
  exact ⟨_, rfl, hA.K, rfl⟩
end Go.Ab
/- Modules that were handed out. -/
namespace Go.Ab
open Go.Proofs
abbrev MD := ModL × MemM
def labF (f : FM) : List (AV × List Int) := [(f.2.1, f.1.params), (f.2.2.1, f.1.results)]
def labD (q : MD) : List (AV × List Int) := (q.2.vg, q.1.globals) :: (q.2.vh, q.1.channels) :: q.2.fs.flatMap labF
def codF (f : FM) : AV × List InstrL := (f.2.2.2, f.1.code)
def codD (q : MD) : List (AV × List InstrL) := q.2.fs.map codF
theorem labD_fst (q : MD) : (labD q).map (·.1) = q.2.labs := by
  unfold labD MemM.labs
  simp only [List.map_cons, List.map_flatMap, labF, List.map_nil]
theorem codD_fst (q : MD) : (codD q).map (·.1) = q.2.cods := by
  unfold codD MemM.cods
  rw [List.map_map]; rfl
theorem map_flat {α β γ : Type} (l : List α) (f : α → List β) (g : β → γ) : (l.flatMap f).map g = l.flatMap fun x => (f x).map g := List.map_flatMap ..
theorem labs_all {M : MemM} {v : AV} (h : v ∈ M.labs) : v ∈ M.all := List.mem_cons_of_mem _ (List.mem_cons_of_mem _ (List.mem_append.2 (.inl h)))
theorem cods_all {M : MemM} {v : AV} (h : v ∈ M.cods) : v ∈ M.all := List.mem_cons_of_mem _ (List.mem_cons_of_mem _ (List.mem_append.2 (.inr h)))
theorem va_all {M : MemM} : M.va ∈ M.all := List.mem_cons_self ..
theorem vf_all {M : MemM} : M.vf ∈ M.all := List.mem_cons_of_mem _ (List.mem_cons_self ..)
theorem labD_mem {q : MD} {p : AV × List Int} (h : p ∈ labD q) : p.1 ∈ q.2.labs := by
  rw [← labD_fst]; exact List.mem_map_of_mem h
theorem codD_mem {q : MD} {p : AV × List InstrL} (h : p ∈ codD q) : p.1 ∈ q.2.cods := by
  rw [← codD_fst]; exact List.mem_map_of_mem h
theorem labD_row {h : Tr Grp} {q : MD} (k : ModO h q.1 q.2) {p : AV × List Int} (hp : p ∈ labD q) : Row h 1 p.1 (p.2.map lC) := by
  unfold labD at hp
  rcases List.mem_cons.1 hp with rfl | hp
  · exact k.g
  rcases List.mem_cons.1 hp with rfl | hp
  · exact k.ch
  obtain ⟨f, hf, hp⟩ := List.mem_flatMap.1 hp
  obtain ⟨k1, k2, k3⟩ := k.each f hf
  rcases List.mem_cons.1 hp with rfl | hp
  · exact k1
  · rw [List.mem_singleton.1 hp]; exact k2
theorem codD_row {h : Tr Grp} {q : MD} (k : ModO h q.1 q.2) {p : AV × List InstrL} (hp : p ∈ codD q) : Row h 2 p.1 (p.2.map inC) := by
  obtain ⟨f, hf, rfl⟩ := List.mem_map.1 hp
  exact (k.each f hf).2.2
theorem mod_funcs {h : Tr Grp} {q : MD} (k : ModO h q.1 q.2) {f : FM} (hf : f ∈ q.2.fs) : f.1 ∈ q.1.funcs := by
  rw [← k.fs]; exact List.mem_map_of_mem hf
theorem labD_small {h : Tr Grp} {q : MD} (k : ModO h q.1 q.2) (hs : q.1.small) {p : AV × List Int} (hp : p ∈ labD q) : p.2.length ≤ 2097152 := by
  unfold labD at hp
  rcases List.mem_cons.1 hp with rfl | hp
  · exact hs.1
  rcases List.mem_cons.1 hp with rfl | hp
  · exact hs.2.2.1
  obtain ⟨f, hf, hp⟩ := List.mem_flatMap.1 hp
  have := hs.2.2.2.2 f.1 (mod_funcs k hf)
  rcases List.mem_cons.1 hp with rfl | hp
  · exact this.1
  · rw [List.mem_singleton.1 hp]; exact this.2.1
theorem codD_small {h : Tr Grp} {q : MD} (k : ModO h q.1 q.2) (hs : q.1.small) {p : AV × List InstrL} (hp : p ∈ codD q) : p.2.length ≤ 2097152 := by
  obtain ⟨f, hf, rfl⟩ := List.mem_map.1 hp
  exact (hs.2.2.2.2 f.1 (mod_funcs k hf)).2.2
theorem flat_most {α β : Type} {l : List α} {f : α → List β} {n : Nat} (h : ∀ x ∈ l, (f x).length ≤ n) : (l.flatMap f).length ≤ l.length * n := by
  induction l with
  | nil => simp
  | cons x l ih =>
    rw [List.flatMap_cons, List.length_append, List.length_cons, Nat.succ_mul]
    have := ih fun y hy => h y (List.mem_cons_of_mem _ hy)
    have := h x (List.mem_cons_self ..)
    omega
theorem labD_len (q : MD) : (labD q).length = 2 + 2 * q.2.fs.length := by
  have : ∀ l : List FM, (l.flatMap labF).length = 2 * l.length := by
    intro l
    induction l with
    | nil => rfl
    | cons x l ih => rw [List.flatMap_cons, List.length_append, ih]; simp [labF]; omega
  unfold labD
  rw [List.length_cons, List.length_cons, this]; omega
theorem flat_snoc {α β : Type} {l : List α} {f : α → List β} {i : Nat} {x : α} (h : l[i]? = some x) : (l.take (i + 1)).flatMap f = (l.take i).flatMap f ++ f x := by
  rw [← take_snoc h, List.flatMap_append]; simp
structure Mods (h : Tr Grp) (data : List MD) : Prop where
  ok : ∀ q ∈ data, ModO h q.1 q.2
  small : ∀ q ∈ data, q.1.small ∧ q.1.funcs.length ≤ 1000
  dis : data.Pairwise fun p q => ∀ u ∈ p.2.all, ∀ w ∈ q.2.all, Dis u w
  len : data.length ≤ 100
section
variable {s s' : St} {data : List MD}
theorem Mods.fsl (k : Mods s.h data) {q : MD} (hq : q ∈ data) : q.2.fs.length ≤ 1000 := by
  have := congrArg List.length (k.ok q hq).fs
  rw [List.length_map] at this
  have := (k.small q hq).2
  omega
theorem Mods.keep (k : Mods s.h data) {Y : List Nat} (h : Keep Y s s') (hY : ∀ q ∈ data, ∀ v ∈ q.2.all, ∀ g ∈ v.gs, g ∉ Y) : Mods s'.h data := ⟨fun q hq => (k.ok q hq).keep h (hY q hq), k.small, k.dis, k.len⟩
/-- The lists of parts that are chosen from each module are apart. -/
theorem Mods.pw (k : Mods s.h data) {sel : MemM → List AV} (hs : ∀ M, List.Sublist (sel M) M.all) : (data.flatMap fun q => sel q.2).Pairwise Dis := by
  rw [List.pairwise_flatMap]
  refine ⟨fun q hq => (k.ok q hq).dis.sublist (hs q.2), k.dis.imp fun {p q} h x hx y hy => h x ((hs _).subset hx) y ((hs _).subset hy)⟩
theorem labs_sub (M : MemM) : List.Sublist M.labs M.all := .cons _ (.cons _ (List.sublist_append_left ..))
theorem cods_sub (M : MemM) : List.Sublist M.cods M.all := .cons _ (.cons _ (List.sublist_append_right ..))
/-- Two parts of the modules, of different kinds. -/
theorem Mods.apart (k : Mods s.h data) {q q' : MD} (hq : q ∈ data) (hq' : q' ∈ data) {u w : AV} (hu : u ∈ q.2.all) (hw : w ∈ q'.2.all) (hne : q = q' → Dis u w) : Dis u w := by
  obtain ⟨i, hi⟩ := List.getElem?_of_mem hq
  obtain ⟨j, hj⟩ := List.getElem?_of_mem hq'
  by_cases e : i = j
  · subst e
    rw [hi] at hj
    exact hne (Option.some.inj hj)
  · obtain ⟨h1, e1⟩ := List.getElem?_eq_some_iff.1 hi
    obtain ⟨h2, e2⟩ := List.getElem?_eq_some_iff.1 hj
    have hp := List.pairwise_iff_getElem.1 k.dis
    rcases Nat.lt_or_gt_of_ne e with h | h
    · have := hp i j h1 h2 h
      rw [e1, e2] at this
      exact this u hu w hw
    · have := hp j i h2 h1 h
      rw [e1, e2] at this
      exact (this w hw u hu).symm
theorem ModO.lab_cod {h : Tr Grp} {mm : ModL} {M : MemM} (k : ModO h mm M) {u w : AV} (hu : u ∈ M.labs) (hw : w ∈ M.cods) : Dis u w := by
  have := k.dis
  unfold MemM.all at this
  rw [List.pairwise_cons, List.pairwise_cons, List.pairwise_append] at this
  exact this.2.2.2.2 u hu w hw
theorem ModO.va_dis {h : Tr Grp} {mm : ModL} {M : MemM} (k : ModO h mm M) {w : AV} (hw : w ∈ M.vf :: (M.labs ++ M.cods)) : Dis M.va w := by
  have := k.dis
  unfold MemM.all at this
  rw [List.pairwise_cons] at this
  exact this.1 w hw
theorem ModO.vf_dis {h : Tr Grp} {mm : ModL} {M : MemM} (k : ModO h mm M) {w : AV} (hw : w ∈ M.labs ++ M.cods) : Dis M.vf w := by
  have := k.dis
  unfold MemM.all at this
  rw [List.pairwise_cons, List.pairwise_cons] at this
  exact this.2.1 w hw
end
def fnD (q : MD) : AV × List (List AV) := (q.2.vf, q.2.fs.map fC)
def arD (q : MD) : AV × List (List AV) := (q.2.va, q.1.arrays.map aC)
def mkFn (i k : Nat) : List AV := [.int .u64 0, .nils, .nils, .int .i64 0, .int .i64 (1000 * (i : Int) + (k : Nat)), .nils]
def mkAr (i k : Nat) : List AV := [.int .i64 (1000 * (i : Int) + (k : Nat)), .int .u64 0]
/-- The groups of the modules. -/
def allG (data : List MD) : List Nat := data.flatMap fun q => q.2.all.flatMap AV.gs
theorem allG_mem {data : List MD} {q : MD} (hq : q ∈ data) {v : AV} (hv : v ∈ q.2.all) {g : Nat} (hg : g ∈ v.gs) : g ∈ allG data := List.mem_flatMap.2 ⟨q, hq, List.mem_flatMap.2 ⟨v, hv, hg⟩⟩
theorem allG_lab {data : List MD} : ∀ g ∈ (data.flatMap labD).flatMap (·.1.gs), g ∈ allG data := by
  intro g hg
  obtain ⟨p, hp, hg⟩ := List.mem_flatMap.1 hg
  obtain ⟨q, hq, hp⟩ := List.mem_flatMap.1 hp
  exact allG_mem hq (labs_all (labD_mem hp)) hg
theorem allG_cod {data : List MD} : ∀ g ∈ (data.flatMap codD).flatMap (·.1.gs), g ∈ allG data := by
  intro g hg
  obtain ⟨p, hp, hg⟩ := List.mem_flatMap.1 hg
  obtain ⟨q, hq, hp⟩ := List.mem_flatMap.1 hp
  exact allG_mem hq (cods_all (codD_mem hp)) hg
theorem lab_cod_dis {s : St} {data : List MD} (k : Mods s.h data) {p : AV × List InstrL} (hp : p ∈ data.flatMap codD) : ∀ g ∈ p.1.gs, g ∉ (data.flatMap labD).flatMap (·.1.gs) := by
  intro g hg hg'
  obtain ⟨q, hq, hp⟩ := List.mem_flatMap.1 hp
  obtain ⟨p', hp', hg'⟩ := List.mem_flatMap.1 hg'
  obtain ⟨q', hq', hp'⟩ := List.mem_flatMap.1 hp'
  refine k.apart hq' hq (labs_all (labD_mem hp')) (cods_all (codD_mem hp)) (fun e => ?_) g hg' hg
  subst e
  exact (k.ok _ hq).lab_cod (labD_mem hp') (codD_mem hp)
theorem map_pair {data : List MD} : data.map (fun q => (q.2.vf, q.2.fs.map fC)) = data.map fnD := rfl
theorem fldA_gs (p : AV) (o : Nat) : ∀ g ∈ (fldA p o).gs, g ∈ p.gs := by
  cases p <;> intro g hg <;> first | exact hg | cases hg
theorem hc2L {x y : AV} (hx : x.leaf = true) (hy : y.leaf = true) : ∀ c ∈ ([[x], [y]] : List (List AV)), c.length = 1 ∧ c.all AV.leaf = true := by
  intro c hc
  rcases List.mem_cons.1 hc with rfl | hc
  · simp [hx]
  · rw [List.mem_singleton.1 hc]; simp [hy]
def lp (data : List MD) (i k : Nat) (q : MD) : List (AV × List Int) := (data.take i).flatMap labD ++ ((q.2.vg, q.1.globals) :: (q.2.vh, q.1.channels) :: (q.2.fs.take k).flatMap labF)
def cp (data : List MD) (i k : Nat) (q : MD) : List (AV × List InstrL) := (data.take i).flatMap codD ++ (q.2.fs.take k).map codF
section
variable {data : List MD} {i k : Nat} {q : MD} {f : FM} {s : St}
theorem lp_zero : (lp data i 0 q).map (fun p => [p.1]) = ((data.take i).flatMap labD).map (fun p => [p.1]) ++ [[q.2.vg], [q.2.vh]] := by
  simp [lp]
theorem cp_zero : cp data i 0 q = (data.take i).flatMap codD := by simp [cp]
theorem lp_succ (hf : q.2.fs[k]? = some f) : (lp data i (k + 1) q).map (fun p => [p.1]) = (lp data i k q).map (fun p => [p.1]) ++ [[f.2.1], [f.2.2.1]] := by
  unfold lp
  rw [flat_snoc hf]
  simp [labF]
theorem cp_succ (hf : q.2.fs[k]? = some f) : (cp data i (k + 1) q).map (fun p => [p.1]) = (cp data i k q).map (fun p => [p.1]) ++ [[f.2.2.2]] := by
  unfold cp
  rw [← take_snoc hf]
  simp [codF]
theorem lp_all (hq : data[i]? = some q) : lp data i q.2.fs.length q = (data.take (i + 1)).flatMap labD := by
  unfold lp
  rw [flat_snoc hq, List.take_length]; rfl
theorem cp_all (hq : data[i]? = some q) : cp data i q.2.fs.length q = (data.take (i + 1)).flatMap codD := by
  unfold cp
  rw [flat_snoc hq, List.take_length]; rfl
theorem lab_most (hM : Mods s.h data) (i : Nat) : ((data.take i).flatMap labD).length ≤ 200200 := by
  have := flat_most (l := data.take i) (f := labD) (n := 2002) fun x hx => by rw [labD_len]; have := hM.fsl (List.mem_of_mem_take hx); omega
  have h2 : (data.take i).length ≤ 100 := by rw [List.length_take]; have := hM.len; omega
  have := Nat.mul_le_mul_right 2002 h2
  omega
theorem cod_most (hM : Mods s.h data) (i : Nat) : ((data.take i).flatMap codD).length ≤ 100000 := by
  have := flat_most (l := data.take i) (f := codD) (n := 1000) fun x hx => by unfold codD; rw [List.length_map]; exact hM.fsl (List.mem_of_mem_take hx)
  have h2 : (data.take i).length ≤ 100 := by rw [List.length_take]; have := hM.len; omega
  have := Nat.mul_le_mul_right 1000 h2
  omega
theorem lp_most (hM : Mods s.h data) (i : Nat) (hq : q ∈ data) (k : Nat) : (lp data i k q).length ≤ 300000 := by
  have h1 := lab_most hM i
  have h2 : ∀ l : List FM, (l.flatMap labF).length = 2 * l.length := by
    intro l
    induction l with
    | nil => rfl
    | cons x l ih => rw [List.flatMap_cons, List.length_append, ih]; simp [labF]; omega
  have h3 := hM.fsl hq
  unfold lp
  rw [List.length_append, List.length_cons, List.length_cons, h2, List.length_take]
  omega
theorem cp_most (hM : Mods s.h data) (i : Nat) (hq : q ∈ data) (k : Nat) : (cp data i k q).length ≤ 300000 := by
  have h1 := cod_most hM i
  have h3 := hM.fsl hq
  unfold cp
  rw [List.length_append, List.length_map, List.length_take]
  omega
theorem all_lt {mm : ModL} {M : MemM} (h : ModO s.h mm M) (hok : s.Ok) {w : AV} (hw : w ∈ M.all) : ∀ g ∈ w.gs, g < s.ctr := by
  unfold MemM.all MemM.labs MemM.cods at hw
  simp only [List.cons_append, List.mem_cons, List.mem_append, List.mem_flatMap, List.mem_map, List.not_mem_nil, or_false] at hw
  rcases hw with rfl | rfl | rfl | rfl | ⟨f, hf, rfl | rfl⟩ | ⟨f, hf, rfl⟩
  · exact h.a.lt hok
  · exact h.f.lt hok
  · exact h.g.lt hok
  · exact h.ch.lt hok
  · exact (h.each f hf).1.lt hok
  · exact (h.each f hf).2.1.lt hok
  · exact (h.each f hf).2.2.lt hok
theorem fn_lab (hM : Mods s.h data) (hq : q ∈ data) : ∀ g ∈ (fnD q).1.gs, g ∉ (data.flatMap labD).flatMap (·.1.gs) := by
  intro g hg h
  obtain ⟨p, hp, h⟩ := List.mem_flatMap.1 h
  obtain ⟨q', hq', hp⟩ := List.mem_flatMap.1 hp
  refine hM.apart hq hq' vf_all (labs_all (labD_mem hp)) (fun e => ?_) g hg h
  subst e
  exact (hM.ok _ hq).vf_dis (List.mem_append.2 (.inl (labD_mem hp)))
theorem fn_cod (hM : Mods s.h data) (hq : q ∈ data) : ∀ g ∈ (fnD q).1.gs, g ∉ (data.flatMap codD).flatMap (·.1.gs) := by
  intro g hg h
  obtain ⟨p, hp, h⟩ := List.mem_flatMap.1 h
  obtain ⟨q', hq', hp⟩ := List.mem_flatMap.1 hp
  refine hM.apart hq hq' vf_all (cods_all (codD_mem hp)) (fun e => ?_) g hg h
  subst e
  exact (hM.ok _ hq).vf_dis (List.mem_append.2 (.inr (codD_mem hp)))
theorem ar_lab (hM : Mods s.h data) (hq : q ∈ data) : ∀ g ∈ (arD q).1.gs, g ∉ (data.flatMap labD).flatMap (·.1.gs) := by
  intro g hg h
  obtain ⟨p, hp, h⟩ := List.mem_flatMap.1 h
  obtain ⟨q', hq', hp⟩ := List.mem_flatMap.1 hp
  refine hM.apart hq hq' va_all (labs_all (labD_mem hp)) (fun e => ?_) g hg h
  subst e
  exact (hM.ok _ hq).va_dis (List.mem_cons_of_mem _ (List.mem_append.2 (.inl (labD_mem hp))))
theorem ar_cod (hM : Mods s.h data) (hq : q ∈ data) : ∀ g ∈ (arD q).1.gs, g ∉ (data.flatMap codD).flatMap (·.1.gs) := by
  intro g hg h
  obtain ⟨p, hp, h⟩ := List.mem_flatMap.1 h
  obtain ⟨q', hq', hp⟩ := List.mem_flatMap.1 hp
  refine hM.apart hq hq' va_all (cods_all (codD_mem hp)) (fun e => ?_) g hg h
  subst e
  exact (hM.ok _ hq).va_dis (List.mem_cons_of_mem _ (List.mem_append.2 (.inr (codD_mem hp))))
theorem fn_ar (hM : Mods s.h data) {q' : MD} (hq : q ∈ data) (hq' : q' ∈ data) : ∀ g ∈ (fnD q).1.gs, g ∉ (arD q').1.gs := by
  refine hM.apart hq hq' vf_all va_all (fun e => ?_)
  subst e
  exact ((hM.ok _ hq).va_dis (List.mem_cons_self ..)).symm
theorem fn_pw (hM : Mods s.h data) : ((data.map fnD).map (·.1)).Pairwise Dis := by
  rw [List.map_map, List.pairwise_map]
  exact hM.dis.imp fun {a b} h => h _ vf_all _ vf_all
theorem ar_pw (hM : Mods s.h data) : ((data.map arD).map (·.1)).Pairwise Dis := by
  rw [List.map_map, List.pairwise_map]
  exact hM.dis.imp fun {a b} h => h _ va_all _ va_all
end
set_option maxRecDepth 10000 in
set_option maxHeartbeats 8000000 in
theorem modules_ok {s : St} {v : AV} {data : List MD} (hok : s.Ok) (hv : Row s.h 4 v (data.map fun q => q.2.cells)) (hM : Mods s.h data) (hvX : ∀ g ∈ v.gs, g ∉ allG data) :
    CallS Try.prog Tt Kt 32 [v] s (fun r s' => Keep (allG data) s s' ∧ r = .bool true) := by
  refine call_of (fn := Try.f32) (nt := 187) Try.func32 rfl rfl rfl ?_
  repeat refine wc_seq ?_
  have hM0 := hM
  have hvl : v.slen = some data.length := hv.slenF
  have hS : SH s [rowC .nils 1 (((data.take 0).flatMap labD).map fun p => [p.1]), rowC .nils 1 (((data.take 0).flatMap codD).map fun p => [p.1])] s := ((SH.start hok).nil 1).nil 1
  have hdl := hM.len
  refine wc_region ?_
  refine w_val rfl rfl (op_pure rfl) ?_
  refine w_nil ?_
  refine then_n ?_
  repeat refine wc_seq ?_
  refine wc_region ?_
  refine w_val rfl rfl (op_pure rfl) ?_
  refine w_nil ?_
  refine then_n ?_
  repeat refine wc_seq ?_
  refine wc_region ?_
  refine w_val rfl rfl (op_pure rfl) ?_
  refine w_nil ?_
  refine then_n ?_
  repeat refine wc_seq ?_
  refine wc_region ?_
  refine w_val rfl rfl (op_pure rfl) ?_
  refine w_nil ?_
  refine then_n ?_
  repeat refine wc_seq ?_
  refine wc_block ?_
  refine wc_loop_at (fun j m z => ∃ (i : Nat) (lw cw : AV), j = data.length - i ∧ i ≤ data.length ∧ m = [(0, v), (3, lw), (4, cw), (5, .int .i64 (i : Nat))] ∧ SH s [rowC lw 1 (((data.take i).flatMap labD).map fun p => [p.1]), rowC cw 1 (((data.take i).flatMap codD).map fun p => [p.1])] z) data.length
    [(0, v), (3, .nils), (4, .nils), (5, .int .i64 ((0 : Nat) : Int))] (Sub.cons rfl (Sub.cons rfl (Sub.cons rfl (Sub.cons rfl (Sub.nil _))))) ⟨0, .nils, .nils, by simp, by simp, rfl, hS⟩ ?_
  clear hS
  rintro j m z ⟨i, lw, cw, rfl, hi, rfl, hS⟩
  have hK := hS.K
  have hvz := hv.keep0 hK
  repeat refine wc_seq ?_
  refine wc_region ?_
  refine w_val rfl rfl (op_pure rfl) ?_
  refine w_val rfl rfl (op_pure rfl) ?_
  refine w_val rfl rfl (op_len rfl rfl rfl rfl rfl (by assumption)) ?_
  refine w_val rfl rfl (op_pure rfl) ?_
  refine w_nil ?_
  refine then_n ?_
  repeat refine wc_seq ?_
  refine wc_condT rfl (fun h16 => ?_) (fun h16 => ?_)
  · simp only [decide_eq_true_eq] at h16
    refine wc_skip ?_
    refine then_n ?_
    repeat refine wc_seq ?_
    refine wc_block ?_
    repeat refine wc_seq ?_
    obtain ⟨q, hq⟩ : ∃ x, data[i]? = some x := ⟨_, List.getElem?_eq_getElem (by omega)⟩
    have hqm := List.mem_of_getElem? hq
    have hfl := hM.fsl hqm
    have hMq := (hM.ok q hqm).keep hK (fun _ _ _ _ h => by cases h)
    have hR := Keep.refl hS.ok
    have hLb : ∀ g ∈ lw.gs, s.ctr ≤ g := fun g hg => (hS.bd 0 rfl g hg).1
    have hvlt := hv.lt hok
    have hXv : ∀ g ∈ (elemA v i).gs, g ∉ lw.gs := fun g hg h => by have := hvlt g (elemA_gs _ _ g hg); have := hLb g h; omega
    refine wc_draw (Old z lw.gs) (by kernel_rfl) rfl ?_
    refine wo_val (fun _ => rfl) rfl rfl (op_pure rfl) ?_
    refine wo_val (fun _ => rfl) rfl rfl (op_pure rfl) ?_
    refine wo_val (fun _ => rfl) rfl rfl (op_pure rfl) ?_
    refine wo_val (fun _ => rfl) rfl rfl (op_idxF rfl rfl (natA_cast _ _) rfl rfl rfl rfl (Row.bare (hvz)) (by omega)) ?_
    refine wo_val (fun _ => rfl) rfl rfl (op_fld rfl rfl rfl rfl (by decide) (Pt.bare (Row.mk_pt hvz hq)) (Nat.le_of_ble_eq_true rfl)) ?_
    refine wo_load hR rfl rfl ((Row.mk_pt hvz hq).fld 0 (Nat.le_of_ble_eq_true rfl)) rfl (fun g hg => hXv g (fldA_gs _ _ g hg)) rfl rfl ?_
    refine wo_val (fun _ => rfl) rfl rfl (op_pure rfl) ?_
    refine wo_val (fun _ => rfl) rfl rfl (op_pure rfl) ?_
    refine wo_val (fun _ => rfl) rfl rfl (op_idxF rfl rfl (natA_cast _ _) rfl rfl rfl rfl (Row.bare (hvz)) (by omega)) ?_
    refine wo_val (fun _ => rfl) rfl rfl (op_fld rfl rfl rfl rfl (by decide) (Pt.bare (Row.mk_pt hvz hq)) (Nat.le_of_ble_eq_true rfl)) ?_
    refine wo_load hR rfl rfl ((Row.mk_pt hvz hq).fld 2 (Nat.le_of_ble_eq_true rfl)) rfl (fun g hg => hXv g (fldA_gs _ _ g hg)) rfl rfl ?_
    refine wo_lit [[q.2.vg], [q.2.vh]] hR rfl rfl rfl rfl rfl rfl rfl (by decide) (by decide) (fill2 hMq.g.leaf hMq.ch.leaf) (by simp only [List.all_cons, List.all_nil, hMq.g.leaf, hMq.ch.leaf]; rfl) rfl (hc2L hMq.g.leaf hMq.ch.leaf) rfl ?_
    rintro b zb hb1 hk1 hc1 hg1
    have hS := hS.mov hk1
    have hR1 := hR.two hk1
    refine wo_append hR1 (fun g hg => .inr hg) rfl rfl rfl rfl rfl rfl rfl rfl rfl (by decide) (hS.row 0 rfl) (hS.nls 0 rfl) hb1 (by simp only [List.length_map, List.length_cons, List.length_nil, maxBytes]; have := lab_most hM i; omega) (by simp only [List.length_map, List.length_cons, List.length_nil, maxBytes]; have := lab_most hM i; omega) ?_
    rintro lw2 z hl2 hk2 hc2 hg2 hn2 -
    have hS := hS.upd 0 rfl hk2 (fun g hg => hg) (rowC lw2 1 ((lp data i 0 q).map fun p => [p.1])) ⟨by rw [lp_zero]; exact hl2, hn2⟩ (fun g hg => by
      rcases hg2 with h | h
      · exact .inl (by have hg : g ∈ lw2.gs := hg; rwa [h] at hg)
      · have hg : g ∈ lw2.gs := hg
        have := hl2.lt hk2.ok g hg
        exact .inr ⟨by rw [h] at hg; rw [List.mem_singleton.1 hg]; exact Nat.le_refl _, this⟩)
    have hS : SH s [_, _] z := hS
    have hK := hS.K
    have hvz := hv.keep0 hK
    clear hb1 hk1 hc1 hg1 hl2 hk2 hc2 hg2 hn2 hR1
    clear hR hLb hXv hMq
    refine wo_val (fun _ => rfl) rfl rfl (op_pure rfl) ?_
    refine wd_nil ?_
    refine then_n ?_
    repeat refine wc_seq ?_
    refine wc_region ?_
    refine w_val rfl rfl (op_pure rfl) ?_
    refine w_nil ?_
    refine then_n ?_
    refine wc_block ?_
    have hS : SH s [rowC lw2 1 ((lp data i 0 q).map fun p => [p.1]), rowC cw 1 ((cp data i 0 q).map fun p => [p.1])] z := by rw [cp_zero]; exact hS
    refine wc_loop_at (fun j m z => ∃ (k : Nat) (lw cw : AV), j = q.2.fs.length - k ∧ k ≤ q.2.fs.length ∧ m = [(0, v), (3, lw), (4, cw), (5, .int .i64 (i : Nat)), (6, .int .i64 (k : Nat))] ∧ SH s [rowC lw 1 ((lp data i k q).map fun p => [p.1]), rowC cw 1 ((cp data i k q).map fun p => [p.1])] z) q.2.fs.length
      [(0, v), (3, lw2), (4, cw), (5, .int .i64 (i : Nat)), (6, .int .i64 ((0 : Nat) : Int))] (Sub.cons rfl (Sub.cons rfl (Sub.cons rfl (Sub.cons rfl (Sub.cons rfl (Sub.nil _)))))) ⟨0, lw2, cw, by simp, by simp, rfl, hS⟩ ?_
    clear hS hvz hK
    rintro j1 m1 z ⟨k, lw, cw, rfl, hk, rfl, hS⟩
    have hK := hS.K
    have hvz := hv.keep0 hK
    have hMq := (hM.ok q hqm).keep hK (fun _ _ _ _ h => by cases h)
    have hvf := hMq.f
    have hvfs : q.2.vf.slen = some q.2.fs.length := hvf.slenF
    repeat refine wc_seq ?_
    refine wc_region ?_
    refine w_val rfl rfl (op_pure rfl) ?_
    refine w_val rfl rfl (op_pure rfl) ?_
    refine w_val rfl rfl (op_pure rfl) ?_
    refine w_val rfl rfl (op_idxF rfl rfl (natA_cast _ _) rfl rfl rfl rfl (hvz) (by omega)) ?_
    refine w_val rfl rfl (op_fld rfl rfl rfl rfl (by decide) (Row.mk_pt hvz hq) (Nat.le_of_ble_eq_true rfl)) ?_
    refine w_val rfl rfl (op_load rfl rfl ((Row.mk_pt hvz hq).fld 3 (Nat.le_of_ble_eq_true rfl)) rfl) ?_
    refine w_val rfl rfl (op_len rfl rfl rfl rfl rfl (by assumption)) ?_
    refine w_val rfl rfl (op_pure rfl) ?_
    refine w_nil ?_
    refine then_n ?_
    repeat refine wc_seq ?_
    refine wc_condT rfl (fun h39 => ?_) (fun h39 => ?_)
    · simp only [decide_eq_true_eq] at h39
      refine wc_skip ?_
      refine then_n ?_
      repeat refine wc_seq ?_
      refine wc_block ?_
      repeat refine wc_seq ?_
      obtain ⟨f, hf⟩ : ∃ x, q.2.fs[k]? = some x := ⟨_, List.getElem?_eq_getElem (by omega)⟩
      have hfm := List.mem_of_getElem? hf
      obtain ⟨hfp, hfr, hfc⟩ := hMq.each f hfm
      have hR := Keep.refl hS.ok
      have hLb : ∀ g ∈ lw.gs, s.ctr ≤ g := fun g hg => (hS.bd 0 rfl g hg).1
      have hvlt := hv.lt hok
      have hXv : ∀ g ∈ (elemA v i).gs, g ∉ lw.gs := fun g hg h => by have := hvlt g (elemA_gs _ _ g hg); have := hLb g h; omega
      have hflt := (hM.ok q hqm).f.lt hok
      have hXf : ∀ g ∈ (elemA q.2.vf k).gs, g ∉ lw.gs := fun g hg h => by have := hflt g (elemA_gs _ _ g hg); have := hLb g h; omega
      refine wc_draw (Old z lw.gs) (by kernel_rfl) rfl ?_
      refine wo_val (fun _ => rfl) rfl rfl (op_pure rfl) ?_
      refine wo_val (fun _ => rfl) rfl rfl (op_pure rfl) ?_
      refine wo_val (fun _ => rfl) rfl rfl (op_pure rfl) ?_
      refine wo_val (fun _ => rfl) rfl rfl (op_idxF rfl rfl (natA_cast _ _) rfl rfl rfl rfl (Row.bare (hvz)) (by omega)) ?_
      refine wo_val (fun _ => rfl) rfl rfl (op_fld rfl rfl rfl rfl (by decide) (Pt.bare (Row.mk_pt hvz hq)) (Nat.le_of_ble_eq_true rfl)) ?_
      refine wo_load hR rfl rfl ((Row.mk_pt hvz hq).fld 3 (Nat.le_of_ble_eq_true rfl)) rfl (fun g hg => hXv g (fldA_gs _ _ g hg)) rfl rfl ?_
      refine wo_val (fun _ => rfl) rfl rfl (op_pure rfl) ?_
      refine wo_val (fun _ => rfl) rfl rfl (op_idxF rfl rfl (natA_cast _ _) rfl rfl rfl rfl (Row.bare (hvf)) (by omega)) ?_
      refine wo_val (fun _ => rfl) rfl rfl (op_fld rfl rfl rfl rfl (by decide) (Pt.bare (Row.mk_pt hvf hf)) (Nat.le_of_ble_eq_true rfl)) ?_
      refine wo_load hR rfl rfl ((Row.mk_pt hvf hf).fld 1 (Nat.le_of_ble_eq_true rfl)) rfl (fun g hg => hXf g (fldA_gs _ _ g hg)) rfl rfl ?_
      refine wo_val (fun _ => rfl) rfl rfl (op_pure rfl) ?_
      refine wo_val (fun _ => rfl) rfl rfl (op_pure rfl) ?_
      refine wo_val (fun _ => rfl) rfl rfl (op_idxF rfl rfl (natA_cast _ _) rfl rfl rfl rfl (Row.bare (hvz)) (by omega)) ?_
      refine wo_val (fun _ => rfl) rfl rfl (op_fld rfl rfl rfl rfl (by decide) (Pt.bare (Row.mk_pt hvz hq)) (Nat.le_of_ble_eq_true rfl)) ?_
      refine wo_load hR rfl rfl ((Row.mk_pt hvz hq).fld 3 (Nat.le_of_ble_eq_true rfl)) rfl (fun g hg => hXv g (fldA_gs _ _ g hg)) rfl rfl ?_
      refine wo_val (fun _ => rfl) rfl rfl (op_pure rfl) ?_
      refine wo_val (fun _ => rfl) rfl rfl (op_idxF rfl rfl (natA_cast _ _) rfl rfl rfl rfl (Row.bare (hvf)) (by omega)) ?_
      refine wo_val (fun _ => rfl) rfl rfl (op_fld rfl rfl rfl rfl (by decide) (Pt.bare (Row.mk_pt hvf hf)) (Nat.le_of_ble_eq_true rfl)) ?_
      refine wo_load hR rfl rfl ((Row.mk_pt hvf hf).fld 2 (Nat.le_of_ble_eq_true rfl)) rfl (fun g hg => hXf g (fldA_gs _ _ g hg)) rfl rfl ?_
      refine wo_lit [[f.2.1], [f.2.2.1]] hR rfl rfl rfl rfl rfl rfl rfl (by decide) (by decide) (fill2 hfp.leaf hfr.leaf) (by simp only [List.all_cons, List.all_nil, hfp.leaf, hfr.leaf]; rfl) rfl (hc2L hfp.leaf hfr.leaf) rfl ?_
      rintro b zb hb1 hk1 hc1 hg1
      have hS := hS.mov hk1
      have hR1 := hR.two hk1
      refine wo_append hR1 (fun g hg => .inr hg) rfl rfl rfl rfl rfl rfl rfl rfl rfl (by decide) (hS.row 0 rfl) (hS.nls 0 rfl) hb1 (by simp only [List.length_map, List.length_cons, List.length_nil, maxBytes]; have := lp_most hM i hqm k; omega) (by simp only [List.length_map, List.length_cons, List.length_nil, maxBytes]; have := lp_most hM i hqm k; omega) ?_
      rintro lw2 z hl2 hk2 hc2 hg2 hn2 -
      have hS := hS.upd 0 rfl hk2 (fun g hg => hg) (rowC lw2 1 ((lp data i (k + 1) q).map fun p => [p.1])) ⟨by rw [lp_succ hf]; exact hl2, hn2⟩ (fun g hg => by
        rcases hg2 with h | h
        · exact .inl (by have hg : g ∈ lw2.gs := hg; rwa [h] at hg)
        · have hg : g ∈ lw2.gs := hg
          have := hl2.lt hk2.ok g hg
          exact .inr ⟨by rw [h] at hg; rw [List.mem_singleton.1 hg]; exact Nat.le_refl _, this⟩)
      have hS : SH s [_, _] z := hS
      have hK := hS.K
      have hvz := hv.keep0 hK
      clear hb1 hk1 hc1 hg1 hl2 hk2 hc2 hg2 hn2 hR1
      have hvf := ((hM.ok q hqm).keep hK (fun _ _ _ _ h => by cases h)).f
      clear hR hLb hXv hXf hflt hvlt hfp hfr
      refine wo_val (fun _ => rfl) rfl rfl (op_pure rfl) ?_
      refine wd_nil ?_
      refine then_n ?_
      refine wc_region ?_
      refine w_val rfl rfl (op_pure rfl) ?_
      refine w_val rfl rfl (op_pure rfl) ?_
      refine w_val rfl rfl (op_pure rfl) ?_
      refine w_val rfl rfl (op_idxF rfl rfl (natA_cast _ _) rfl rfl rfl rfl (hvz) (by omega)) ?_
      refine w_val rfl rfl (op_fld rfl rfl rfl rfl (by decide) (Row.mk_pt hvz hq) (Nat.le_of_ble_eq_true rfl)) ?_
      refine w_val rfl rfl (op_load rfl rfl ((Row.mk_pt hvz hq).fld 3 (Nat.le_of_ble_eq_true rfl)) rfl) ?_
      refine w_val rfl rfl (op_pure rfl) ?_
      refine w_val rfl rfl (op_idxF rfl rfl (natA_cast _ _) rfl rfl rfl rfl (hvf) (by omega)) ?_
      refine w_val rfl rfl (op_fld rfl rfl rfl rfl (by decide) (Row.mk_pt hvf hf) (Nat.le_of_ble_eq_true rfl)) ?_
      refine w_val rfl rfl (op_load rfl rfl ((Row.mk_pt hvf hf).fld 5 (Nat.le_of_ble_eq_true rfl)) rfl) ?_
      refine ws_lit1 (c := [f.2.2.2]) hS rfl rfl rfl rfl rfl rfl rfl rfl (by decide) (by decide) (fill1 hfc.leaf) (by simp only [List.all_cons, List.all_nil, hfc.leaf]; rfl) rfl ?_
      rintro b z hS hk1 hb1
      refine ws_append 1 hS rfl rfl rfl rfl rfl rfl rfl rfl rfl rfl rfl (by decide) hb1 (by simp only [List.length_map, List.length_cons, List.length_nil, maxBytes]; have := cp_most hM i hqm k; omega) (by simp only [List.length_map, List.length_cons, List.length_nil, maxBytes]; have := cp_most hM i hqm k; omega) ?_
      rintro cw2 z hS
      have hS : SH s [rowC lw2 1 ((lp data i (k + 1) q).map fun p => [p.1]), rowC cw2 1 ((cp data i (k + 1) q).map fun p => [p.1])] z := by rw [cp_succ hf]; exact hS
      clear hb1 hk1 hfc
      refine w_val rfl rfl (op_pure rfl) ?_
      refine w_nil ?_
      refine out_n ?_
      refine then_n ?_
      refine wc_region ?_
      refine w_val rfl rfl (op_pure rfl) ?_
      refine w_val rfl rfl (op_add rfl rfl (by unfold In64; omega)) ?_
      refine w_val rfl rfl (op_pure rfl) ?_
      refine w_nil ?_
      exact round_n _ _ (by omega) (Sub.cons rfl (Sub.cons rfl (Sub.cons rfl (Sub.cons rfl (Sub.cons rfl (Sub.nil _)))))) ⟨k + 1, lw2, cw2, rfl, by omega, rfl, hS⟩
    simp only [decide_eq_false_iff_not] at h39
    obtain rfl : k = q.2.fs.length := by omega
    rw [lp_all hq, cp_all hq] at hS
    refine wc_exit ?_
    repeat first | refine then_x ?_ | refine round_x ?_ | refine cut_x ?_ | refine out_x' (by decide) ?_
    refine out_x ?_
    refine out_n ?_
    refine then_n ?_
    refine wc_region ?_
    refine w_val rfl rfl (op_pure rfl) ?_
    refine w_val rfl rfl (op_add rfl rfl (by unfold In64; omega)) ?_
    refine w_val rfl rfl (op_pure rfl) ?_
    refine w_nil ?_
    exact round_n _ _ (by omega) (Sub.cons rfl (Sub.cons rfl (Sub.cons rfl (Sub.cons rfl (Sub.nil _))))) ⟨i + 1, lw, cw, rfl, by omega, rfl, hS⟩
  simp only [decide_eq_false_iff_not] at h16
  obtain rfl : i = data.length := by omega
  rw [List.take_length] at hS
  refine wc_exit ?_
  repeat first | refine then_x ?_ | refine round_x ?_ | refine cut_x ?_ | refine out_x' (by decide) ?_
  refine out_x ?_
  refine then_n ?_
  repeat refine wc_seq ?_
  have hMz := hM.keep hK (fun _ _ _ _ _ _ h => by cases h)
  have hown : ∀ q ∈ data, ∀ w ∈ q.2.all, ∀ g ∈ w.gs, g < s.ctr := fun q hq w hw => all_lt (hM.ok q hq) hok hw
  have hGlt : ∀ g ∈ allG data, g < s.ctr := fun g hg => by
    obtain ⟨q, hq, hg⟩ := List.mem_flatMap.1 hg
    obtain ⟨w, hw, hg⟩ := List.mem_flatMap.1 hg
    exact hown q hq w hw g hg
  have hlG : ∀ g ∈ lw.gs, g ∉ (data.flatMap labD).flatMap (·.1.gs) := fun g hg h => by have := hGlt g (allG_lab g h); have := (hS.bd 0 rfl g hg).1; omega
  have hcG1 : ∀ g ∈ cw.gs, g ∉ (data.flatMap labD).flatMap (·.1.gs) := fun g hg h => by have := hGlt g (allG_lab g h); have := (hS.bd 1 rfl g hg).1; omega
  have hcG2 : ∀ g ∈ cw.gs, g ∉ (data.flatMap codD).flatMap (·.1.gs) := fun g hg h => by have := hGlt g (allG_cod g h); have := (hS.bd 1 rfl g hg).1; omega
  refine wc_region ?_
  refine w_val rfl rfl (op_pure rfl) ?_
  refine w_call rfl rfl (op_call rfl rfl rfl rfl) (apartLabels_ok (data := data.flatMap labD) hK.ok (hS.row 0 rfl) hlG (fun p hp => by obtain ⟨q, hq, hp⟩ := List.mem_flatMap.1 hp; exact labD_row (hMz.ok q hq) hp) (by rw [map_flat]; simp only [labD_fst]; exact hMz.pw labs_sub) (fun p hp => by obtain ⟨q, hq, hp⟩ := List.mem_flatMap.1 hp; exact (hMz.ok q hq).nil _ (labs_all (labD_mem hp)))
    (by have := lab_most hM data.length; rw [List.take_length] at this; omega) (fun p hp => by obtain ⟨q, hq, hp⟩ := List.mem_flatMap.1 hp; exact labD_small (hMz.ok q hq) (hM.small q hq).1 hp)) ?_
  rintro _ z1 ⟨hk1, rfl⟩
  have hcr : ∀ p ∈ data.flatMap codD, Row z1.h 2 p.1 (p.2.map inC) := fun p hp => by
    have := lab_cod_dis hM hp
    obtain ⟨q, hq, hp⟩ := List.mem_flatMap.1 hp
    exact (codD_row (hMz.ok q hq) hp).keep hk1 this
  have hcw := (hS.row 1 rfl).keep hk1 hcG1
  have hK1 : Keep (allG data) s z1 := (hK.more fun g hg => by cases hg).trans hk1 fun g hg => .inl (allG_lab g hg)
  refine w_val rfl rfl (op_pure rfl) ?_
  refine w_val rfl rfl (op_pure rfl) ?_
  refine w_val rfl rfl (op_pure rfl) ?_
  refine w_call rfl rfl (op_call rfl rfl rfl rfl) (apartCode_ok (data := data.flatMap codD) hK1.ok hcw hcG2 hcr (by rw [map_flat]; simp only [codD_fst]; exact hMz.pw cods_sub) (fun p hp => by obtain ⟨q, hq, hp⟩ := List.mem_flatMap.1 hp; exact (hMz.ok q hq).nil _ (cods_all (codD_mem hp)))
    (by have := cod_most hM data.length; rw [List.take_length] at this; omega) (fun p hp => by obtain ⟨q, hq, hp⟩ := List.mem_flatMap.1 hp; exact codD_small (hMz.ok q hq) (hM.small q hq).1 hp)) ?_
  rintro _ z2 ⟨hk2, rfl⟩
  have hK : Keep (allG data) s z2 := hK1.trans hk2 fun g hg => .inl (allG_cod g hg)
  have hF : RowsI z2.h 6 id (data.map fnD) (MarkG mkFn 0 0) := by
    intro q p hp
    rw [List.getElem?_map] at hp
    cases e : data[q]? with
    | none => rw [e] at hp; cases hp
    | some x =>
      rw [e] at hp
      cases hp
      have hxm := List.mem_of_getElem? e
      refine ⟨_, rfl, ?_, MarkG.zero _ _ _⟩
      rw [List.map_id]
      refine ((hMz.ok x hxm).f.keep hk1 fun g hg h => ?_).keep hk2 fun g hg h => ?_
      · exact fn_lab hM hxm g hg h
      · exact fn_cod hM hxm g hg h
  have hA : RowsI z2.h 2 id (data.map arD) (MarkG mkAr 0 0) := by
    intro q p hp
    rw [List.getElem?_map] at hp
    cases e : data[q]? with
    | none => rw [e] at hp; cases hp
    | some x =>
      rw [e] at hp
      cases hp
      have hxm := List.mem_of_getElem? e
      refine ⟨_, rfl, ?_, MarkG.zero _ _ _⟩
      rw [List.map_id]
      refine ((hMz.ok x hxm).a.keep hk1 fun g hg h => ?_).keep hk2 fun g hg h => ?_
      · exact ar_lab hM hxm g hg h
      · exact ar_cod hM hxm g hg h
  clear hcr hcw hK1 hk1 hk2 hMz hlG hcG1 hcG2 hS hvz
  refine w_val rfl rfl (op_pure rfl) ?_
  refine w_val rfl rfl (op_pure rfl) ?_
  refine w_nil ?_
  refine then_n ?_
  repeat refine wc_seq ?_
  refine wc_cond_f rfl ?_
  refine wc_skip ?_
  refine then_n ?_
  repeat refine wc_seq ?_
  refine wc_region ?_
  refine w_val rfl rfl (op_pure rfl) ?_
  refine w_nil ?_
  refine then_n ?_
  repeat refine wc_seq ?_
  refine wc_block ?_
  refine wc_loop_at (fun j m z => ∃ i : Nat, j = data.length - i ∧ i ≤ data.length ∧ m = [(0, v), (7, .int .i64 (i : Nat))] ∧ Keep (allG data) s z ∧ RowsI z.h 6 id (data.map fnD) (MarkG mkFn i 0) ∧ RowsI z.h 2 id (data.map arD) (MarkG mkAr i 0)) data.length
    [(0, v), (7, .int .i64 ((0 : Nat) : Int))] (Sub.cons rfl (Sub.cons rfl (Sub.nil _))) ⟨0, by simp, by simp, rfl, hK, hF, hA⟩ ?_
  clear hK hF hA
  rintro j m z ⟨i, rfl, hi, rfl, hK, hF, hA⟩
  have hvz := hv.keep hK hvX
  repeat refine wc_seq ?_
  refine wc_region ?_
  refine w_val rfl rfl (op_pure rfl) ?_
  refine w_val rfl rfl (op_pure rfl) ?_
  refine w_val rfl rfl (op_len rfl rfl rfl rfl rfl (by assumption)) ?_
  refine w_val rfl rfl (op_pure rfl) ?_
  refine w_nil ?_
  refine then_n ?_
  repeat refine wc_seq ?_
  refine wc_condT rfl (fun h86 => ?_) (fun h86 => ?_)
  · simp only [decide_eq_true_eq] at h86
    refine wc_skip ?_
    refine then_n ?_
    repeat refine wc_seq ?_
    refine wc_block ?_
    repeat refine wc_seq ?_
    obtain ⟨q, hq⟩ : ∃ x, data[i]? = some x := ⟨_, List.getElem?_eq_getElem (by omega)⟩
    have hqm := List.mem_of_getElem? hq
    have hfl := hM.fsl hqm
    have hal := (hM.small q hqm).1.2.1
    have hpF : (data.map fnD)[i]? = some (fnD q) := by rw [List.getElem?_map, hq]; rfl
    have hpA : (data.map arD)[i]? = some (arD q) := by rw [List.getElem?_map, hq]; rfl
    have hql : (fnD q).2.length = q.2.fs.length := by simp [fnD]
    have hqa : (arD q).2.length = q.1.arrays.length := by simp [arD]
    refine wc_region ?_
    refine w_val rfl rfl (op_pure rfl) ?_
    refine w_nil ?_
    refine then_n ?_
    repeat refine wc_seq ?_
    refine wc_block ?_
    refine wc_loop_at (fun j m z => ∃ k : Nat, j = q.2.fs.length - k ∧ k ≤ q.2.fs.length ∧ m = [(0, v), (7, .int .i64 (i : Nat)), (8, .int .i64 (k : Nat))] ∧ Keep (allG data) s z ∧ RowsI z.h 6 id (data.map fnD) (MarkG mkFn i k) ∧ RowsI z.h 2 id (data.map arD) (MarkG mkAr i 0)) q.2.fs.length
      [(0, v), (7, .int .i64 (i : Nat)), (8, .int .i64 ((0 : Nat) : Int))] (Sub.cons rfl (Sub.cons rfl (Sub.cons rfl (Sub.nil _)))) ⟨0, by simp, by simp, rfl, hK, hF, hA⟩ ?_
    clear hK hF hA hvz
    rintro j1 m1 z ⟨k, rfl, hk, rfl, hK, hF, hA⟩
    have hvz := hv.keep hK hvX
    obtain ⟨xs, hxl, hxr, hxG⟩ := hF i _ hpF
    have hvfs : q.2.vf.slen = some q.2.fs.length := hxr.slenF.trans (congrArg some (hxl.trans hql))
    have hxl' : xs.length = q.2.fs.length := hxl.trans hql
    repeat refine wc_seq ?_
    refine wc_region ?_
    refine w_val rfl rfl (op_pure rfl) ?_
    refine w_val rfl rfl (op_pure rfl) ?_
    refine w_val rfl rfl (op_pure rfl) ?_
    refine w_val rfl rfl (op_idxF rfl rfl (natA_cast _ _) rfl rfl rfl rfl (hvz) (by omega)) ?_
    refine w_val rfl rfl (op_fld rfl rfl rfl rfl (by decide) (Row.mk_pt hvz hq) (Nat.le_of_ble_eq_true rfl)) ?_
    refine w_val rfl rfl (op_load rfl rfl ((Row.mk_pt hvz hq).fld 3 (Nat.le_of_ble_eq_true rfl)) rfl) ?_
    refine w_val rfl rfl (op_len rfl rfl rfl rfl rfl (by assumption)) ?_
    refine w_val rfl rfl (op_pure rfl) ?_
    refine w_nil ?_
    refine then_n ?_
    repeat refine wc_seq ?_
    refine wc_condT rfl (fun h96 => ?_) (fun h96 => ?_)
    · simp only [decide_eq_true_eq] at h96
      refine wc_skip ?_
      refine then_n ?_
      repeat refine wc_seq ?_
      refine wc_block ?_
      refine wc_region ?_
      refine w_val rfl rfl (op_pure rfl) ?_
      refine w_val rfl rfl (op_pure rfl) ?_
      refine w_val rfl rfl (op_idxF rfl rfl (natA_cast _ _) rfl rfl rfl rfl (hvz) (by omega)) ?_
      refine w_val rfl rfl (op_fld rfl rfl rfl rfl (by decide) (Row.mk_pt hvz hq) (Nat.le_of_ble_eq_true rfl)) ?_
      refine w_val rfl rfl (op_load rfl rfl ((Row.mk_pt hvz hq).fld 3 (Nat.le_of_ble_eq_true rfl)) rfl) ?_
      refine w_val rfl rfl (op_pure rfl) ?_
      refine w_val rfl rfl (op_pure rfl) ?_
      refine w_val rfl rfl (op_mul rfl rfl (by unfold In64; omega)) ?_
      refine w_val rfl rfl (op_pure rfl) ?_
      refine w_val rfl rfl (op_add rfl rfl (by unfold In64; omega)) ?_
      refine w_val rfl rfl (op_pure rfl) ?_
      refine w_val rfl rfl (op_idxF rfl rfl (natA_cast _ _) rfl rfl rfl rfl (hxr) (by omega)) ?_
      refine w_store_row rfl rfl rfl rfl rfl rfl rfl hK.ok hxr (fun e => by have hxr' := hxr; have := (hM.ok q hqm).nil _ vf_all e; rw [show (fnD q).1 = q.2.vf from rfl, this] at hxr'; have h0 := congrArg List.length (show xs.map id = [] from hxr'); rw [List.length_map, List.length_nil] at h0; omega) (by rw [List.length_map]; omega) ?_
      intro zz hx2 hk2 hc2
      have hA := hA.keep hk2 (fun p hp g hg h => by obtain ⟨q', hq', rfl⟩ := List.mem_map.1 hp; exact fn_ar hM hqm hq' g h hg)
      have hF := hF.upd (fn_pw hM) hpF hk2 (xs := xs.set k (mkFn i k)) (G' := MarkG mkFn i (k + 1)) (by rw [List.map_set]; exact hx2) (by rw [List.length_set]; exact hxl) (hxG.step (by omega)) (fun q xs hq h => h.other hq)
      have hK := hK.trans hk2 (fun g hg => .inl (allG_mem hqm vf_all hg))
      clear hx2 hk2 hc2 hxr hxG
      refine w_nil ?_
      refine out_n ?_
      refine then_n ?_
      refine wc_region ?_
      refine w_val rfl rfl (op_pure rfl) ?_
      refine w_val rfl rfl (op_add rfl rfl (by unfold In64; omega)) ?_
      refine w_val rfl rfl (op_pure rfl) ?_
      refine w_nil ?_
      exact round_n _ _ (by omega) (Sub.cons rfl (Sub.cons rfl (Sub.cons rfl (Sub.nil _)))) ⟨k + 1, rfl, by omega, rfl, hK, hF, hA⟩
    simp only [decide_eq_false_iff_not] at h96
    obtain rfl : k = q.2.fs.length := by omega
    replace hF := hF.mono (G' := MarkG mkFn (i + 1) 0) (fun q' p' xs hq' hx h => h.next fun e => by subst e; rw [hpF] at hq'; cases hq'; omega)
    clear hxr hxG hvfs
    refine wc_exit ?_
    repeat first | refine then_x ?_ | refine round_x ?_ | refine cut_x ?_ | refine out_x' (by decide) ?_
    refine out_x ?_
    refine then_n ?_
    repeat refine wc_seq ?_
    refine wc_region ?_
    refine w_val rfl rfl (op_pure rfl) ?_
    refine w_nil ?_
    refine then_n ?_
    refine wc_block ?_
    refine wc_loop_at (fun j m z => ∃ k : Nat, j = q.1.arrays.length - k ∧ k ≤ q.1.arrays.length ∧ m = [(0, v), (7, .int .i64 (i : Nat)), (9, .int .i64 (k : Nat))] ∧ Keep (allG data) s z ∧ RowsI z.h 6 id (data.map fnD) (MarkG mkFn (i + 1) 0) ∧ RowsI z.h 2 id (data.map arD) (MarkG mkAr i k)) q.1.arrays.length
      [(0, v), (7, .int .i64 (i : Nat)), (9, .int .i64 ((0 : Nat) : Int))] (Sub.cons rfl (Sub.cons rfl (Sub.cons rfl (Sub.nil _)))) ⟨0, by simp, by simp, rfl, hK, hF, hA⟩ ?_
    clear hK hF hA hvz
    rintro j1 m1 z ⟨k, rfl, hk, rfl, hK, hF, hA⟩
    have hvz := hv.keep hK hvX
    obtain ⟨xs, hxl, hxr, hxG⟩ := hA i _ hpA
    have hvas : q.2.va.slen = some q.1.arrays.length := hxr.slenF.trans (congrArg some (hxl.trans hqa))
    have hxl' : xs.length = q.1.arrays.length := hxl.trans hqa
    repeat refine wc_seq ?_
    refine wc_region ?_
    refine w_val rfl rfl (op_pure rfl) ?_
    refine w_val rfl rfl (op_pure rfl) ?_
    refine w_val rfl rfl (op_pure rfl) ?_
    refine w_val rfl rfl (op_idxF rfl rfl (natA_cast _ _) rfl rfl rfl rfl (hvz) (by omega)) ?_
    refine w_val rfl rfl (op_fld rfl rfl rfl rfl (by decide) (Row.mk_pt hvz hq) (Nat.le_of_ble_eq_true rfl)) ?_
    refine w_val rfl rfl (op_load rfl rfl ((Row.mk_pt hvz hq).fld 1 (Nat.le_of_ble_eq_true rfl)) rfl) ?_
    refine w_val rfl rfl (op_len rfl rfl rfl rfl rfl (by assumption)) ?_
    refine w_val rfl rfl (op_pure rfl) ?_
    refine w_nil ?_
    refine then_n ?_
    repeat refine wc_seq ?_
    refine wc_condT rfl (fun h118 => ?_) (fun h118 => ?_)
    · simp only [decide_eq_true_eq] at h118
      refine wc_skip ?_
      refine then_n ?_
      repeat refine wc_seq ?_
      refine wc_block ?_
      refine wc_region ?_
      refine w_val rfl rfl (op_pure rfl) ?_
      refine w_val rfl rfl (op_pure rfl) ?_
      refine w_val rfl rfl (op_idxF rfl rfl (natA_cast _ _) rfl rfl rfl rfl (hvz) (by omega)) ?_
      refine w_val rfl rfl (op_fld rfl rfl rfl rfl (by decide) (Row.mk_pt hvz hq) (Nat.le_of_ble_eq_true rfl)) ?_
      refine w_val rfl rfl (op_load rfl rfl ((Row.mk_pt hvz hq).fld 1 (Nat.le_of_ble_eq_true rfl)) rfl) ?_
      refine w_val rfl rfl (op_pure rfl) ?_
      refine w_val rfl rfl (op_pure rfl) ?_
      refine w_val rfl rfl (op_mul rfl rfl (by unfold In64; omega)) ?_
      refine w_val rfl rfl (op_pure rfl) ?_
      refine w_val rfl rfl (op_add rfl rfl (by unfold In64; omega)) ?_
      refine w_val rfl rfl (op_pure rfl) ?_
      refine w_val rfl rfl (op_idxF rfl rfl (natA_cast _ _) rfl rfl rfl rfl (hxr) (by omega)) ?_
      refine w_store_row rfl rfl rfl rfl rfl rfl rfl hK.ok hxr (fun e => by have hxr' := hxr; have := (hM.ok q hqm).nil _ va_all e; rw [show (arD q).1 = q.2.va from rfl, this] at hxr'; have h0 := congrArg List.length (show xs.map id = [] from hxr'); rw [List.length_map, List.length_nil] at h0; omega) (by rw [List.length_map]; omega) ?_
      intro zz hx2 hk2 hc2
      have hF := hF.keep hk2 (fun p hp g hg h => by obtain ⟨q', hq', rfl⟩ := List.mem_map.1 hp; exact fn_ar hM hq' hqm g hg h)
      have hA := hA.upd (ar_pw hM) hpA hk2 (xs := xs.set k (mkAr i k)) (G' := MarkG mkAr i (k + 1)) (by rw [List.map_set]; exact hx2) (by rw [List.length_set]; exact hxl) (hxG.step (by omega)) (fun q xs hq h => h.other hq)
      have hK := hK.trans hk2 (fun g hg => .inl (allG_mem hqm va_all hg))
      clear hx2 hk2 hc2 hxr hxG
      refine w_nil ?_
      refine out_n ?_
      refine then_n ?_
      refine wc_region ?_
      refine w_val rfl rfl (op_pure rfl) ?_
      refine w_val rfl rfl (op_add rfl rfl (by unfold In64; omega)) ?_
      refine w_val rfl rfl (op_pure rfl) ?_
      refine w_nil ?_
      exact round_n _ _ (by omega) (Sub.cons rfl (Sub.cons rfl (Sub.cons rfl (Sub.nil _)))) ⟨k + 1, rfl, by omega, rfl, hK, hF, hA⟩
    simp only [decide_eq_false_iff_not] at h118
    obtain rfl : k = q.1.arrays.length := by omega
    replace hA := hA.mono (G' := MarkG mkAr (i + 1) 0) (fun q' p' xs hq' hx h => h.next fun e => by subst e; rw [hpA] at hq'; cases hq'; omega)
    clear hxr hxG hvas
    refine wc_exit ?_
    repeat first | refine then_x ?_ | refine round_x ?_ | refine cut_x ?_ | refine out_x' (by decide) ?_
    refine out_x ?_
    refine out_n ?_
    refine then_n ?_
    refine wc_region ?_
    refine w_val rfl rfl (op_pure rfl) ?_
    refine w_val rfl rfl (op_add rfl rfl (by unfold In64; omega)) ?_
    refine w_val rfl rfl (op_pure rfl) ?_
    refine w_nil ?_
    exact round_n _ _ (by omega) (Sub.cons rfl (Sub.cons rfl (Sub.nil _))) ⟨i + 1, rfl, by omega, rfl, hK, hF, hA⟩
  simp only [decide_eq_false_iff_not] at h86
  obtain rfl : i = data.length := by omega
  refine wc_exit ?_
  repeat first | refine then_x ?_ | refine round_x ?_ | refine cut_x ?_ | refine out_x' (by decide) ?_
  refine out_x ?_
  refine then_n ?_
  repeat refine wc_seq ?_
  replace hF := hF.mono (G' := FullG mkFn) (fun q p xs hq _ h => h.1 (by have := (List.getElem?_eq_some_iff.1 hq).1; rw [List.length_map] at this; exact this))
  replace hA := hA.mono (G' := FullG mkAr) (fun q p xs hq _ h => h.1 (by have := (List.getElem?_eq_some_iff.1 hq).1; rw [List.length_map] at this; exact this))
  refine wc_region ?_
  refine w_val rfl rfl (op_pure rfl) ?_
  refine w_nil ?_
  refine then_n ?_
  repeat refine wc_seq ?_
  refine wc_block ?_
  refine wc_loop_at (fun j m z' => ∃ i : Nat, j = data.length - i ∧ i ≤ data.length ∧ m = [(0, v), (10, .int .i64 (i : Nat))] ∧ z = z') data.length
    [(0, v), (10, .int .i64 ((0 : Nat) : Int))] (Sub.cons rfl (Sub.cons rfl (Sub.nil _))) ⟨0, by simp, by simp, rfl, rfl⟩ ?_
  rintro j m _ ⟨i, rfl, hi, rfl, rfl⟩
  repeat refine wc_seq ?_
  refine wc_region ?_
  refine w_val rfl rfl (op_pure rfl) ?_
  refine w_val rfl rfl (op_pure rfl) ?_
  refine w_val rfl rfl (op_len rfl rfl rfl rfl rfl (by assumption)) ?_
  refine w_val rfl rfl (op_pure rfl) ?_
  refine w_nil ?_
  refine then_n ?_
  repeat refine wc_seq ?_
  refine wc_condT rfl (fun h136 => ?_) (fun h136 => ?_)
  · simp only [decide_eq_true_eq] at h136
    refine wc_skip ?_
    refine then_n ?_
    repeat refine wc_seq ?_
    refine wc_block ?_
    repeat refine wc_seq ?_
    obtain ⟨q, hq⟩ : ∃ x, data[i]? = some x := ⟨_, List.getElem?_eq_getElem (by omega)⟩
    have hqm := List.mem_of_getElem? hq
    have hfl := hM.fsl hqm
    have hal := (hM.small q hqm).1.2.1
    have hpF : (data.map fnD)[i]? = some (fnD q) := by rw [List.getElem?_map, hq]; rfl
    have hpA : (data.map arD)[i]? = some (arD q) := by rw [List.getElem?_map, hq]; rfl
    have hql : (fnD q).2.length = q.2.fs.length := by simp [fnD]
    have hqa : (arD q).2.length = q.1.arrays.length := by simp [arD]
    obtain ⟨xs, hxl, hxr, hxG⟩ := hF i _ hpF
    unfold FullG at hxG
    rw [hxl, hql] at hxG
    rw [hxG] at hxr
    obtain ⟨ys, hyl, hyr, hyG⟩ := hA i _ hpA
    unfold FullG at hyG
    rw [hyl, hqa] at hyG
    rw [hyG] at hyr
    have hvfs : q.2.vf.slen = some q.2.fs.length := hxr.slenF.trans (by rw [fullM_len])
    have hvas : q.2.va.slen = some q.1.arrays.length := hyr.slenF.trans (by rw [fullM_len])
    have hx1 : (fullM mkFn i q.2.fs.length).length = q.2.fs.length := fullM_len ..
    have hy1 : (fullM mkAr i q.1.arrays.length).length = q.1.arrays.length := fullM_len ..
    refine wc_region ?_
    refine w_val rfl rfl (op_pure rfl) ?_
    refine w_nil ?_
    refine then_n ?_
    repeat refine wc_seq ?_
    refine wc_block ?_
    refine wc_loop_at (fun j m z' => ∃ k : Nat, j = q.2.fs.length - k ∧ k ≤ q.2.fs.length ∧ m = [(0, v), (10, .int .i64 (i : Nat)), (11, .int .i64 (k : Nat))] ∧ z = z') q.2.fs.length
      [(0, v), (10, .int .i64 (i : Nat)), (11, .int .i64 ((0 : Nat) : Int))] (Sub.cons rfl (Sub.cons rfl (Sub.cons rfl (Sub.nil _)))) ⟨0, by simp, by simp, rfl, rfl⟩ ?_
    rintro j1 m1 _ ⟨k, rfl, hk, rfl, rfl⟩
    repeat refine wc_seq ?_
    refine wc_region ?_
    refine w_val rfl rfl (op_pure rfl) ?_
    refine w_val rfl rfl (op_pure rfl) ?_
    refine w_val rfl rfl (op_pure rfl) ?_
    refine w_val rfl rfl (op_idxF rfl rfl (natA_cast _ _) rfl rfl rfl rfl (hvz) (by omega)) ?_
    refine w_val rfl rfl (op_fld rfl rfl rfl rfl (by decide) (Row.mk_pt hvz hq) (Nat.le_of_ble_eq_true rfl)) ?_
    refine w_val rfl rfl (op_load rfl rfl ((Row.mk_pt hvz hq).fld 3 (Nat.le_of_ble_eq_true rfl)) rfl) ?_
    refine w_val rfl rfl (op_len rfl rfl rfl rfl rfl (by assumption)) ?_
    refine w_val rfl rfl (op_pure rfl) ?_
    refine w_nil ?_
    refine then_n ?_
    repeat refine wc_seq ?_
    refine wc_condT rfl (fun h146 => ?_) (fun h146 => ?_)
    · simp only [decide_eq_true_eq] at h146
      refine wc_skip ?_
      refine then_n ?_
      repeat refine wc_seq ?_
      refine wc_block ?_
      repeat refine wc_seq ?_
      have hxk : (fullM mkFn i q.2.fs.length)[k]? = some (mkFn i k) := fullM_get _ (by omega)
      refine wc_region ?_
      refine w_val rfl rfl (op_pure rfl) ?_
      refine w_val rfl rfl (op_pure rfl) ?_
      refine w_val rfl rfl (op_idxF rfl rfl (natA_cast _ _) rfl rfl rfl rfl (hvz) (by omega)) ?_
      refine w_val rfl rfl (op_fld rfl rfl rfl rfl (by decide) (Row.mk_pt hvz hq) (Nat.le_of_ble_eq_true rfl)) ?_
      refine w_val rfl rfl (op_load rfl rfl ((Row.mk_pt hvz hq).fld 3 (Nat.le_of_ble_eq_true rfl)) rfl) ?_
      refine w_val rfl rfl (op_pure rfl) ?_
      refine w_val rfl rfl (op_idxF rfl rfl (natA_cast _ _) rfl rfl rfl rfl (hxr) (by omega)) ?_
      refine w_val rfl rfl (op_fld rfl rfl rfl rfl (by decide) (Row.mk_pt hxr hxk) (Nat.le_of_ble_eq_true rfl)) ?_
      refine w_val rfl rfl (op_load rfl rfl ((Row.mk_pt hxr hxk).fld 4 (Nat.le_of_ble_eq_true rfl)) rfl) ?_
      refine w_val rfl rfl (op_pure rfl) ?_
      refine w_val rfl rfl (op_mul rfl rfl (by unfold In64; omega)) ?_
      refine w_val rfl rfl (op_pure rfl) ?_
      refine w_val rfl rfl (op_add rfl rfl (by unfold In64; omega)) ?_
      refine w_val rfl rfl (op_int (v := .bool false) rfl rfl (by decide) (by simp [intA])) ?_
      refine w_nil ?_
      refine then_n ?_
      refine wc_condT rfl (fun h162 => ?_) (fun h162 => ?_)
      · cases h162
      skip
      refine wc_skip ?_
      refine out_n ?_
      refine then_n ?_
      refine wc_region ?_
      refine w_val rfl rfl (op_pure rfl) ?_
      refine w_val rfl rfl (op_add rfl rfl (by unfold In64; omega)) ?_
      refine w_val rfl rfl (op_pure rfl) ?_
      refine w_nil ?_
      exact round_n _ _ (by omega) (Sub.cons rfl (Sub.cons rfl (Sub.cons rfl (Sub.nil _)))) ⟨k + 1, rfl, by omega, rfl, rfl⟩
    simp only [decide_eq_false_iff_not] at h146
    obtain rfl : k = q.2.fs.length := by omega
    refine wc_exit ?_
    repeat first | refine then_x ?_ | refine round_x ?_ | refine cut_x ?_ | refine out_x' (by decide) ?_
    refine out_x ?_
    refine then_n ?_
    repeat refine wc_seq ?_
    refine wc_region ?_
    refine w_val rfl rfl (op_pure rfl) ?_
    refine w_nil ?_
    refine then_n ?_
    refine wc_block ?_
    refine wc_loop_at (fun j m z' => ∃ k : Nat, j = q.1.arrays.length - k ∧ k ≤ q.1.arrays.length ∧ m = [(0, v), (10, .int .i64 (i : Nat)), (12, .int .i64 (k : Nat))] ∧ z = z') q.1.arrays.length
      [(0, v), (10, .int .i64 (i : Nat)), (12, .int .i64 ((0 : Nat) : Int))] (Sub.cons rfl (Sub.cons rfl (Sub.cons rfl (Sub.nil _)))) ⟨0, by simp, by simp, rfl, rfl⟩ ?_
    rintro j1 m1 _ ⟨k, rfl, hk, rfl, rfl⟩
    repeat refine wc_seq ?_
    refine wc_region ?_
    refine w_val rfl rfl (op_pure rfl) ?_
    refine w_val rfl rfl (op_pure rfl) ?_
    refine w_val rfl rfl (op_pure rfl) ?_
    refine w_val rfl rfl (op_idxF rfl rfl (natA_cast _ _) rfl rfl rfl rfl (hvz) (by omega)) ?_
    refine w_val rfl rfl (op_fld rfl rfl rfl rfl (by decide) (Row.mk_pt hvz hq) (Nat.le_of_ble_eq_true rfl)) ?_
    refine w_val rfl rfl (op_load rfl rfl ((Row.mk_pt hvz hq).fld 1 (Nat.le_of_ble_eq_true rfl)) rfl) ?_
    refine w_val rfl rfl (op_len rfl rfl rfl rfl rfl (by assumption)) ?_
    refine w_val rfl rfl (op_pure rfl) ?_
    refine w_nil ?_
    refine then_n ?_
    repeat refine wc_seq ?_
    refine wc_condT rfl (fun h170 => ?_) (fun h170 => ?_)
    · simp only [decide_eq_true_eq] at h170
      refine wc_skip ?_
      refine then_n ?_
      repeat refine wc_seq ?_
      refine wc_block ?_
      repeat refine wc_seq ?_
      have hxk : (fullM mkAr i q.1.arrays.length)[k]? = some (mkAr i k) := fullM_get _ (by omega)
      refine wc_region ?_
      refine w_val rfl rfl (op_pure rfl) ?_
      refine w_val rfl rfl (op_pure rfl) ?_
      refine w_val rfl rfl (op_idxF rfl rfl (natA_cast _ _) rfl rfl rfl rfl (hvz) (by omega)) ?_
      refine w_val rfl rfl (op_fld rfl rfl rfl rfl (by decide) (Row.mk_pt hvz hq) (Nat.le_of_ble_eq_true rfl)) ?_
      refine w_val rfl rfl (op_load rfl rfl ((Row.mk_pt hvz hq).fld 1 (Nat.le_of_ble_eq_true rfl)) rfl) ?_
      refine w_val rfl rfl (op_pure rfl) ?_
      refine w_val rfl rfl (op_idxF rfl rfl (natA_cast _ _) rfl rfl rfl rfl (hyr) (by omega)) ?_
      refine w_val rfl rfl (op_fld rfl rfl rfl rfl (by decide) (Row.mk_pt hyr hxk) (Nat.le_of_ble_eq_true rfl)) ?_
      refine w_val rfl rfl (op_load rfl rfl ((Row.mk_pt hyr hxk).fld 0 (Nat.le_of_ble_eq_true rfl)) rfl) ?_
      refine w_val rfl rfl (op_pure rfl) ?_
      refine w_val rfl rfl (op_mul rfl rfl (by unfold In64; omega)) ?_
      refine w_val rfl rfl (op_pure rfl) ?_
      refine w_val rfl rfl (op_add rfl rfl (by unfold In64; omega)) ?_
      refine w_val rfl rfl (op_int (v := .bool false) rfl rfl (by decide) (by simp [intA])) ?_
      refine w_nil ?_
      refine then_n ?_
      refine wc_condT rfl (fun h186 => ?_) (fun h186 => ?_)
      · cases h186
      skip
      refine wc_skip ?_
      refine out_n ?_
      refine then_n ?_
      refine wc_region ?_
      refine w_val rfl rfl (op_pure rfl) ?_
      refine w_val rfl rfl (op_add rfl rfl (by unfold In64; omega)) ?_
      refine w_val rfl rfl (op_pure rfl) ?_
      refine w_nil ?_
      exact round_n _ _ (by omega) (Sub.cons rfl (Sub.cons rfl (Sub.cons rfl (Sub.nil _)))) ⟨k + 1, rfl, by omega, rfl, rfl⟩
    simp only [decide_eq_false_iff_not] at h170
    obtain rfl : k = q.1.arrays.length := by omega
    refine wc_exit ?_
    repeat first | refine then_x ?_ | refine round_x ?_ | refine cut_x ?_ | refine out_x' (by decide) ?_
    refine out_x ?_
    refine out_n ?_
    refine then_n ?_
    refine wc_region ?_
    refine w_val rfl rfl (op_pure rfl) ?_
    refine w_val rfl rfl (op_add rfl rfl (by unfold In64; omega)) ?_
    refine w_val rfl rfl (op_pure rfl) ?_
    refine w_nil ?_
    exact round_n _ _ (by omega) (Sub.cons rfl (Sub.cons rfl (Sub.nil _))) ⟨i + 1, rfl, by omega, rfl, rfl⟩
  simp only [decide_eq_false_iff_not] at h136
  obtain rfl : i = data.length := by omega
  refine wc_exit ?_
  repeat first | refine then_x ?_ | refine round_x ?_ | refine cut_x ?_ | refine out_x' (by decide) ?_
  refine out_x ?_
  refine then_n ?_
  repeat refine wc_seq ?_
  refine wc_region ?_
  refine w_val rfl rfl (op_pure rfl) ?_
  refine w_nil ?_
  refine then_n ?_
  refine wc_ret ?_
  repeat first | refine then_r ?_ | refine out_r ?_ | refine round_r ?_ | refine cut_r ?_ | refine sc_r ?_
  exact ⟨_, rfl, hK, rfl⟩
end Go.Ab
/- louverlaw27.LinkTwo. -/
namespace Go.Ab
open Go.Proofs
def gC {α : Type} (R : RP α) (hG : Good R) (F : Nat → Prop) (x : α) (c : List AV) : Chunk := ⟨F, fun h => R h F x c, fun k h hY => hG.keep k h hY⟩
def modC (mm : ModL) (M : MemM) : Chunk := ⟨fun g => ∃ v ∈ M.all, g ∈ v.gs, fun h => ModO h mm M, fun k h hY => k.keep h fun v hv g hg hy => hY g hy ⟨v, hv, hg⟩⟩
def anyC (F : Nat → Prop) : Chunk := ⟨F, fun _ => True, fun _ _ _ => trivial⟩
theorem SH.kill2 {s0 s s' : St} {L : List Chunk} {c d : Chunk} {Y : List Nat} (h : SH s0 L s) (i j : Nat) (hij : i ≠ j) (hi : L[i]? = some c) (hj : L[j]? = some d) (k : Keep Y s s') (hY : ∀ g ∈ Y, c.F g ∨ d.F g) : SH s0 (((L.set j emC).set i (anyC fun g => c.F g ∨ d.F g)).set i emC) s' := by
  have hg : ((L.set j emC).set i (anyC fun g => c.F g ∨ d.F g))[i]? = some (anyC fun g => c.F g ∨ d.F g) := by
    rw [List.getElem?_set_self]
    rw [List.length_set]
    exact (List.getElem?_eq_some_iff.1 hi).1
  exact (h.mrg i j hij hi hj (anyC fun g => c.F g ∨ d.F g) trivial fun g hg => hg).upd i hg k hY emC trivial fun g hg => hg.elim
theorem ModR.four {h : Tr Grp} {m : ModL} {c : List AV} (k : ModR h m c) : ∃ a b d e, c = [a, b, d, e] := by
  obtain ⟨a, b, d, e, rfl, -⟩ := k
  exact ⟨a, b, d, e, rfl⟩
theorem mods2 {h : Tr Grp} {mm : ModL} {M N : MemM} (h1 : ModO h mm M) (h2 : ModO h mm N) (hs : mm.small ∧ mm.funcs.length ≤ 1000) (hd : ∀ u ∈ M.all, ∀ w ∈ N.all, Dis u w) : Mods h [(mm, M), (mm, N)] := by
  refine ⟨fun q hq => ?_, fun q hq => ?_, ?_, by simp⟩
  · rcases List.mem_cons.1 hq with rfl | hq
    · exact h1
    · rw [List.mem_singleton.1 hq]; exact h2
  · rcases List.mem_cons.1 hq with rfl | hq
    · exact hs
    · rw [List.mem_singleton.1 hq]; exact hs
  · refine List.pairwise_cons.2 ⟨fun q hq => ?_, List.pairwise_singleton ..⟩
    rw [List.mem_singleton.1 hq]; exact hd
theorem allG2 {mm : ModL} {M N : MemM} {g : Nat} (h : g ∈ allG [(mm, M), (mm, N)]) : (modC mm M).F g ∨ (modC mm N).F g := by
  obtain ⟨q, hq, h⟩ := List.mem_flatMap.1 h
  have h := List.mem_flatMap.1 h
  obtain ⟨v, hv, h⟩ := h
  rcases List.mem_cons.1 hq with e | hq
  · rw [e] at hv; exact .inl ⟨v, hv, h⟩
  · rw [List.mem_singleton.1 hq] at hv; exact .inr ⟨v, hv, h⟩
theorem ModO.cells_leaf {h : Tr Grp} {mm : ModL} {M : MemM} (k : ModO h mm M) : M.cells.all AV.leaf = true := k.r.leaf.2
theorem lit2_cells {a b : List AV} (ha : a.length = 4 ∧ a.all AV.leaf = true) (hb : b.length = 4 ∧ b.all AV.leaf = true) : ∀ x ∈ [a, b], x.length = 4 ∧ x.all AV.leaf = true := by
  intro x hx
  rcases List.mem_cons.1 hx with rfl | hx
  · exact ha
  · rw [List.mem_singleton.1 hx]; exact hb
end Go.Ab
/- A row under construction takes over what its new element owns. -/
namespace Go.Ab
section
variable {P : Program} {T : Tab} {K : FuncId → Option Bool} {nt : Nat} {ops : Array Oper} {rest : List Oper} {m : Sy} {s s0 : St} {Q : Sy → St → Prop} {d ty : Nat} {pos : String} {af : Array Edge} {g : Option (Nat × Bool)} {L : List Chunk} {α : Type}
theorem SH.nilB (h : SH s0 L s) (R : RP α) (hG : Good R) (sz : Nat) : SH s0 (L ++ [bldC R hG (fun _ => False) sz .nils []]) s :=
  h.add (Keep.refl h.ok) _ ⟨[], rfl, fun _ => rfl, fun g hg => (by cases hg), rfl, fun i x c h1 => (by simp at h1)⟩ fun g hg => hg.elim
theorem SH.bld {R : RP α} {hG : Good R} {F : Nat → Prop} {sz : Nat} {v : AV} {xs : List α} (h : SH s0 L s) (n : Nat) (hn : L[n]? = some (bldC R hG F sz v xs)) : ∃ css, Row s.h sz v css ∧ (v.gs = [] → v = .nils) ∧ (∀ g ∈ v.gs, F g) ∧ css.length = xs.length ∧ ∀ (i : Nat) (x : α) (c : List AV), xs[i]? = some x → css[i]? = some c → R s.h (fun g => F g ∧ g ∉ v.gs) x c := h.get n hn
theorem SH.bldLeaf {R : RP α} {hG : Good R} {F : Nat → Prop} {sz : Nat} {v : AV} {xs : List α} (h : SH s0 L s) (n : Nat) (hn : L[n]? = some (bldC R hG F sz v xs)) : v.leaf = true := by
  obtain ⟨css, hr, -⟩ := h.bld n hn
  exact hr.leaf
theorem ws_app_bld {R : RP α} {hG : Good R} {F : Nat → Prop} {sz : Nat} {f b : AV} {xs : List α} {z : α} {c : List AV} {dc : Chunk} {tt e : TypeId} {x y : Operand} {args : Array Operand} {tys : Array TypeId} {i ie : TI} (n j : Nat) (hnj : n ≠ j) (hS : SH s0 L s) (hn : L[n]? = some (bldC R hG F sz f xs)) (hj : L[j]? = some dc)
    (hg : guardY ops m g = some true) (hd : Nat.ble (d + 1) nt = true) (h1 : args.toList = [x, y]) (h2 : tys.toList = [tt, tt]) (hx : evY m x = some f) (hy : evY m y = some b) (hT : T tt = some i) (hs : i.sh = .slice e) (he : T e = some ie) (hsz : ie.size = sz) (h0 : sz ≠ 0) (hb : Row s.h sz b [c]) (hc : R s.h dc.F z c)
    (hb1 : (xs.length + 1) * ie.bytes ≤ maxBytes) (hb2 : xs.length + 1 ≤ maxBytes)
    (k : ∀ v s' F', SH s0 ((L.set j emC).set n (bldC R hG F' sz v (xs ++ [z]))) s' → W P T K nt ops rest ((d, v) :: m) s' Q) :
    W P T K nt ops (⟨some d, .call ⟨.builtin .append, args, tys⟩, ty, pos, af, g⟩ :: rest) m s Q := by
  subst hsz
  obtain ⟨css, hr, hnl, hgF, hl, hX⟩ := hS.bld n hn
  refine w_append hg hd h1 h2 hx hy hT hs he h0 hS.ok hr hnl hb (by rw [hl]; exact hb1) (by rw [hl]; exact hb2) ?_
  intro v s' hv hk hle hvg hvn hne
  have hdis := hS.dis n j _ _ hnj hn hj
  have hbn := hS.bd n hn
  have hbj := hS.bd j hj
  have hvl := hv.lt hk.ok
  let F' : Nat → Prop := fun g => F g ∨ dc.F g ∨ (s.ctr ≤ g ∧ g < s'.ctr)
  have hvF : ∀ g ∈ v.gs, F' g := fun g hg => by
    rcases hvg with h | h
    · exact .inl (hgF g (by rwa [h] at hg))
    · refine .inr (.inr ⟨?_, hvl g hg⟩)
      rw [h] at hg; rw [List.mem_singleton.1 hg]; exact Nat.le_refl _
  have hnv : ∀ g, g < s.ctr → g ∉ f.gs → g ∉ v.gs := fun g hg hf hv' => by
    rcases hvg with h | h
    · exact hf (by rwa [h] at hv')
    · rw [h] at hv'; rw [List.mem_singleton.1 hv'] at hg; omega
  have hP : (bldC R hG F' ie.size v (xs ++ [z])).P s'.h := by
    refine ⟨css ++ [c], hv, hvn, hvF, by simp [hl], fun i x c' h1' h2' => ?_⟩
    by_cases hi : i < xs.length
    · rw [List.getElem?_append_left hi] at h1'
      rw [List.getElem?_append_left (by omega)] at h2'
      exact hG.mono (hG.keep (hX i x c' h1' h2') hk fun g hg hF => hF.2 hg) fun g hF => ⟨.inl hF.1, hnv g (hbn g hF.1).2 hF.2⟩
    · have hlt := (List.getElem?_eq_some_iff.1 h1').1
      rw [List.length_append, List.length_singleton] at hlt
      have e : i = xs.length := by omega
      subst e
      rw [List.getElem?_append_right (Nat.le_refl _)] at h1'
      rw [List.getElem?_append_right (by omega)] at h2'
      simp at h1'
      rw [hl] at h2'
      simp at h2'
      subst h1' h2'
      exact hG.mono (hG.keep hc hk fun g hg hF => hdis g (hgF g hg) hF) fun g hF => ⟨.inr (.inl hF), hnv g (hbj g hF).2 fun hf => hdis g (hgF g hf) hF⟩
  have hm := hS.mrg n j hnj hn hj (anyC fun g => F g ∨ dc.F g) trivial fun g hg => hg
  have hg' : ((L.set j emC).set n (anyC fun g => F g ∨ dc.F g))[n]? = some (anyC fun g => F g ∨ dc.F g) := by
    rw [List.getElem?_set_self]
    rw [List.length_set]
    exact (List.getElem?_eq_some_iff.1 hn).1
  have := hm.upd n hg' hk (fun g hg => .inl (hgF g hg)) (bldC R hG F' ie.size v (xs ++ [z])) hP fun g hg => by
    rcases hg with h | h | h
    · exact .inl (.inl h)
    · exact .inl (.inr h)
    · exact .inr h
  rw [List.set_set] at this
  exact k v s' F' this
end
end Go.Ab
/- Labels within labels; what Bind asks of two functions, and how it turns an instruction. -/
namespace Go.Ab
def InU64 (a : Int) : Prop := 0 ≤ a ∧ a < 18446744073709551616
def wI (a b : Int) : Bool := IntKind.u64.wrap ((BitVec.ofInt 64 a &&& ~~~ BitVec.ofInt 64 b).toNat : Int) == 0
def hasI (a : Int) (k : Nat) : Bool := IntKind.u64.wrap ((BitVec.ofInt 64 (a.fdiv (2 ^ (min k 64))) &&& BitVec.ofInt 64 1).toNat : Int) == 1
theorem wrapNat {n : Nat} (h : n < 2 ^ 64) : IntKind.u64.wrap (n : Int) = n := wrapU64 (by omega) (by omega)
theorem wI_bits (a b : Int) : wI a b = true ↔ ∀ k, k < 64 → (BitVec.ofInt 64 a).getLsbD k = true → (BitVec.ofInt 64 b).getLsbD k = true := by
  unfold wI
  rw [wrapNat (BitVec.isLt _), beq_iff_eq]
  have : (((BitVec.ofInt 64 a &&& ~~~ BitVec.ofInt 64 b).toNat : Int) = 0) ↔ (BitVec.ofInt 64 a &&& ~~~ BitVec.ofInt 64 b) = 0#64 := by
    constructor
    · intro h
      apply BitVec.eq_of_toNat_eq
      simpa using h
    · intro h; rw [h]; rfl
  rw [this]
  constructor
  · intro h k hk ha
    have e := congrArg (fun x : BitVec 64 => x.getLsbD k) h
    simp only [BitVec.getLsbD_and, BitVec.getLsbD_not, BitVec.getLsbD_zero, ha, hk, decide_true, Bool.true_and] at e
    simpa using e
  · intro h
    apply BitVec.eq_of_getLsbD_eq
    intro k hk
    simp only [BitVec.getLsbD_and, BitVec.getLsbD_not, BitVec.getLsbD_zero, hk, decide_true, Bool.true_and]
    cases e : (BitVec.ofInt 64 a).getLsbD k with
    | false => rfl
    | true => rw [h k hk e]; rfl
theorem hasI_bit {a : Int} (ha : InU64 a) {k : Nat} (hk : k < 64) : hasI a k = (BitVec.ofInt 64 a).getLsbD k := by
  obtain ⟨n, rfl⟩ : ∃ n : Nat, a = n := ⟨a.toNat, by have := ha.1; omega⟩
  have hn : n < 2 ^ 64 := by have := ha.2; omega
  unfold hasI
  rw [Nat.min_eq_left (by omega)]
  have e1 : ((n : Int).fdiv (2 ^ k)) = ((n >>> k : Nat) : Int) := by
    rw [Nat.shiftRight_eq_div_pow, show (2 : Int) ^ k = ((2 ^ k : Nat) : Int) from (Int.natCast_pow 2 k).symm]
    rw [Int.fdiv_eq_ediv_of_nonneg _ (Int.natCast_nonneg _), Int.natCast_ediv]
  rw [e1, wrapNat (BitVec.isLt _)]
  have e2 : BitVec.ofInt 64 (n : Int) = BitVec.ofNat 64 n := rfl
  have e3 : BitVec.ofInt 64 ((n >>> k : Nat) : Int) = BitVec.ofNat 64 (n >>> k) := rfl
  rw [e2, e3]
  have e4 : (BitVec.ofNat 64 (n >>> k) &&& BitVec.ofInt 64 1).toNat = (n >>> k) % 2 := by
    have : BitVec.ofInt 64 1 = 1#64 := rfl
    rw [this, BitVec.toNat_and, BitVec.toNat_ofNat, BitVec.toNat_ofNat]
    rw [Nat.mod_eq_of_lt (Nat.lt_of_le_of_lt (Nat.shiftRight_le n k) hn)]
    exact Nat.and_one_is_mod _
  rw [e4]
  rw [BitVec.getLsbD_ofNat]
  simp only [hk, decide_true, Bool.true_and]
  rw [Nat.testBit_eq_decide_div_mod_eq, Nat.shiftRight_eq_div_pow]
  rw [Bool.eq_iff_iff]
  simp only [beq_iff_eq, decide_eq_true_eq]
  omega
theorem wI_has {a b : Int} (ha : InU64 a) (hb : InU64 b) : wI a b = true ↔ ∀ k, k < 64 → hasI a k = true → hasI b k = true := by
  rw [wI_bits]
  constructor
  · intro h k hk h1
    rw [hasI_bit ha hk] at h1
    rw [hasI_bit hb hk]
    exact h k hk h1
  · intro h k hk h1
    have := h k hk
    rw [hasI_bit ha hk, hasI_bit hb hk] at this
    exact this h1
open Go.Proofs
theorem shr_u64 {T : Tab} {xt : TypeId} {k' : IntKind} {a : Int} (k : Nat) : binA T .shr xt (.int .u64 a) (.int k' (k : Nat)) = some (.int .u64 (a.fdiv (2 ^ (min k 64)))) := by
  have h : ¬ ((k : Nat) : Int) < 0 := by omega
  simp only [binA, shiftA, if_neg h, Int.toNat_natCast]
  rfl
def allW (xs ys : List Int) : Bool := xs.length == ys.length && (xs.zip ys).all fun p => wI p.1 p.2
theorem allW_len {xs ys : List Int} (h : ¬ xs.length = ys.length) : allW xs ys = false := by simp [allW, h]
theorem allW_no {xs ys : List Int} {i : Nat} {x y : Int} (hx : xs[i]? = some x) (hy : ys[i]? = some y) (h : wI x y = false) : allW xs ys = false := by
  unfold allW
  have : ((xs.zip ys).all fun p => wI p.1 p.2) = false := by
    rw [List.all_eq_false]
    exact ⟨(x, y), List.mem_of_getElem? (i := i) (by rw [List.getElem?_zip_eq_some]; exact ⟨hx, hy⟩), by simp [h]⟩
  rw [this, Bool.and_false]
theorem allW_yes {xs ys : List Int} (hl : xs.length = ys.length) (h : ∀ (j : Nat) (x y : Int), xs[j]? = some x → ys[j]? = some y → wI x y = true) : allW xs ys = true := by
  unfold allW
  rw [hl, beq_self_eq_true, Bool.true_and, List.all_eq_true]
  intro p hp
  obtain ⟨j, hj⟩ := List.getElem?_of_mem hp
  rw [List.getElem?_zip_eq_some] at hj
  exact h j _ _ hj.1 hj.2
set_option maxRecDepth 10000 in
set_option maxHeartbeats 8000000 in
theorem within_ok {s : St} {a b : Int} : CallS Try.prog Tt Kt 105 [.int .u64 a, .int .u64 b] s (fun r s' => s' = s ∧ r = .bool (wI a b)) := by
  refine call_of (fn := Try.f105) (nt := 9) Try.func105 rfl rfl rfl ?_
  repeat refine wc_seq ?_
  refine wc_region ?_
  refine w_val rfl rfl (op_pure rfl) ?_
  refine w_nil ?_
  refine then_n ?_
  repeat refine wc_seq ?_
  refine wc_region ?_
  refine w_val rfl rfl (op_pure rfl) ?_
  refine w_val rfl rfl (op_pure rfl) ?_
  refine w_val rfl rfl (op_pure rfl) ?_
  refine w_val rfl rfl (op_pure rfl) ?_
  refine w_val rfl rfl (op_pure rfl) ?_
  refine w_nil ?_
  refine then_n ?_
  refine wc_ret ?_
  repeat first | refine then_r ?_ | refine out_r ?_ | refine round_r ?_ | refine cut_r ?_ | refine sc_r ?_
  exact ⟨_, rfl, rfl, rfl⟩
set_option maxRecDepth 10000 in
set_option maxHeartbeats 8000000 in
theorem has_ok {s : St} {a : Int} {k : Nat} (hk : k < 64) : CallS Try.prog Tt Kt 106 [.int .u64 a, .int .i64 (k : Nat)] s (fun r s' => s' = s ∧ r = .bool (hasI a k)) := by
  refine call_of (fn := Try.f106) (nt := 19) Try.func106 rfl rfl rfl ?_
  repeat refine wc_seq ?_
  refine wc_region ?_
  refine w_val rfl rfl (op_pure rfl) ?_
  refine w_nil ?_
  refine then_n ?_
  repeat refine wc_seq ?_
  refine wc_region ?_
  refine w_val rfl rfl (op_pure rfl) ?_
  refine w_val rfl rfl (op_int (v := .bool true) rfl rfl (by decide) (by simp [intA])) ?_
  refine w_val rfl rfl (op_pure rfl) ?_
  refine w_val rfl rfl (op_pure rfl) ?_
  refine w_val rfl rfl (op_int (v := .bool true) rfl rfl (by decide) (by simp [intA]; omega)) ?_
  refine w_val rfl rfl (op_pure rfl) ?_
  refine w_val rfl rfl (op_pure rfl) ?_
  refine w_val rfl rfl (op_pure rfl) ?_
  refine w_val rfl rfl (op_pure rfl) ?_
  refine w_val rfl rfl (op_cv (r := (k : Nat)) rfl rfl rfl rfl rfl (wrapU64 (by omega) (by omega))) ?_
  refine w_val rfl rfl (op_bin rfl rfl (shr_u64 k)) ?_
  refine w_val rfl rfl (op_pure rfl) ?_
  refine w_val rfl rfl (op_pure rfl) ?_
  refine w_val rfl rfl (op_pure rfl) ?_
  refine w_val rfl rfl (op_pure rfl) ?_
  refine w_nil ?_
  refine then_n ?_
  refine wc_ret ?_
  repeat first | refine then_r ?_ | refine out_r ?_ | refine round_r ?_ | refine cut_r ?_ | refine sc_r ?_
  exact ⟨_, rfl, rfl, rfl⟩
set_option maxRecDepth 10000 in
set_option maxHeartbeats 8000000 in
theorem within_ref_ok {s : St} {a b : Int} (ha : InU64 a) (hb : InU64 b) : CallS Try.prog Tt Kt 88 [.int .u64 a, .int .u64 b] s (fun r s' => s' = s ∧ r = .bool (wI a b)) := by
  refine call_of (fn := Try.f88) (nt := 19) Try.func88 rfl rfl rfl ?_
  repeat refine wc_seq ?_
  refine wc_region ?_
  refine w_val rfl rfl (op_pure rfl) ?_
  refine w_nil ?_
  refine then_n ?_
  repeat refine wc_seq ?_
  refine wc_region ?_
  refine w_val rfl rfl (op_pure rfl) ?_
  refine w_nil ?_
  refine then_n ?_
  repeat refine wc_seq ?_
  refine wc_block ?_
  refine wc_loop_at (fun j m z => ∃ k : Nat, j = 64 - k ∧ k ≤ 64 ∧ m = [(0, .int .u64 a), (1, .int .u64 b), (5, .int .i64 (k : Nat))] ∧ s = z ∧ ∀ j, j < k → hasI a j = true → hasI b j = true) 64
    [(0, .int .u64 a), (1, .int .u64 b), (5, .int .i64 ((0 : Nat) : Int))] (Sub.cons rfl (Sub.cons rfl (Sub.cons rfl (Sub.nil _)))) ⟨0, by simp, by simp, rfl, rfl, fun j h => by omega⟩ ?_
  rintro j m _ ⟨k, rfl, hk, rfl, rfl, hI⟩
  repeat refine wc_seq ?_
  refine wc_region ?_
  refine w_val rfl rfl (op_pure rfl) ?_
  refine w_val rfl rfl (op_pure rfl) ?_
  refine w_nil ?_
  refine then_n ?_
  repeat refine wc_seq ?_
  refine wc_condT rfl (fun h7 => ?_) (fun h7 => ?_)
  · simp only [decide_eq_true_eq] at h7
    refine wc_skip ?_
    refine then_n ?_
    repeat refine wc_seq ?_
    refine wc_block ?_
    repeat refine wc_seq ?_
    refine wc_region ?_
    refine w_val rfl rfl (op_pure rfl) ?_
    refine w_val rfl rfl (op_pure rfl) ?_
    refine w_call rfl rfl (op_call rfl rfl rfl rfl) (has_ok (by omega)) ?_
    rintro _ _ ⟨rfl, rfl⟩
    refine w_val rfl rfl (op_pure rfl) ?_
    refine w_split (i := 13) rfl (fun h13 => ?_) (fun h13 => ?_)
    · skip
      refine w_val rfl rfl (op_pure rfl) ?_
      refine w_val rfl rfl (op_pure rfl) ?_
      refine w_call rfl rfl (op_call rfl rfl rfl rfl) (has_ok (by omega)) ?_
      rintro _ _ ⟨rfl, rfl⟩
      refine w_val rfl rfl (op_pure rfl) ?_
      refine w_val rfl rfl (op_pure rfl) ?_
      refine w_nil ?_
      refine then_n ?_
      refine wc_condT rfl (fun h18 => ?_) (fun h18 => ?_)
      · simp only [Bool.not_eq_true'] at h18
        have hW : wI a b = false := by
          cases e : wI a b with
          | false => rfl
          | true => rw [(wI_has ha hb).1 e k (by omega) h13] at h18; cases h18
        repeat refine wc_seq ?_
        refine wc_region ?_
        refine w_val rfl rfl (op_pure rfl) ?_
        refine w_nil ?_
        refine then_n ?_
        refine wc_ret ?_
        repeat first | refine then_r ?_ | refine out_r ?_ | refine round_r ?_ | refine cut_r ?_ | refine sc_r ?_
        exact ⟨_, rfl, rfl, by rw [hW]; rfl⟩
      simp only [Bool.not_eq_false'] at h18
      refine wc_skip ?_
      refine out_n ?_
      refine then_n ?_
      refine wc_region ?_
      refine w_val rfl rfl (op_pure rfl) ?_
      refine w_val rfl rfl (op_add rfl rfl (by unfold In64; omega)) ?_
      refine w_val rfl rfl (op_pure rfl) ?_
      refine w_nil ?_
      exact round_n _ _ (by omega) (Sub.cons rfl (Sub.cons rfl (Sub.cons rfl (Sub.nil _)))) ⟨k + 1, rfl, by omega, rfl, rfl, fun j hj h => (Nat.lt_succ_iff_lt_or_eq.1 hj).elim (fun h1 => hI j h1 h) (fun e => by subst e; exact h18)⟩
    skip
    refine w_off rfl rfl ?_
    refine w_off rfl rfl ?_
    refine w_off rfl rfl ?_
    refine w_off rfl rfl ?_
    refine w_val rfl rfl (op_pure rfl) ?_
    refine w_nil ?_
    refine then_n ?_
    refine wc_cond_f rfl ?_
    refine wc_skip ?_
    refine out_n ?_
    refine then_n ?_
    refine wc_region ?_
    refine w_val rfl rfl (op_pure rfl) ?_
    refine w_val rfl rfl (op_add rfl rfl (by unfold In64; omega)) ?_
    refine w_val rfl rfl (op_pure rfl) ?_
    refine w_nil ?_
    exact round_n _ _ (by omega) (Sub.cons rfl (Sub.cons rfl (Sub.cons rfl (Sub.nil _)))) ⟨k + 1, rfl, by omega, rfl, rfl, fun j hj h => (Nat.lt_succ_iff_lt_or_eq.1 hj).elim (fun h1 => hI j h1 h) (fun e => by subst e; rw [h] at h13; cases h13)⟩
  simp only [decide_eq_false_iff_not] at h7
  obtain rfl : k = 64 := by omega
  have hW : wI a b = true := (wI_has ha hb).2 hI
  refine wc_exit ?_
  repeat first | refine then_x ?_ | refine round_x ?_ | refine cut_x ?_ | refine out_x' (by decide) ?_
  refine out_x ?_
  refine then_n ?_
  repeat refine wc_seq ?_
  refine wc_region ?_
  refine w_val rfl rfl (op_pure rfl) ?_
  refine w_nil ?_
  refine then_n ?_
  refine wc_ret ?_
  repeat first | refine then_r ?_ | refine out_r ?_ | refine round_r ?_ | refine cut_r ?_ | refine sc_r ?_
  exact ⟨_, rfl, rfl, by rw [hW]; rfl⟩
set_option maxRecDepth 10000 in
set_option maxHeartbeats 8000000 in
theorem equalW_ok {s : St} {vx vy : AV} {xs ys : List Int} (hx : Row s.h 1 vx (xs.map lC)) (hy : Row s.h 1 vy (ys.map lC)) (hl : xs.length ≤ 2097152) : CallS Try.prog Tt Kt 104 [vx, vy, .fn 105 []] s (fun r s' => s' = s ∧ r = .bool (allW xs ys)) := by
  refine call_of (fn := Try.f104) (nt := 32) Try.func104 rfl rfl rfl ?_
  repeat refine wc_seq ?_
  refine wc_region ?_
  refine w_val rfl rfl (op_pure rfl) ?_
  refine w_nil ?_
  refine then_n ?_
  repeat refine wc_seq ?_
  refine wc_region ?_
  refine w_val rfl rfl (op_pure rfl) ?_
  refine w_val rfl rfl (op_len rfl rfl rfl rfl rfl hx.slenF) ?_
  refine w_val rfl rfl (op_pure rfl) ?_
  refine w_val rfl rfl (op_len rfl rfl rfl rfl rfl hy.slenF) ?_
  refine w_val rfl rfl (op_pure rfl) ?_
  refine w_nil ?_
  refine then_n ?_
  repeat refine wc_seq ?_
  refine wc_condT rfl (fun h14 => ?_) (fun h14 => ?_)
  · simp only [bne_iff_ne, ne_eq] at h14
    have hW := allW_len (xs := xs) (ys := ys) (by omega)
    repeat refine wc_seq ?_
    refine wc_region ?_
    refine w_val rfl rfl (op_pure rfl) ?_
    refine w_nil ?_
    refine then_n ?_
    refine wc_ret ?_
    repeat first | refine then_r ?_ | refine out_r ?_ | refine round_r ?_ | refine cut_r ?_ | refine sc_r ?_
    exact ⟨_, rfl, rfl, by rw [hW]; rfl⟩
  simp only [bne_eq_false_iff_eq] at h14
  have hyl : xs.length = ys.length := by omega
  refine wc_skip ?_
  refine then_n ?_
  repeat refine wc_seq ?_
  refine wc_region ?_
  refine w_val rfl rfl (op_pure rfl) ?_
  refine w_val rfl rfl (op_len rfl rfl rfl rfl rfl hx.slenF) ?_
  refine w_val rfl rfl (op_pure rfl) ?_
  refine w_nil ?_
  refine then_n ?_
  repeat refine wc_seq ?_
  refine wc_block ?_
  refine wc_loop_at (fun j m z => ∃ k : Nat, j = xs.length - k ∧ k ≤ xs.length ∧ m = [(0, vx), (1, vy), (2, .fn 105 []), (6, .bool false), (15, vx), (16, .int .i64 (xs.length : Nat)), (17, .int .i64 (k : Nat))] ∧ s = z ∧ ∀ (j : Nat) (x y : Int), xs[j]? = some x → ys[j]? = some y → j < k → wI x y = true) xs.length
    [(0, vx), (1, vy), (2, .fn 105 []), (6, .bool false), (15, vx), (16, .int .i64 (xs.length : Nat)), (17, .int .i64 ((0 : Nat) : Int))] (Sub.cons rfl (Sub.cons rfl (Sub.cons rfl (Sub.cons rfl (Sub.cons rfl (Sub.cons rfl (Sub.cons rfl (Sub.nil _)))))))) ⟨0, by simp, by simp, rfl, rfl, fun j x y _ _ h => by omega⟩ ?_
  rintro j m _ ⟨k, rfl, hk, rfl, rfl, hI⟩
  repeat refine wc_seq ?_
  refine wc_region ?_
  refine w_val rfl rfl (op_pure rfl) ?_
  refine w_nil ?_
  refine then_n ?_
  repeat refine wc_seq ?_
  refine wc_condT rfl (fun h18 => ?_) (fun h18 => ?_)
  · simp only [decide_eq_true_eq] at h18
    refine wc_skip ?_
    refine then_n ?_
    repeat refine wc_seq ?_
    refine wc_block ?_
    repeat refine wc_seq ?_
    obtain ⟨x, hxi⟩ : ∃ x, xs[k]? = some x := ⟨_, List.getElem?_eq_getElem (by omega)⟩
    obtain ⟨y, hyi⟩ : ∃ x, ys[k]? = some x := ⟨_, List.getElem?_eq_getElem (by omega)⟩
    refine wc_region ?_
    refine w_val rfl rfl (op_pure rfl) ?_
    refine w_val rfl rfl (op_idxF rfl rfl (natA_cast _ _) rfl rfl rfl rfl hx (by omega)) ?_
    refine w_val rfl rfl (op_load rfl rfl (Row.mk_pt hx hxi) rfl) ?_
    refine w_val rfl rfl (op_pure rfl) ?_
    refine w_val rfl rfl (op_pure rfl) ?_
    refine w_nil ?_
    refine then_n ?_
    repeat refine wc_seq ?_
    refine wc_region ?_
    refine w_val rfl rfl (op_pure rfl) ?_
    refine w_val rfl rfl (op_pure rfl) ?_
    refine w_val rfl rfl (op_idxF rfl rfl (natA_cast _ _) rfl rfl rfl rfl hy (by omega)) ?_
    refine w_val rfl rfl (op_load rfl rfl (Row.mk_pt hy hyi) rfl) ?_
    refine w_val rfl rfl (op_pure rfl) ?_
    refine w_nil ?_
    refine then_n ?_
    repeat refine wc_seq ?_
    refine wc_region ?_
    refine w_val rfl rfl (op_pure rfl) ?_
    refine w_val rfl rfl (op_pure rfl) ?_
    refine w_val rfl rfl (op_pure rfl) ?_
    refine w_call rfl rfl (op_call rfl rfl rfl rfl) (within_ok (a := x) (b := y)) ?_
    rintro _ _ ⟨rfl, rfl⟩
    refine w_val rfl rfl (op_pure rfl) ?_
    refine w_nil ?_
    refine then_n ?_
    refine wc_condT rfl (fun h30 => ?_) (fun h30 => ?_)
    · simp only [Bool.not_eq_true'] at h30
      have hW := allW_no hxi hyi h30
      repeat refine wc_seq ?_
      refine wc_region ?_
      refine w_val rfl rfl (op_pure rfl) ?_
      refine w_nil ?_
      refine then_n ?_
      refine wc_ret ?_
      repeat first | refine then_r ?_ | refine out_r ?_ | refine round_r ?_ | refine cut_r ?_ | refine sc_r ?_
      exact ⟨_, rfl, rfl, by rw [hW]; rfl⟩
    simp only [Bool.not_eq_false'] at h30
    refine wc_skip ?_
    refine out_n ?_
    refine then_n ?_
    refine wc_region ?_
    refine w_val rfl rfl (op_add rfl rfl (by unfold In64; omega)) ?_
    refine w_val rfl rfl (op_pure rfl) ?_
    refine w_nil ?_
    exact round_n _ _ (by omega) (Sub.cons rfl (Sub.cons rfl (Sub.cons rfl (Sub.cons rfl (Sub.cons rfl (Sub.cons rfl (Sub.cons rfl (Sub.nil _)))))))) ⟨k + 1, rfl, by omega, rfl, rfl, fun j x y hx hy hj => by
      rcases Nat.lt_succ_iff_lt_or_eq.1 hj with h1 | rfl
      · exact hI j x y hx hy h1
      · rw [hxi] at hx; rw [hyi] at hy; cases hx; cases hy; exact h30⟩
  simp only [decide_eq_false_iff_not] at h18
  obtain rfl : k = xs.length := by omega
  have hW : allW xs ys = true := allW_yes hyl fun j x y hx hy => hI j x y hx hy (List.getElem?_eq_some_iff.1 hx).1
  refine wc_exit ?_
  repeat first | refine then_x ?_ | refine round_x ?_ | refine cut_x ?_ | refine out_x' (by decide) ?_
  refine out_x ?_
  refine then_n ?_
  repeat refine wc_seq ?_
  refine wc_region ?_
  refine w_val rfl rfl (op_pure rfl) ?_
  refine w_nil ?_
  refine then_n ?_
  refine wc_ret ?_
  repeat first | refine then_r ?_ | refine out_r ?_ | refine round_r ?_ | refine cut_r ?_ | refine sc_r ?_
  exact ⟨_, rfl, rfl, by rw [hW]; rfl⟩
set_option maxRecDepth 10000 in
set_option maxHeartbeats 8000000 in
theorem allW_ref_ok {s : St} {vx vy : AV} {xs ys : List Int} (_hok : s.Ok) (hx : Row s.h 1 vx (xs.map lC)) (hy : Row s.h 1 vy (ys.map lC)) (hl : xs.length ≤ 2097152) (hux : ∀ x ∈ xs, InU64 x) (huy : ∀ y ∈ ys, InU64 y) : CallS Try.prog Tt Kt 87 [vx, vy] s (fun r s' => s' = s ∧ r = .bool (allW xs ys)) := by
  refine call_of (fn := Try.f87) (nt := 27) Try.func87 rfl rfl rfl ?_
  repeat refine wc_seq ?_
  refine wc_region ?_
  refine w_val rfl rfl (op_pure rfl) ?_
  refine w_nil ?_
  refine then_n ?_
  repeat refine wc_seq ?_
  refine wc_region ?_
  refine w_val rfl rfl (op_pure rfl) ?_
  refine w_val rfl rfl (op_len rfl rfl rfl rfl rfl hx.slenF) ?_
  refine w_val rfl rfl (op_pure rfl) ?_
  refine w_val rfl rfl (op_len rfl rfl rfl rfl rfl hy.slenF) ?_
  refine w_val rfl rfl (op_pure rfl) ?_
  refine w_nil ?_
  refine then_n ?_
  repeat refine wc_seq ?_
  refine wc_condT rfl (fun h10 => ?_) (fun h10 => ?_)
  · simp only [bne_iff_ne, ne_eq] at h10
    have hW := allW_len (xs := xs) (ys := ys) (by omega)
    repeat refine wc_seq ?_
    refine wc_region ?_
    refine w_val rfl rfl (op_pure rfl) ?_
    refine w_nil ?_
    refine then_n ?_
    refine wc_ret ?_
    repeat first | refine then_r ?_ | refine out_r ?_ | refine round_r ?_ | refine cut_r ?_ | refine sc_r ?_
    exact ⟨_, rfl, rfl, by rw [hW]; rfl⟩
  simp only [bne_eq_false_iff_eq] at h10
  have hyl : xs.length = ys.length := by omega
  refine wc_skip ?_
  refine then_n ?_
  repeat refine wc_seq ?_
  refine wc_region ?_
  refine w_val rfl rfl (op_pure rfl) ?_
  refine w_nil ?_
  refine then_n ?_
  repeat refine wc_seq ?_
  refine wc_block ?_
  refine wc_loop_at (fun j m z => ∃ k : Nat, j = xs.length - k ∧ k ≤ xs.length ∧ m = [(0, vx), (1, vy), (5, .int .i64 (k : Nat))] ∧ s = z ∧ ∀ (j : Nat) (x y : Int), xs[j]? = some x → ys[j]? = some y → j < k → wI x y = true) xs.length
    [(0, vx), (1, vy), (5, .int .i64 ((0 : Nat) : Int))] (Sub.cons rfl (Sub.cons rfl (Sub.cons rfl (Sub.nil _)))) ⟨0, by simp, by simp, rfl, rfl, fun j x y _ _ h => by omega⟩ ?_
  rintro j m _ ⟨k, rfl, hk, rfl, rfl, hI⟩
  repeat refine wc_seq ?_
  refine wc_region ?_
  refine w_val rfl rfl (op_pure rfl) ?_
  refine w_val rfl rfl (op_pure rfl) ?_
  refine w_val rfl rfl (op_len rfl rfl rfl rfl rfl hx.slenF) ?_
  refine w_val rfl rfl (op_pure rfl) ?_
  refine w_nil ?_
  refine then_n ?_
  repeat refine wc_seq ?_
  refine wc_condT rfl (fun h14 => ?_) (fun h14 => ?_)
  · simp only [decide_eq_true_eq] at h14
    refine wc_skip ?_
    refine then_n ?_
    repeat refine wc_seq ?_
    refine wc_block ?_
    repeat refine wc_seq ?_
    obtain ⟨x, hxi⟩ : ∃ x, xs[k]? = some x := ⟨_, List.getElem?_eq_getElem (by omega)⟩
    obtain ⟨y, hyi⟩ : ∃ x, ys[k]? = some x := ⟨_, List.getElem?_eq_getElem (by omega)⟩
    refine wc_draw (fun _ => True) (by kernel_rfl) rfl ?_
    refine wd_val (fun _ => trivial) rfl rfl (op_pure rfl) ?_
    refine wd_val (fun _ => trivial) rfl rfl (op_pure rfl) ?_
    refine wd_val (fun _ => trivial) rfl rfl (op_idxF rfl rfl (natA_cast _ _) rfl rfl rfl rfl (Row.bare hx) (by omega)) ?_
    refine wd_val (fun _ => trivial) rfl rfl (op_load rfl rfl (Pt.bare (Row.mk_pt hx hxi)) rfl) ?_
    refine wd_val (fun _ => trivial) rfl rfl (op_pure rfl) ?_
    refine wd_val (fun _ => trivial) rfl rfl (op_pure rfl) ?_
    refine wd_val (fun _ => trivial) rfl rfl (op_idxF rfl rfl (natA_cast _ _) rfl rfl rfl rfl (Row.bare hy) (by omega)) ?_
    refine wd_val (fun _ => trivial) rfl rfl (op_load rfl rfl (Pt.bare (Row.mk_pt hy hyi)) rfl) ?_
    refine wd_call (fun _ => trivial) rfl rfl (op_call rfl rfl rfl rfl) (within_ref_ok (a := x) (b := y) (hux x (List.mem_of_getElem? hxi)) (huy y (List.mem_of_getElem? hyi))) ?_
    rintro _ rfl
    refine wd_val (fun _ => trivial) rfl rfl (op_pure rfl) ?_
    refine wd_nil ?_
    refine then_n ?_
    refine wc_condT rfl (fun h26 => ?_) (fun h26 => ?_)
    · simp only [Bool.not_eq_true'] at h26
      have hW := allW_no hxi hyi h26
      repeat refine wc_seq ?_
      refine wc_region ?_
      refine w_val rfl rfl (op_pure rfl) ?_
      refine w_nil ?_
      refine then_n ?_
      refine wc_ret ?_
      repeat first | refine then_r ?_ | refine out_r ?_ | refine round_r ?_ | refine cut_r ?_ | refine sc_r ?_
      exact ⟨_, rfl, rfl, by rw [hW]; rfl⟩
    simp only [Bool.not_eq_false'] at h26
    refine wc_skip ?_
    refine out_n ?_
    refine then_n ?_
    refine wc_region ?_
    refine w_val rfl rfl (op_pure rfl) ?_
    refine w_val rfl rfl (op_add rfl rfl (by unfold In64; omega)) ?_
    refine w_val rfl rfl (op_pure rfl) ?_
    refine w_nil ?_
    exact round_n _ _ (by omega) (Sub.cons rfl (Sub.cons rfl (Sub.cons rfl (Sub.nil _)))) ⟨k + 1, rfl, by omega, rfl, rfl, fun j x y hx hy hj => by
      rcases Nat.lt_succ_iff_lt_or_eq.1 hj with h1 | rfl
      · exact hI j x y hx hy h1
      · rw [hxi] at hx; rw [hyi] at hy; cases hx; cases hy; exact h26⟩
  simp only [decide_eq_false_iff_not] at h14
  obtain rfl : k = xs.length := by omega
  have hW : allW xs ys = true := allW_yes hyl fun j x y hx hy => hI j x y hx hy (List.getElem?_eq_some_iff.1 hx).1
  refine wc_exit ?_
  repeat first | refine then_x ?_ | refine round_x ?_ | refine cut_x ?_ | refine out_x' (by decide) ?_
  refine out_x ?_
  refine then_n ?_
  repeat refine wc_seq ?_
  refine wc_region ?_
  refine w_val rfl rfl (op_pure rfl) ?_
  refine w_nil ?_
  refine then_n ?_
  refine wc_ret ?_
  repeat first | refine then_r ?_ | refine out_r ?_ | refine round_r ?_ | refine cut_r ?_ | refine sc_r ?_
  exact ⟨_, rfl, rfl, by rw [hW]; rfl⟩
def standsB (x y : FuncL) : Bool := allW x.params y.params && (allW y.results x.results && wI x.level y.level)
set_option maxRecDepth 10000 in
set_option maxHeartbeats 8000000 in
theorem stands_ok {s : St} {ca cb : List AV} {x y : FuncL} (hok : s.Ok) (hx : x.small) (hy : y.small) (hva : FuncR s.h x ca) (hvb : FuncR s.h y cb) : CallS Try.prog Tt Kt 83 [.agg ca, .agg cb] s (fun r s' => Keep [] s s' ∧ r = .bool (standsB x y)) := by
  have hza := hva.leaf.2
  have hzb := hvb.leaf.2
  obtain ⟨vap, var, vac, rfl, hap, har, hac⟩ := hva
  obtain ⟨vbp, vbr, vbc, rfl, hbp, hbr, hbc⟩ := hvb
  refine call_of (fn := Try.f83) (nt := 24) Try.func83 rfl rfl rfl ?_
  repeat refine wc_seq ?_
  have hS := SH.start hok
  refine wc_region ?_
  refine ws_box hS rfl rfl rfl hza ?_
  rintro p0 z hS hk
  have hS : SH s [_] z := hS
  have hK := hS.K
  refine ws_box hS rfl rfl rfl hzb ?_
  rintro p1 z hS hk
  have hS : SH s [_, _] z := hS
  have hK := hS.K
  refine w_val rfl rfl (op_pure rfl) ?_
  refine w_nil ?_
  refine then_n ?_
  repeat refine wc_seq ?_
  refine wc_region ?_
  refine w_val rfl rfl (op_fldP rfl rfl rfl rfl (by decide)) ?_
  refine w_val rfl rfl (op_loadC 0 hS rfl rfl rfl (Nat.le_of_ble_eq_true rfl) rfl) ?_
  refine w_val rfl rfl (op_fldP rfl rfl rfl rfl (by decide)) ?_
  refine w_val rfl rfl (op_loadC 1 hS rfl rfl rfl (Nat.le_of_ble_eq_true rfl) rfl) ?_
  refine w_call rfl rfl (op_call rfl rfl rfl rfl) (equalW_ok (hap.keep0 hK) (hbp.keep0 hK) hx.1) ?_
  rintro _ _ ⟨rfl, rfl⟩
  refine w_val rfl rfl (op_pure rfl) ?_
  refine w_split (i := 10) rfl (fun h10 => ?_) (fun h10 => ?_)
  · skip
    refine w_val rfl rfl (op_fldP rfl rfl rfl rfl (by decide)) ?_
    refine w_val rfl rfl (op_loadC 1 hS rfl rfl rfl (Nat.le_of_ble_eq_true rfl) rfl) ?_
    refine w_val rfl rfl (op_fldP rfl rfl rfl rfl (by decide)) ?_
    refine w_val rfl rfl (op_loadC 0 hS rfl rfl rfl (Nat.le_of_ble_eq_true rfl) rfl) ?_
    refine w_call rfl rfl (op_call rfl rfl rfl rfl) (equalW_ok (hbr.keep0 hK) (har.keep0 hK) hy.2.1) ?_
    rintro _ _ ⟨rfl, rfl⟩
    refine w_val rfl rfl (op_pure rfl) ?_
    refine w_val rfl rfl (op_pure rfl) ?_
    refine w_split (i := 17) rfl (fun h17 => ?_) (fun h17 => ?_)
    · skip
      refine w_val rfl rfl (op_fldP rfl rfl rfl rfl (by decide)) ?_
      refine w_val rfl rfl (op_loadC 0 hS rfl rfl rfl (Nat.le_of_ble_eq_true rfl) rfl) ?_
      refine w_val rfl rfl (op_fldP rfl rfl rfl rfl (by decide)) ?_
      refine w_val rfl rfl (op_loadC 1 hS rfl rfl rfl (Nat.le_of_ble_eq_true rfl) rfl) ?_
      refine w_call rfl rfl (op_call rfl rfl rfl rfl) (within_ok (a := x.level) (b := y.level)) ?_
      rintro _ _ ⟨rfl, rfl⟩
      refine w_val rfl rfl (op_pure rfl) ?_
      refine w_val rfl rfl (op_pure rfl) ?_
      refine w_nil ?_
      refine then_n ?_
      refine wc_ret ?_
      repeat first | refine then_r ?_ | refine out_r ?_ | refine round_r ?_ | refine cut_r ?_ | refine sc_r ?_
      exact ⟨_, rfl, hK, by unfold standsB; rw [h10, h17]; rfl⟩
    skip
    refine w_off rfl rfl ?_
    refine w_off rfl rfl ?_
    refine w_off rfl rfl ?_
    refine w_off rfl rfl ?_
    refine w_off rfl rfl ?_
    refine w_val rfl rfl (op_pure rfl) ?_
    refine w_val rfl rfl (op_pure rfl) ?_
    refine w_nil ?_
    refine then_n ?_
    refine wc_ret ?_
    repeat first | refine then_r ?_ | refine out_r ?_ | refine round_r ?_ | refine cut_r ?_ | refine sc_r ?_
    exact ⟨_, rfl, hK, by unfold standsB; rw [h10, h17]; rfl⟩
  skip
  refine w_off rfl rfl ?_
  refine w_off rfl rfl ?_
  refine w_off rfl rfl ?_
  refine w_off rfl rfl ?_
  refine w_off rfl rfl ?_
  refine w_val rfl rfl (op_pure rfl) ?_
  refine w_val rfl rfl (op_pure rfl) ?_
  refine w_off rfl rfl ?_
  refine w_off rfl rfl ?_
  refine w_off rfl rfl ?_
  refine w_off rfl rfl ?_
  refine w_off rfl rfl ?_
  refine w_val rfl rfl (op_pure rfl) ?_
  refine w_val rfl rfl (op_pure rfl) ?_
  refine w_nil ?_
  refine then_n ?_
  refine wc_ret ?_
  repeat first | refine then_r ?_ | refine out_r ?_ | refine round_r ?_ | refine cut_r ?_ | refine sc_r ?_
  exact ⟨_, rfl, hK, by unfold standsB; rw [h10]; rfl⟩
def bindI (f g : Int) (y : InstrL) : InstrL := if y.op = 45 ∧ y.a = f then ⟨y.op, g⟩ else y
set_option maxRecDepth 10000 in
set_option maxHeartbeats 8000000 in
theorem bind1_ok {s : St} {y : InstrL} {pf pg : AV} {f g : Int} (hok : s.Ok) (hpf : Pt s.h pf [.int .i64 f]) (hpg : Pt s.h pg [.int .i64 g]) : CallS Try.prog Tt Kt 84 [.agg (inC y), pf, pg] s (fun r s' => Keep [] s s' ∧ r = .agg (inC (bindI f g y))) := by
  refine call_of (fn := Try.f84) (nt := 17) Try.func84 rfl rfl rfl ?_
  repeat refine wc_seq ?_
  have hS := SH.start hok
  refine wc_region ?_
  refine ws_box hS rfl rfl rfl (by rfl) ?_
  rintro p0 z hS hk
  have hS : SH s [_] z := hS
  have hK := hS.K
  refine ws_alloc hS rfl rfl rfl rfl ?_
  rintro p1 z hS hk
  have hS : SH s [_, _] z := hS
  have hK := hS.K
  refine w_nil ?_
  refine then_n ?_
  repeat refine wc_seq ?_
  refine wc_region ?_
  refine w_val rfl rfl (op_fldP rfl rfl rfl rfl (by decide)) ?_
  refine w_val rfl rfl (op_loadC 0 hS rfl rfl rfl (Nat.le_of_ble_eq_true rfl) rfl) ?_
  refine w_val rfl rfl (op_pure rfl) ?_
  refine w_val rfl rfl (op_pure rfl) ?_
  refine w_split (i := 8) rfl (fun h8 => ?_) (fun h8 => ?_)
  · simp only [beq_iff_eq] at h8
    refine w_val rfl rfl (op_fldP rfl rfl rfl rfl (by decide)) ?_
    refine w_val rfl rfl (op_loadC 0 hS rfl rfl rfl (Nat.le_of_ble_eq_true rfl) rfl) ?_
    refine w_val rfl rfl (op_load rfl rfl (hpf.keep0 hK) rfl) ?_
    refine w_val rfl rfl (op_pure rfl) ?_
    refine w_val rfl rfl (op_pure rfl) ?_
    refine w_nil ?_
    refine then_n ?_
    repeat refine wc_seq ?_
    refine wc_condT rfl (fun h13 => ?_) (fun h13 => ?_)
    · simp only [beq_iff_eq] at h13
      refine wc_region ?_
      refine w_val rfl rfl (op_load rfl rfl (hpg.keep0 hK) rfl) ?_
      refine w_val rfl rfl (op_fldP rfl rfl rfl rfl (by decide)) ?_
      refine ws_storeL 0 hS rfl rfl rfl rfl rfl rfl (by rfl) (Nat.le_of_ble_eq_true rfl) ?_
      rintro z hS
      have hS : SH s [_, _] z := hS
      have hK := hS.K
      refine w_nil ?_
      refine then_n ?_
      repeat refine wc_seq ?_
      refine wc_region ?_
      refine w_val rfl rfl (op_loadC 0 hS rfl rfl rfl (Nat.le_of_ble_eq_true rfl) rfl) ?_
      refine ws_store 1 hS rfl rfl rfl rfl rfl rfl (by rfl) (Nat.le_of_ble_eq_true rfl) ?_
      rintro z hS
      have hS : SH s [_, _] z := hS
      have hK := hS.K
      refine w_nil ?_
      refine then_n ?_
      refine wc_ret ?_
      repeat first | refine then_r ?_ | refine out_r ?_ | refine round_r ?_ | refine cut_r ?_ | refine sc_r ?_
      exact ⟨_, res_cell rfl rfl (hS.pt 1 rfl) rfl, hK, by rw [bindI, if_pos ⟨h8, h13⟩]; rfl⟩
    simp only [beq_eq_false_iff_ne, ne_eq] at h13
    refine wc_skip ?_
    refine then_n ?_
    repeat refine wc_seq ?_
    refine wc_region ?_
    refine w_val rfl rfl (op_loadC 0 hS rfl rfl rfl (Nat.le_of_ble_eq_true rfl) rfl) ?_
    refine ws_store 1 hS rfl rfl rfl rfl rfl rfl (by rfl) (Nat.le_of_ble_eq_true rfl) ?_
    rintro z hS
    have hS : SH s [_, _] z := hS
    have hK := hS.K
    refine w_nil ?_
    refine then_n ?_
    refine wc_ret ?_
    repeat first | refine then_r ?_ | refine out_r ?_ | refine round_r ?_ | refine cut_r ?_ | refine sc_r ?_
    exact ⟨_, res_cell rfl rfl (hS.pt 1 rfl) rfl, hK, by rw [bindI, if_neg (fun h => h13 h.2)]; rfl⟩
  simp only [beq_eq_false_iff_ne, ne_eq] at h8
  refine w_off rfl rfl ?_
  refine w_off rfl rfl ?_
  refine w_off rfl rfl ?_
  refine w_off rfl rfl ?_
  refine w_val rfl rfl (op_pure rfl) ?_
  refine w_nil ?_
  refine then_n ?_
  repeat refine wc_seq ?_
  refine wc_cond_f rfl ?_
  refine wc_skip ?_
  refine then_n ?_
  repeat refine wc_seq ?_
  refine wc_region ?_
  refine w_val rfl rfl (op_loadC 0 hS rfl rfl rfl (Nat.le_of_ble_eq_true rfl) rfl) ?_
  refine ws_store 1 hS rfl rfl rfl rfl rfl rfl (by rfl) (Nat.le_of_ble_eq_true rfl) ?_
  rintro z hS
  have hS : SH s [_, _] z := hS
  have hK := hS.K
  refine w_nil ?_
  refine then_n ?_
  refine wc_ret ?_
  repeat first | refine then_r ?_ | refine out_r ?_ | refine round_r ?_ | refine cut_r ?_ | refine sc_r ?_
  exact ⟨_, res_cell rfl rfl (hS.pt 1 rfl) rfl, hK, by rw [bindI, if_neg (fun h => h8 h.1)]; rfl⟩
end Go.Ab
/- link.Bind. -/
namespace Go.Ab
open Go.Proofs
def fnAt (m : ModL) (f : Int) : FuncL := (m.funcs[f.toNat]?).getD ⟨0, [], [], 0, 0, []⟩
theorem fnAt_of {m : ModL} {i : Nat} {x : FuncL} (h : m.funcs[i]? = some x) : fnAt m (i : Nat) = x := by
  unfold fnAt; rw [Int.toNat_natCast, h]; rfl
def bindE (m : ModL) (f g : Int) : Int := if okM m = false ∨ f < 0 ∨ (m.funcs.length : Int) ≤ f ∨ g < 0 ∨ (m.funcs.length : Int) ≤ g then 1 else if standsB (fnAt m f) (fnAt m g) = false then 270 else 0
def bindF (f g : Int) (x : FuncL) : FuncL := turnC (bindI f g) x
def bindM (m : ModL) (f g : Int) : ModL := if bindE m f g = 0 then ⟨m.globals, m.arrays, m.channels, m.funcs.map (bindF f g)⟩ else ⟨[], [], [], []⟩
theorem bindE_err {m : ModL} {f g : Int} (h : okM m = false ∨ f < 0 ∨ (m.funcs.length : Int) ≤ f ∨ g < 0 ∨ (m.funcs.length : Int) ≤ g) : bindE m f g = 1 := if_pos h
theorem bindE_no {m : ModL} {f g : Int} (h : ¬ (okM m = false ∨ f < 0 ∨ (m.funcs.length : Int) ≤ f ∨ g < 0 ∨ (m.funcs.length : Int) ≤ g)) (k : standsB (fnAt m f) (fnAt m g) = false) : bindE m f g = 270 := by
  unfold bindE; rw [if_neg h, if_pos k]
theorem bindE_ok {m : ModL} {f g : Int} (h : ¬ (okM m = false ∨ f < 0 ∨ (m.funcs.length : Int) ≤ f ∨ g < 0 ∨ (m.funcs.length : Int) ≤ g)) (k : standsB (fnAt m f) (fnAt m g) = true) : bindE m f g = 0 := by
  unfold bindE; rw [if_neg h, if_neg (by rw [k]; decide)]
theorem bindO_err {h : Tr Grp} {m : ModL} {f g : Int} (k : ¬ bindE m f g = 0) : ModO h (bindM m f g) ⟨.nils, .nils, .nils, .nils, []⟩ := by
  rw [show bindM m f g = ⟨[], [], [], []⟩ from if_neg k]
  exact ModO.empty h
set_option maxRecDepth 10000 in
set_option maxHeartbeats 8000000 in
theorem bind_ok {s : St} {ca : List AV} {mm : ModL} {f g : Int} (hok : s.Ok) (hmm : mm.small) (hva' : ModLR s.h mm ca) :
    CallS Try.prog Tt Kt 34 [.agg ca, .int .i64 f, .int .i64 g] s (fun r s' => Keep [] s s' ∧ ∃ M : MemM, r = .tup [.agg M.cells, .int .i64 (bindE mm f g)] ∧ ModO s'.h (bindM mm f g) M ∧ ∀ v ∈ M.all, ∀ g ∈ v.gs, s.ctr ≤ g) := by
  have hva := hva'.to
  have hza := hva.leaf.2
  obtain ⟨vga, vaa, vha, vfa, rfl, lga, laa, lha, hfa⟩ := hva'
  have hga := lga.row
  have nghga := lga.ng
  have haa := laa.row
  have nghaa := laa.ng
  have hha := lha.row
  have nghha := lha.ng
  have hfa := hfa.row (R' := FuncLR) fun _ _ h => h
  obtain ⟨cssf, hrf, hlf, hFf⟩ := id hfa
  have hsf : vfa.slen = some mm.funcs.length := by rw [hrf.slen, hlf]
  obtain ⟨hm1, hm2, hm3, hm4, hsm⟩ := id hmm
  refine call_of (fn := Try.f34) (nt := 67) Try.func34 rfl rfl rfl ?_
  repeat refine wc_seq ?_
  have hS := SH.start hok
  refine wc_region ?_
  refine ws_box hS rfl rfl rfl hza ?_
  rintro p0 z hS hk
  have hS : SH s [_] z := hS
  have hK := hS.K
  refine ws_box hS rfl rfl rfl (by rfl) ?_
  rintro p1 z hS hk
  have hS : SH s [_, _] z := hS
  have hK := hS.K
  refine ws_box hS rfl rfl rfl (by rfl) ?_
  rintro p2 z hS hk
  have hS : SH s [_, _, _] z := hS
  have hK := hS.K
  refine ws_alloc hS rfl rfl rfl rfl ?_
  rintro p3 z hS hk
  have hS : SH s [_, _, _, _] z := hS
  have hK := hS.K
  refine w_val rfl rfl (op_pure rfl) ?_
  refine w_nil ?_
  refine then_n ?_
  repeat refine wc_seq ?_
  refine wc_region ?_
  refine w_val rfl rfl (op_fldP rfl rfl rfl rfl (by decide)) ?_
  refine w_val rfl rfl (op_loadC 0 hS rfl rfl rfl (Nat.le_of_ble_eq_true rfl) rfl) ?_
  refine w_val rfl rfl (op_len rfl rfl rfl rfl rfl hsf) ?_
  refine w_val rfl rfl (op_pure rfl) ?_
  refine w_nil ?_
  refine then_n ?_
  repeat refine wc_seq ?_
  refine wc_region ?_
  refine w_val rfl rfl (op_loadC 0 hS rfl rfl rfl (Nat.le_of_ble_eq_true rfl) rfl) ?_
  refine w_call rfl rfl (op_call rfl rfl rfl rfl) (right_ok hK.ok hmm (ModR.keep0 hva hK)) ?_
  rintro _ z ⟨hk, rfl⟩
  have hS := hS.mov hk
  have hK := hS.K
  generalize ra0 : ((checkF mm).1 == 0 && ((checkF mm).2.1 == 0 && ((checkF mm).2.2 == 0 && true))) = ra
  have hra : okM mm = ra := ra0
  refine w_val rfl rfl (op_pure rfl) ?_
  refine w_val rfl rfl (op_pure rfl) ?_
  refine w_split (i := 16) rfl (fun h16 => ?_) (fun h16 => ?_)
  · simp only [Bool.not_eq_true'] at h16
    refine w_off rfl rfl ?_
    refine w_off rfl rfl ?_
    refine w_val rfl rfl (op_pure rfl) ?_
    refine w_val rfl rfl (op_pure rfl) ?_
    refine w_off rfl rfl ?_
    refine w_off rfl rfl ?_
    refine w_off rfl rfl ?_
    refine w_val rfl rfl (op_pure rfl) ?_
    refine w_val rfl rfl (op_pure rfl) ?_
    refine w_off rfl rfl ?_
    refine w_off rfl rfl ?_
    refine w_val rfl rfl (op_pure rfl) ?_
    refine w_val rfl rfl (op_pure rfl) ?_
    refine w_off rfl rfl ?_
    refine w_off rfl rfl ?_
    refine w_off rfl rfl ?_
    refine w_val rfl rfl (op_pure rfl) ?_
    refine w_nil ?_
    refine then_n ?_
    repeat refine wc_seq ?_
    refine wc_cond_t rfl ?_
    repeat refine wc_seq ?_
    refine wc_region ?_
    refine w_val rfl rfl (op_pure rfl) ?_
    refine ws_store 3 hS rfl rfl rfl rfl rfl rfl (by rfl) (Nat.le_of_ble_eq_true rfl) ?_
    rintro z hS
    have hS : SH s [_, _, _, _] z := hS
    have hK := hS.K
    refine w_val rfl rfl (op_pure rfl) ?_
    refine w_nil ?_
    refine then_n ?_
    refine wc_ret ?_
    repeat first | refine then_r ?_ | refine out_r ?_ | refine round_r ?_ | refine cut_r ?_ | refine sc_r ?_
    have hE : bindE mm f g = 1 := bindE_err (.inl (hra.trans (by assumption)))
    exact ⟨_, res_cell2 rfl rfl rfl (hS.pt 3 rfl) rfl, hK, ⟨.nils, .nils, .nils, .nils, []⟩, congrArg (fun e => AV.tup [AV.agg [.nils, .nils, .nils, .nils], .int .i64 e]) hE.symm, bindO_err (by rw [hE]; decide), fun v hv g hg => by simp [MemM.all, MemM.labs, MemM.cods] at hv; subst hv; cases hg⟩
  simp only [Bool.not_eq_false'] at h16
  refine w_val rfl rfl (op_loadC 1 hS rfl rfl rfl (Nat.le_of_ble_eq_true rfl) rfl) ?_
  refine w_val rfl rfl (op_pure rfl) ?_
  refine w_val rfl rfl (op_pure rfl) ?_
  refine w_val rfl rfl (op_pure rfl) ?_
  refine w_split (i := 20) rfl (fun h20 => ?_) (fun h20 => ?_)
  · simp only [decide_eq_true_eq] at h20
    refine w_off rfl rfl ?_
    refine w_off rfl rfl ?_
    refine w_off rfl rfl ?_
    refine w_val rfl rfl (op_pure rfl) ?_
    refine w_val rfl rfl (op_pure rfl) ?_
    refine w_off rfl rfl ?_
    refine w_off rfl rfl ?_
    refine w_val rfl rfl (op_pure rfl) ?_
    refine w_val rfl rfl (op_pure rfl) ?_
    refine w_off rfl rfl ?_
    refine w_off rfl rfl ?_
    refine w_off rfl rfl ?_
    refine w_val rfl rfl (op_pure rfl) ?_
    refine w_nil ?_
    refine then_n ?_
    repeat refine wc_seq ?_
    refine wc_cond_t rfl ?_
    repeat refine wc_seq ?_
    refine wc_region ?_
    refine w_val rfl rfl (op_pure rfl) ?_
    refine ws_store 3 hS rfl rfl rfl rfl rfl rfl (by rfl) (Nat.le_of_ble_eq_true rfl) ?_
    rintro z hS
    have hS : SH s [_, _, _, _] z := hS
    have hK := hS.K
    refine w_val rfl rfl (op_pure rfl) ?_
    refine w_nil ?_
    refine then_n ?_
    refine wc_ret ?_
    repeat first | refine then_r ?_ | refine out_r ?_ | refine round_r ?_ | refine cut_r ?_ | refine sc_r ?_
    have hE : bindE mm f g = 1 := bindE_err (by (right; omega))
    exact ⟨_, res_cell2 rfl rfl rfl (hS.pt 3 rfl) rfl, hK, ⟨.nils, .nils, .nils, .nils, []⟩, congrArg (fun e => AV.tup [AV.agg [.nils, .nils, .nils, .nils], .int .i64 e]) hE.symm, bindO_err (by rw [hE]; decide), fun v hv g hg => by simp [MemM.all, MemM.labs, MemM.cods] at hv; subst hv; cases hg⟩
  simp only [decide_eq_false_iff_not] at h20
  refine w_val rfl rfl (op_loadC 1 hS rfl rfl rfl (Nat.le_of_ble_eq_true rfl) rfl) ?_
  refine w_val rfl rfl (op_pure rfl) ?_
  refine w_val rfl rfl (op_pure rfl) ?_
  refine w_val rfl rfl (op_pure rfl) ?_
  refine w_val rfl rfl (op_pure rfl) ?_
  refine w_split (i := 25) rfl (fun h25 => ?_) (fun h25 => ?_)
  · simp only [decide_eq_true_eq, ge_iff_le] at h25
    refine w_off rfl rfl ?_
    refine w_off rfl rfl ?_
    refine w_val rfl rfl (op_pure rfl) ?_
    refine w_val rfl rfl (op_pure rfl) ?_
    refine w_off rfl rfl ?_
    refine w_off rfl rfl ?_
    refine w_off rfl rfl ?_
    refine w_val rfl rfl (op_pure rfl) ?_
    refine w_nil ?_
    refine then_n ?_
    repeat refine wc_seq ?_
    refine wc_cond_t rfl ?_
    repeat refine wc_seq ?_
    refine wc_region ?_
    refine w_val rfl rfl (op_pure rfl) ?_
    refine ws_store 3 hS rfl rfl rfl rfl rfl rfl (by rfl) (Nat.le_of_ble_eq_true rfl) ?_
    rintro z hS
    have hS : SH s [_, _, _, _] z := hS
    have hK := hS.K
    refine w_val rfl rfl (op_pure rfl) ?_
    refine w_nil ?_
    refine then_n ?_
    refine wc_ret ?_
    repeat first | refine then_r ?_ | refine out_r ?_ | refine round_r ?_ | refine cut_r ?_ | refine sc_r ?_
    have hE : bindE mm f g = 1 := bindE_err (by (right; omega))
    exact ⟨_, res_cell2 rfl rfl rfl (hS.pt 3 rfl) rfl, hK, ⟨.nils, .nils, .nils, .nils, []⟩, congrArg (fun e => AV.tup [AV.agg [.nils, .nils, .nils, .nils], .int .i64 e]) hE.symm, bindO_err (by rw [hE]; decide), fun v hv g hg => by simp [MemM.all, MemM.labs, MemM.cods] at hv; subst hv; cases hg⟩
  simp only [decide_eq_false_iff_not, ge_iff_le] at h25
  refine w_val rfl rfl (op_loadC 2 hS rfl rfl rfl (Nat.le_of_ble_eq_true rfl) rfl) ?_
  refine w_val rfl rfl (op_pure rfl) ?_
  refine w_val rfl rfl (op_pure rfl) ?_
  refine w_val rfl rfl (op_pure rfl) ?_
  refine w_split (i := 29) rfl (fun h29 => ?_) (fun h29 => ?_)
  · simp only [decide_eq_true_eq] at h29
    refine w_off rfl rfl ?_
    refine w_off rfl rfl ?_
    refine w_off rfl rfl ?_
    refine w_val rfl rfl (op_pure rfl) ?_
    refine w_nil ?_
    refine then_n ?_
    repeat refine wc_seq ?_
    refine wc_cond_t rfl ?_
    repeat refine wc_seq ?_
    refine wc_region ?_
    refine w_val rfl rfl (op_pure rfl) ?_
    refine ws_store 3 hS rfl rfl rfl rfl rfl rfl (by rfl) (Nat.le_of_ble_eq_true rfl) ?_
    rintro z hS
    have hS : SH s [_, _, _, _] z := hS
    have hK := hS.K
    refine w_val rfl rfl (op_pure rfl) ?_
    refine w_nil ?_
    refine then_n ?_
    refine wc_ret ?_
    repeat first | refine then_r ?_ | refine out_r ?_ | refine round_r ?_ | refine cut_r ?_ | refine sc_r ?_
    have hE : bindE mm f g = 1 := bindE_err (by (right; omega))
    exact ⟨_, res_cell2 rfl rfl rfl (hS.pt 3 rfl) rfl, hK, ⟨.nils, .nils, .nils, .nils, []⟩, congrArg (fun e => AV.tup [AV.agg [.nils, .nils, .nils, .nils], .int .i64 e]) hE.symm, bindO_err (by rw [hE]; decide), fun v hv g hg => by simp [MemM.all, MemM.labs, MemM.cods] at hv; subst hv; cases hg⟩
  simp only [decide_eq_false_iff_not] at h29
  refine w_val rfl rfl (op_loadC 2 hS rfl rfl rfl (Nat.le_of_ble_eq_true rfl) rfl) ?_
  refine w_val rfl rfl (op_pure rfl) ?_
  refine w_val rfl rfl (op_pure rfl) ?_
  refine w_val rfl rfl (op_pure rfl) ?_
  refine w_nil ?_
  refine then_n ?_
  repeat refine wc_seq ?_
  refine wc_condT rfl (fun h33 => ?_) (fun h33 => ?_)
  · simp only [decide_eq_true_eq, ge_iff_le] at h33
    repeat refine wc_seq ?_
    refine wc_region ?_
    refine w_val rfl rfl (op_pure rfl) ?_
    refine ws_store 3 hS rfl rfl rfl rfl rfl rfl (by rfl) (Nat.le_of_ble_eq_true rfl) ?_
    rintro z hS
    have hS : SH s [_, _, _, _] z := hS
    have hK := hS.K
    refine w_val rfl rfl (op_pure rfl) ?_
    refine w_nil ?_
    refine then_n ?_
    refine wc_ret ?_
    repeat first | refine then_r ?_ | refine out_r ?_ | refine round_r ?_ | refine cut_r ?_ | refine sc_r ?_
    have hE : bindE mm f g = 1 := bindE_err (by (right; omega))
    exact ⟨_, res_cell2 rfl rfl rfl (hS.pt 3 rfl) rfl, hK, ⟨.nils, .nils, .nils, .nils, []⟩, congrArg (fun e => AV.tup [AV.agg [.nils, .nils, .nils, .nils], .int .i64 e]) hE.symm, bindO_err (by rw [hE]; decide), fun v hv g hg => by simp [MemM.all, MemM.labs, MemM.cods] at hv; subst hv; cases hg⟩
  simp only [decide_eq_false_iff_not, ge_iff_le] at h33
  refine wc_skip ?_
  refine then_n ?_
  repeat refine wc_seq ?_
  obtain ⟨i, rfl⟩ : ∃ i : Nat, f = i := ⟨f.toNat, by omega⟩
  obtain ⟨j, rfl⟩ : ∃ j : Nat, g = j := ⟨g.toNat, by omega⟩
  have hok1 : ¬ (okM mm = false ∨ (i : Int) < 0 ∨ (mm.funcs.length : Int) ≤ (i : Int) ∨ (j : Int) < 0 ∨ (mm.funcs.length : Int) ≤ (j : Int)) := by
    rintro (h | h | h | h | h)
    · rw [hra, h16] at h; cases h
    · omega
    · omega
    · omega
    · omega
  obtain ⟨x, hx⟩ : ∃ x, mm.funcs[i]? = some x := ⟨_, List.getElem?_eq_getElem (by omega)⟩
  obtain ⟨y, hy⟩ : ∃ x, mm.funcs[j]? = some x := ⟨_, List.getElem?_eq_getElem (by omega)⟩
  obtain ⟨cx, hcx⟩ : ∃ c, cssf[i]? = some c := ⟨_, List.getElem?_eq_getElem (by omega)⟩
  obtain ⟨cy, hcy⟩ : ∃ c, cssf[j]? = some c := ⟨_, List.getElem?_eq_getElem (by omega)⟩
  have hfx := FuncLR.to x cx (hFf i x cx hx hcx)
  have hfy := FuncLR.to y cy (hFf j y cy hy hcy)
  obtain ⟨x0, x1, x2, x3, x4, x5, rfl⟩ : ∃ y0 y1 y2 y3 y4 y5, cx = [y0, y1, y2, y3, y4, y5] := by
    obtain ⟨w1, w2, w3, e, -⟩ := hfx
    exact ⟨_, _, _, _, _, _, e⟩
  obtain ⟨y0, y1, y2, y3, y4, y5, rfl⟩ : ∃ y0 y1 y2 y3 y4 y5, cy = [y0, y1, y2, y3, y4, y5] := by
    obtain ⟨w1, w2, w3, e, -⟩ := hfy
    exact ⟨_, _, _, _, _, _, e⟩
  have hrz := hrf.keep0 hK
  have hR := Keep.refl (s := z) (hK.ok)
  refine wc_draw (Old z []) (by kernel_rfl) rfl ?_
  refine wo_val (fun _ => rfl) rfl rfl (op_fldP rfl rfl rfl rfl (by decide)) ?_
  refine wo_load hR rfl rfl ((hS.pt 0 rfl).at (Nat.le_of_ble_eq_true rfl)) rfl (fun _ _ h => by cases h) rfl rfl ?_
  refine wo_load hR rfl rfl ((hS.pt 1 rfl).at (Nat.le_of_ble_eq_true rfl)) rfl (fun _ _ h => by cases h) rfl rfl ?_
  refine wo_val (fun _ => rfl) rfl rfl (op_idx rfl rfl (natA_cast _ _) rfl rfl rfl rfl (Row.bare hrz) (by omega)) ?_
  refine wo_load hR rfl rfl (Row.pt hrz hcx) rfl (fun _ _ h => by cases h) rfl rfl ?_
  refine wo_val (fun _ => rfl) rfl rfl (op_fldP rfl rfl rfl rfl (by decide)) ?_
  refine wo_load hR rfl rfl ((hS.pt 0 rfl).at (Nat.le_of_ble_eq_true rfl)) rfl (fun _ _ h => by cases h) rfl rfl ?_
  refine wo_load hR rfl rfl ((hS.pt 2 rfl).at (Nat.le_of_ble_eq_true rfl)) rfl (fun _ _ h => by cases h) rfl rfl ?_
  refine wo_val (fun _ => rfl) rfl rfl (op_idx rfl rfl (natA_cast _ _) rfl rfl rfl rfl (Row.bare hrz) (by omega)) ?_
  refine wo_load hR rfl rfl (Row.pt hrz hcy) rfl (fun _ _ h => by cases h) rfl rfl ?_
  refine wo_call hR rfl rfl (fun _ => rfl) (op_call rfl rfl rfl rfl) (stands_ok hR.ok (hsm x (List.mem_of_getElem? hx)) (hsm y (List.mem_of_getElem? hy)) (FuncR.keep0 (s' := z) hfx hK) (FuncR.keep0 (s' := z) hfy hK)) (fun _ _ h => h.1) ?_
  rintro _ sC ⟨hk, rfl⟩ hRC
  have hS := hS.mov hk.joined
  have hK := hS.K
  generalize sC.join z = z at *
  refine wo_val (fun _ => rfl) rfl rfl (op_pure rfl) ?_
  refine wd_nil ?_
  refine then_n ?_
  repeat refine wc_seq ?_
  refine wc_condT rfl (fun h46 => ?_) (fun h46 => ?_)
  · simp only [Bool.not_eq_true'] at h46
    repeat refine wc_seq ?_
    refine wc_region ?_
    refine w_val rfl rfl (op_pure rfl) ?_
    refine ws_store 3 hS rfl rfl rfl rfl rfl rfl (by rfl) (Nat.le_of_ble_eq_true rfl) ?_
    rintro z hS
    have hS : SH s [_, _, _, _] z := hS
    have hK := hS.K
    refine w_val rfl rfl (op_pure rfl) ?_
    refine w_nil ?_
    refine then_n ?_
    refine wc_ret ?_
    repeat first | refine then_r ?_ | refine out_r ?_ | refine round_r ?_ | refine cut_r ?_ | refine sc_r ?_
    have hE : bindE mm i j = 270 := bindE_no hok1 (by rw [fnAt_of hx, fnAt_of hy]; exact h46)
    exact ⟨_, res_cell2 rfl rfl rfl (hS.pt 3 rfl) rfl, hK, ⟨.nils, .nils, .nils, .nils, []⟩, congrArg (fun e => AV.tup [AV.agg [.nils, .nils, .nils, .nils], .int .i64 e]) hE.symm, bindO_err (by rw [hE]; decide), fun v hv g hg => by simp [MemM.all, MemM.labs, MemM.cods] at hv; subst hv; cases hg⟩
  simp only [Bool.not_eq_false'] at h46
  have hE : bindE mm i j = 0 := bindE_ok hok1 (by rw [fnAt_of hx, fnAt_of hy]; exact h46)
  refine wc_skip ?_
  refine then_n ?_
  repeat refine wc_seq ?_
  refine wc_region ?_
  refine w_val rfl rfl (op_fldP rfl rfl rfl rfl (by decide)) ?_
  refine w_val rfl rfl (op_loadC 0 hS rfl rfl rfl (Nat.le_of_ble_eq_true rfl) rfl) ?_
  refine w_val rfl rfl (op_pure rfl) ?_
  refine w_call rfl rfl (op_call rfl rfl rfl rfl) (all_ok (turn := bindI i j) (l := mm.funcs) hK.ok hm4 hsm (RowR.keep0 FuncLR.keep0 hfa hK) (fun s' x y _ _ hk => bind1_ok hk.ok ((hS.pt 1 rfl).keep0 hk) ((hS.pt 2 rfl).keep0 hk))) ?_
  rintro v6 sD ⟨hkD, qs, hqs, hap6, css6, hr6, hn6, hg6, hl6, hx6⟩
  have hS := hS.add hkD (bldC FuncQ good_q (fun g => z.ctr ≤ g ∧ g < sD.ctr) 6 v6 qs) ⟨css6, hr6, hn6, hg6, hl6, fun i x c k1 k2 => good_q.mono (hx6 i x c k1 k2) fun g k => ⟨⟨k.1, k.2.1⟩, k.2.2⟩⟩ (fun g hg => hg)
  have hS : SH s [_, _, _, _, _] sD := hS
  have ha5 : s.ctr ≤ z.ctr := hK.ctr
  have hK := hS.K
  obtain ⟨a0, ha0⟩ : ∃ a, a = z.ctr := ⟨_, rfl⟩
  obtain ⟨b0, hb0⟩ : ∃ a, a = sD.ctr := ⟨_, rfl⟩
  rw [← ha0, ← hb0] at hap6
  rw [← ha0] at ha5
  clear hr6 hn6 hg6 hl6 hx6 css6
  refine w_val rfl rfl (op_pure rfl) ?_
  refine w_nil ?_
  refine then_n ?_
  repeat refine wc_seq ?_
  have hR := Keep.refl hK.ok
  have hS0 := hS
  have hb5 : b0 ≤ sD.ctr := by omega
  have hx0 : ∀ g ∈ [p0], g ∉ [p3] := fun g hg h => hS0.dis 0 3 _ _ (by decide) rfl rfl g hg h
  refine wc_draw (Old sD [p3]) (by kernel_rfl) rfl ?_
  refine wo_val (fun _ => rfl) rfl rfl (op_fldP rfl rfl rfl rfl (by decide)) ?_
  refine wo_load hR rfl rfl ((hS0.pt 0 rfl).at (Nat.le_of_ble_eq_true rfl)) rfl hx0 rfl rfl ?_
  refine wo_call hR rfl rfl (fun _ => rfl) (op_call rfl rfl rfl rfl) (cloneLabels_ok hR.ok (by rw [List.length_map]; omega) (Row.bare (hga.keep0 hK)) nghga) (fun _ _ h => h.1) ?_
  rintro rg sC ⟨hkC, hrg, hbg, hneg⟩ hR2
  have hk := hkC.joined
  have hrg : Row (sC.join sD).h 1 rg (mm.globals.map lC) := hrg
  have hng : rg.gs = [] → rg = .nils := fun e => (hneg e).elim
  have hbgg : ∀ g ∈ rg.gs, b0 ≤ g := fun g hg => Nat.le_trans (Nat.le_trans hb5 hR.ctr) (hbg g hg)
  have hR := hR2
  have hS := hS.add hk (rowC rg 1 (mm.globals.map lC)) ⟨hrg, hng⟩ (fun g hg => ⟨hbg g hg, hrg.lt hk.ok g hg⟩)
  have hK := hS.K
  clear hbg hneg hkC
  generalize sC.join sD = z at *
  have hS : SH s [_, _, _, _, _, _] z := hS
  refine wo_call hR rfl rfl (fun _ => rfl) (op_call rfl rfl rfl rfl) (clipLabels_ok hrg hng) (fun _ _ h => by rw [h.1]; exact Keep.refl hR.ok) ?_
  rintro _ sC ⟨e1, rfl⟩ hR2
  have hk : Keep [] z (sC.join z) := by rw [e1]; exact (Keep.refl (s := z.bare) hR.ok).joined
  clear e1
  have hR := hR2
  have hS := hS.mov hk
  have hK := hS.K
  have hrg := hrg.keep0 hk
  generalize sC.join z = z at *
  refine wo_val (fun _ => rfl) rfl rfl (op_fldP rfl rfl rfl rfl (by decide)) ?_
  refine wo_load hR rfl rfl ((hS0.pt 0 rfl).at (Nat.le_of_ble_eq_true rfl)) rfl hx0 rfl rfl ?_
  refine wo_call hR rfl rfl (fun _ => rfl) (op_call rfl rfl rfl rfl) (cloneArrays_ok hR.ok (by rw [List.length_map]; omega) (Row.bare (haa.keep0 hK)) nghaa) (fun _ _ h => h.1) ?_
  rintro ra sC ⟨hkC, hra, hba, hnea⟩ hR2
  have hk := hkC.joined
  have hra : Row (sC.join z).h 2 ra (mm.arrays.map aC) := hra
  have hna : ra.gs = [] → ra = .nils := fun e => (hnea e).elim
  have hbag : ∀ g ∈ ra.gs, b0 ≤ g := fun g hg => Nat.le_trans (Nat.le_trans hb5 hR.ctr) (hba g hg)
  have hR := hR2
  have hS := hS.add hk (rowC ra 2 (mm.arrays.map aC)) ⟨hra, hna⟩ (fun g hg => ⟨hba g hg, hra.lt hk.ok g hg⟩)
  have hrg := hrg.keep0 hk
  have hK := hS.K
  clear hba hnea hkC
  generalize sC.join z = z at *
  have hS : SH s [_, _, _, _, _, _, _] z := hS
  refine wo_call hR rfl rfl (fun _ => rfl) (op_call rfl rfl rfl rfl) (clipArrays_ok hra hna) (fun _ _ h => by rw [h.1]; exact Keep.refl hR.ok) ?_
  rintro _ sC ⟨e1, rfl⟩ hR2
  have hk : Keep [] z (sC.join z) := by rw [e1]; exact (Keep.refl (s := z.bare) hR.ok).joined
  clear e1
  have hR := hR2
  have hS := hS.mov hk
  have hK := hS.K
  have hrg := hrg.keep0 hk
  have hra := hra.keep0 hk
  generalize sC.join z = z at *
  refine wo_val (fun _ => rfl) rfl rfl (op_fldP rfl rfl rfl rfl (by decide)) ?_
  refine wo_load hR rfl rfl ((hS0.pt 0 rfl).at (Nat.le_of_ble_eq_true rfl)) rfl hx0 rfl rfl ?_
  refine wo_call hR rfl rfl (fun _ => rfl) (op_call rfl rfl rfl rfl) (cloneLabels_ok hR.ok (by rw [List.length_map]; omega) (Row.bare (hha.keep0 hK)) nghha) (fun _ _ h => h.1) ?_
  rintro rh sC ⟨hkC, hrh, hbh, hneh⟩ hR2
  have hk := hkC.joined
  have hrh : Row (sC.join z).h 1 rh (mm.channels.map lC) := hrh
  have hnh : rh.gs = [] → rh = .nils := fun e => (hneh e).elim
  have hbhg : ∀ g ∈ rh.gs, b0 ≤ g := fun g hg => Nat.le_trans (Nat.le_trans hb5 hR.ctr) (hbh g hg)
  have hR := hR2
  have hS := hS.add hk (rowC rh 1 (mm.channels.map lC)) ⟨hrh, hnh⟩ (fun g hg => ⟨hbh g hg, hrh.lt hk.ok g hg⟩)
  have hrg := hrg.keep0 hk
  have hra := hra.keep0 hk
  have hK := hS.K
  clear hbh hneh hkC
  generalize sC.join z = z at *
  have hS : SH s [_, _, _, _, _, _, _, _] z := hS
  refine wo_call hR rfl rfl (fun _ => rfl) (op_call rfl rfl rfl rfl) (clipLabels_ok hrh hnh) (fun _ _ h => by rw [h.1]; exact Keep.refl hR.ok) ?_
  rintro _ sC ⟨e1, rfl⟩ hR2
  have hk : Keep [] z (sC.join z) := by rw [e1]; exact (Keep.refl (s := z.bare) hR.ok).joined
  clear e1
  have hR := hR2
  have hS := hS.mov hk
  have hK := hS.K
  have hrg := hrg.keep0 hk
  have hra := hra.keep0 hk
  have hrh := hrh.keep0 hk
  generalize sC.join z = z at *
  obtain ⟨css6, hr6, hn6, hg6, hl6, hx6⟩ := hS.bld 4 rfl
  have hlm : ([clipA rg, clipA ra, clipA rh, clipA v6] : List AV).all AV.leaf = true := by simp only [List.all_cons, List.all_nil, hrg.clip.leaf, hra.clip.leaf, hrh.clip.leaf, hr6.clip.leaf]; rfl
  refine wo_val (fun _ => rfl) rfl rfl (op_pure rfl) ?_
  refine wo_call hR rfl rfl (fun _ => rfl) (op_call rfl rfl rfl rfl) (clipFuncs_ok hr6 hn6) (fun _ _ h => by rw [h.1]; exact Keep.refl hR.ok) ?_
  rintro _ sC ⟨e1, rfl⟩ hR2
  have hk : Keep [] z (sC.join z) := by rw [e1]; exact (Keep.refl (s := z.bare) hR.ok).joined
  clear e1
  have hR := hR2
  have hS := hS.mov hk
  have hK := hS.K
  generalize sC.join z = z at *
  refine wo_val (fun _ => rfl) rfl rfl (op_pure (build55 hrg.clip.leaf hra.clip.leaf hrh.clip.leaf hr6.clip.leaf)) ?_
  refine wo_store_all (p := .ptr p3 0 0) hR (fun g hg => hg) rfl rfl rfl rfl rfl (by rfl) hlm (hS.pt 3 rfl) (by simp [AV.gs]) ?_
  rintro z hp hk hc
  have hp : Pt z.h (.ptr p3 0 0) [clipA rg, clipA ra, clipA rh, clipA v6] := hp
  have hS := hS.upd 3 rfl hk (fun g hg => hg) (ptC (.ptr p3 0 0) [clipA rg, clipA ra, clipA rh, clipA v6]) hp (fun g hg => .inl hg)
  have hS : SH s [_, _, _, _, _, _, _, _] z := hS
  have hK := hS.K
  refine wo_val (fun _ => rfl) rfl rfl (op_pure rfl) ?_
  refine wd_nil ?_
  refine then_n ?_
  refine wc_ret ?_
  repeat first | refine then_r ?_ | refine out_r ?_ | refine round_r ?_ | refine cut_r ?_ | refine sc_r ?_
  obtain ⟨css6, hr6, hn6, hg6, hl6, hx6⟩ := hS.bld 4 rfl
  have dg : Dis rg v6 := fun g hg h => hS.dis 5 4 _ _ (by decide) rfl rfl g hg (hg6 g h)
  have da : Dis ra v6 := fun g hg h => hS.dis 6 4 _ _ (by decide) rfl rfl g hg (hg6 g h)
  have dh : Dis rh v6 := fun g hg h => hS.dis 7 4 _ _ (by decide) rfl rfl g hg (hg6 g h)
  have dga : Dis rg ra := fun g hg h => hS.dis 5 6 _ _ (by decide) rfl rfl g hg h
  have dgh : Dis rg rh := fun g hg h => hS.dis 5 7 _ _ (by decide) rfl rfl g hg h
  have dah : Dis ra rh := fun g hg h => hS.dis 6 7 _ _ (by decide) rfl rfl g hg h
  have hgr := (hS.row 5 rfl).clip
  have har := (hS.row 6 rfl).clip
  have hhr := (hS.row 7 rfl).clip
  have hlo : ∀ {w : AV}, (∀ g ∈ w.gs, b0 ≤ g) → ∀ g ∈ (clipA w).gs, b0 ≤ g := fun h g hg => h g (by rwa [clipA_gs] at hg)
  have hnl : ∀ {w : AV}, (w.gs = [] → w = .nils) → (clipA w).gs = [] → clipA w = .nils := fun h e => by rw [clipA_gs] at e; rw [h e]; rfl
  have hmo : bindM mm i j = ⟨mm.globals, mm.arrays, mm.channels, mm.funcs.map (bindF i j)⟩ := if_pos hE
  obtain ⟨fs, hM, hfs⟩ := modO_of (mm := bindM mm i j) (a := a0) (b := b0) (by rw [hmo]; exact hgr) (by rw [hmo]; exact har) (by rw [hmo]; exact hhr) (hr6.clip) hl6
    (fun i q c k1 k2 => good_q.mono (hx6 i q c k1 k2) fun g k => ⟨by rw [ha0]; exact k.1.1, by rw [hb0]; exact k.1.2, by rw [clipA_gs]; exact k.2⟩) hap6 (by rw [hmo]; exact hqs)
    (dis_clip2 dg) (dis_clip2 da) (dis_clip2 dh) (dis_clip2 dga) (dis_clip2 dgh) (dis_clip2 dah) (hlo hbgg) (hlo hbag) (hlo hbhg)
    (hnl (hS.nls 5 rfl)) (hnl (hS.nls 6 rfl)) (hnl (hS.nls 7 rfl)) (hnl hn6)
  refine ⟨_, res_cell2 rfl rfl rfl (hS.pt 3 rfl) rfl, hK, ⟨clipA rg, clipA ra, clipA rh, clipA v6, fs⟩, congrArg (fun e => AV.tup [AV.agg [clipA rg, clipA ra, clipA rh, clipA v6], .int .i64 e]) hE.symm, hM, fun v hv g hg => ?_⟩
  have h5 := hS.bd 4 rfl
  have hb9 : ∀ g ∈ rg.gs, s.ctr ≤ g ∧ _ := hS.bd 5 rfl
  have hb10 : ∀ g ∈ ra.gs, s.ctr ≤ g ∧ _ := hS.bd 6 rfl
  have hb11 : ∀ g ∈ rh.gs, s.ctr ≤ g ∧ _ := hS.bd 7 rfl
  simp only [MemM.all, MemM.labs, MemM.cods, List.cons_append, List.mem_cons, List.mem_append, List.mem_flatMap, List.mem_map, List.not_mem_nil, or_false] at hv
  rcases hv with rfl | rfl | rfl | rfl | ⟨q, hq, rfl | rfl⟩ | ⟨q, hq, rfl⟩
  · rw [clipA_gs] at hg; exact (hb10 g hg).1
  · rw [clipA_gs] at hg; exact (h5 g (hg6 g hg)).1
  · rw [clipA_gs] at hg; exact (hb9 g hg).1
  · rw [clipA_gs] at hg; exact (hb11 g hg).1
  · exact Nat.le_trans ha5 (hfs q hq _ (List.mem_cons_self ..) g hg).1
  · exact Nat.le_trans ha5 (hfs q hq _ (List.mem_cons_of_mem _ (List.mem_cons_self ..)) g hg).1
  · exact Nat.le_trans ha5 (hfs q hq _ (List.mem_cons_of_mem _ (List.mem_cons_of_mem _ (List.mem_cons_self ..))) g hg).1
end Go.Ab
/- The document's Bind. -/
namespace Go.Ab
open Go.Proofs
/-- A function whose labels are as they came in, and whose code is new. -/
def FuncE (s : St) : RP FuncL := fun h F x c => ∃ vp vr vc, c = [.int .u64 x.level, vp, vr, .int .i64 x.locals, .int .i64 x.stack, vc] ∧ Row s.h 1 vp (x.params.map lC) ∧ Row s.h 1 vr (x.results.map lC) ∧ Row h 2 vc (x.code.map inC) ∧ ∀ g ∈ vc.gs, F g
theorem good_e (s : St) : Good (FuncE s) where
  keep := fun ⟨vp, vr, vc, e, h1, h2, h3, f3⟩ h hY => ⟨vp, vr, vc, e, h1, h2, h3.keep h fun g hg hy => hY g hy (f3 g hg), f3⟩
  mono := fun ⟨vp, vr, vc, e, h1, h2, h3, f3⟩ h => ⟨vp, vr, vc, e, h1, h2, h3, fun g hg => h g (f3 g hg)⟩
theorem standsB_no {x y : FuncL} (h : allW x.params y.params = false ∨ allW y.results x.results = false ∨ wI x.level y.level = false) : standsB x y = false := by
  unfold standsB
  rcases h with h | h | h <;> simp [h]
theorem standsB_yes {x y : FuncL} (h1 : allW x.params y.params = true) (h2 : allW y.results x.results = true) (h3 : wI x.level y.level = true) : standsB x y = true := by
  unfold standsB; rw [h1, h2, h3]; rfl
theorem bindR_err {h : Tr Grp} {m : ModL} {f g : Int} (k : ¬ bindE m f g = 0) : ModR h (bindM m f g) [.nils, .nils, .nils, .nils] := by
  rw [show bindM m f g = ⟨[], [], [], []⟩ from if_neg k]
  exact ⟨_, _, _, _, rfl, rfl, rfl, rfl, [], rfl, rfl, fun i x c h => by simp at h⟩
theorem snoc_map {α β γ : Type} {xs : List α} {k : Nat} {x : α} (h : xs[k]? = some x) (f : α → β) (g : β → γ) : ((xs.take (k + 1)).map f).map g = ((xs.take k).map f).map g ++ [g (f x)] := by
  rw [← take_snoc h]; simp
theorem snoc_map1 {α β : Type} {xs : List α} {k : Nat} {x : α} (h : xs[k]? = some x) (f : α → β) : (xs.take (k + 1)).map f = (xs.take k).map f ++ [f x] := by
  rw [← take_snoc h]; simp
def LabIn (x : FuncL) : Prop := InU64 x.level ∧ (∀ l ∈ x.params, InU64 l) ∧ ∀ l ∈ x.results, InU64 l
set_option maxRecDepth 10000 in
set_option maxHeartbeats 8000000 in
theorem bind_ref_ok {s : St} {ca : List AV} {mm : ModL} {f g : Int} (hok : s.Ok) (hmm : mm.small) (hva : ModR s.h mm ca) (hlab : ∀ x ∈ mm.funcs, LabIn x) :
    CallS Try.prog Tt Kt 35 [.agg ca, .int .i64 f, .int .i64 g] s (fun r s' => Keep [] s s' ∧ ∃ c', r = .tup [.agg c', .int .i64 (bindE mm f g)] ∧ ModR s'.h (bindM mm f g) c') := by
  have hza := hva.leaf.2
  obtain ⟨vga, vaa, vha, vfa, rfl, hvg, hvaa, hvh, cssf, hrf, hlf, hFf⟩ := id hva
  have hsf : vfa.slen = some mm.funcs.length := by rw [hrf.slen, hlf]
  obtain ⟨hm1, hm2, hm3, hm4, hsm⟩ := id hmm
  refine call_of (fn := Try.f35) (nt := 123) Try.func35 rfl rfl rfl ?_
  repeat refine wc_seq ?_
  have hS := SH.start hok
  refine wc_region ?_
  refine ws_box hS rfl rfl rfl hza ?_
  rintro p0 z hS hk
  have hS : SH s [_] z := hS
  have hK := hS.K
  refine ws_alloc hS rfl rfl rfl rfl ?_
  rintro p1 z hS hk
  have hS : SH s [_, _] z := hS
  have hK := hS.K
  refine w_val rfl rfl (op_pure rfl) ?_
  refine w_nil ?_
  refine then_n ?_
  repeat refine wc_seq ?_
  refine wc_region ?_
  refine w_val rfl rfl (op_fldP rfl rfl rfl rfl (by decide)) ?_
  refine w_val rfl rfl (op_loadC 0 hS rfl rfl rfl (Nat.le_of_ble_eq_true rfl) rfl) ?_
  refine w_val rfl rfl (op_len rfl rfl rfl rfl rfl hsf) ?_
  refine w_val rfl rfl (op_pure rfl) ?_
  refine w_nil ?_
  refine then_n ?_
  repeat refine wc_seq ?_
  refine wc_region ?_
  refine w_val rfl rfl (op_loadC 0 hS rfl rfl rfl (Nat.le_of_ble_eq_true rfl) rfl) ?_
  refine w_call rfl rfl (op_call rfl rfl rfl rfl) (right_ref_ok hK.ok hmm (ModR.keep0 hva hK)) ?_
  rintro _ z ⟨hk, rfl⟩
  have hS := hS.mov hk
  have hK := hS.K
  generalize ra0 : ((checkF mm).1 == 0 && ((checkF mm).2.1 == 0 && ((checkF mm).2.2 == 0 && true))) = ra
  have hra : okM mm = ra := ra0
  refine w_val rfl rfl (op_pure rfl) ?_
  refine w_val rfl rfl (op_pure rfl) ?_
  refine w_split (i := 23) rfl (fun h23 => ?_) (fun h23 => ?_)
  · simp only [Bool.not_eq_true'] at h23
    refine w_off rfl rfl ?_
    refine w_off rfl rfl ?_
    refine w_val rfl rfl (op_pure rfl) ?_
    refine w_val rfl rfl (op_pure rfl) ?_
    refine w_off rfl rfl ?_
    refine w_off rfl rfl ?_
    refine w_off rfl rfl ?_
    refine w_val rfl rfl (op_pure rfl) ?_
    refine w_val rfl rfl (op_pure rfl) ?_
    refine w_off rfl rfl ?_
    refine w_off rfl rfl ?_
    refine w_val rfl rfl (op_pure rfl) ?_
    refine w_val rfl rfl (op_pure rfl) ?_
    refine w_off rfl rfl ?_
    refine w_off rfl rfl ?_
    refine w_off rfl rfl ?_
    refine w_val rfl rfl (op_pure rfl) ?_
    refine w_nil ?_
    refine then_n ?_
    repeat refine wc_seq ?_
    refine wc_cond_t rfl ?_
    repeat refine wc_seq ?_
    refine wc_region ?_
    refine w_val rfl rfl (op_pure rfl) ?_
    refine ws_store 1 hS rfl rfl rfl rfl rfl rfl (by rfl) (Nat.le_of_ble_eq_true rfl) ?_
    rintro z hS
    have hS : SH s [_, _] z := hS
    have hK := hS.K
    refine w_val rfl rfl (op_pure rfl) ?_
    refine w_nil ?_
    refine then_n ?_
    refine wc_ret ?_
    repeat first | refine then_r ?_ | refine out_r ?_ | refine round_r ?_ | refine cut_r ?_ | refine sc_r ?_
    have hE : bindE mm f g = 1 := bindE_err (.inl (hra.trans (by assumption)))
    exact ⟨_, res_cell2 rfl rfl rfl (hS.pt 1 rfl) rfl, hK, _, congrArg (fun e => AV.tup [AV.agg [.nils, .nils, .nils, .nils], .int .i64 e]) hE.symm, bindR_err (by rw [hE]; decide)⟩
  simp only [Bool.not_eq_false'] at h23
  refine w_val rfl rfl (op_pure rfl) ?_
  refine w_val rfl rfl (op_pure rfl) ?_
  refine w_val rfl rfl (op_pure rfl) ?_
  refine w_val rfl rfl (op_pure rfl) ?_
  refine w_split (i := 27) rfl (fun h27 => ?_) (fun h27 => ?_)
  · simp only [decide_eq_true_eq] at h27
    refine w_off rfl rfl ?_
    refine w_off rfl rfl ?_
    refine w_off rfl rfl ?_
    refine w_val rfl rfl (op_pure rfl) ?_
    refine w_val rfl rfl (op_pure rfl) ?_
    refine w_off rfl rfl ?_
    refine w_off rfl rfl ?_
    refine w_val rfl rfl (op_pure rfl) ?_
    refine w_val rfl rfl (op_pure rfl) ?_
    refine w_off rfl rfl ?_
    refine w_off rfl rfl ?_
    refine w_off rfl rfl ?_
    refine w_val rfl rfl (op_pure rfl) ?_
    refine w_nil ?_
    refine then_n ?_
    repeat refine wc_seq ?_
    refine wc_cond_t rfl ?_
    repeat refine wc_seq ?_
    refine wc_region ?_
    refine w_val rfl rfl (op_pure rfl) ?_
    refine ws_store 1 hS rfl rfl rfl rfl rfl rfl (by rfl) (Nat.le_of_ble_eq_true rfl) ?_
    rintro z hS
    have hS : SH s [_, _] z := hS
    have hK := hS.K
    refine w_val rfl rfl (op_pure rfl) ?_
    refine w_nil ?_
    refine then_n ?_
    refine wc_ret ?_
    repeat first | refine then_r ?_ | refine out_r ?_ | refine round_r ?_ | refine cut_r ?_ | refine sc_r ?_
    have hE : bindE mm f g = 1 := bindE_err (by (right; omega))
    exact ⟨_, res_cell2 rfl rfl rfl (hS.pt 1 rfl) rfl, hK, _, congrArg (fun e => AV.tup [AV.agg [.nils, .nils, .nils, .nils], .int .i64 e]) hE.symm, bindR_err (by rw [hE]; decide)⟩
  simp only [decide_eq_false_iff_not] at h27
  refine w_val rfl rfl (op_pure rfl) ?_
  refine w_val rfl rfl (op_pure rfl) ?_
  refine w_val rfl rfl (op_pure rfl) ?_
  refine w_val rfl rfl (op_pure rfl) ?_
  refine w_val rfl rfl (op_pure rfl) ?_
  refine w_split (i := 32) rfl (fun h32 => ?_) (fun h32 => ?_)
  · simp only [decide_eq_true_eq, ge_iff_le] at h32
    refine w_off rfl rfl ?_
    refine w_off rfl rfl ?_
    refine w_val rfl rfl (op_pure rfl) ?_
    refine w_val rfl rfl (op_pure rfl) ?_
    refine w_off rfl rfl ?_
    refine w_off rfl rfl ?_
    refine w_off rfl rfl ?_
    refine w_val rfl rfl (op_pure rfl) ?_
    refine w_nil ?_
    refine then_n ?_
    repeat refine wc_seq ?_
    refine wc_cond_t rfl ?_
    repeat refine wc_seq ?_
    refine wc_region ?_
    refine w_val rfl rfl (op_pure rfl) ?_
    refine ws_store 1 hS rfl rfl rfl rfl rfl rfl (by rfl) (Nat.le_of_ble_eq_true rfl) ?_
    rintro z hS
    have hS : SH s [_, _] z := hS
    have hK := hS.K
    refine w_val rfl rfl (op_pure rfl) ?_
    refine w_nil ?_
    refine then_n ?_
    refine wc_ret ?_
    repeat first | refine then_r ?_ | refine out_r ?_ | refine round_r ?_ | refine cut_r ?_ | refine sc_r ?_
    have hE : bindE mm f g = 1 := bindE_err (by (right; omega))
    exact ⟨_, res_cell2 rfl rfl rfl (hS.pt 1 rfl) rfl, hK, _, congrArg (fun e => AV.tup [AV.agg [.nils, .nils, .nils, .nils], .int .i64 e]) hE.symm, bindR_err (by rw [hE]; decide)⟩
  simp only [decide_eq_false_iff_not, ge_iff_le] at h32
  refine w_val rfl rfl (op_pure rfl) ?_
  refine w_val rfl rfl (op_pure rfl) ?_
  refine w_val rfl rfl (op_pure rfl) ?_
  refine w_val rfl rfl (op_pure rfl) ?_
  refine w_split (i := 36) rfl (fun h36 => ?_) (fun h36 => ?_)
  · simp only [decide_eq_true_eq] at h36
    refine w_off rfl rfl ?_
    refine w_off rfl rfl ?_
    refine w_off rfl rfl ?_
    refine w_val rfl rfl (op_pure rfl) ?_
    refine w_nil ?_
    refine then_n ?_
    repeat refine wc_seq ?_
    refine wc_cond_t rfl ?_
    repeat refine wc_seq ?_
    refine wc_region ?_
    refine w_val rfl rfl (op_pure rfl) ?_
    refine ws_store 1 hS rfl rfl rfl rfl rfl rfl (by rfl) (Nat.le_of_ble_eq_true rfl) ?_
    rintro z hS
    have hS : SH s [_, _] z := hS
    have hK := hS.K
    refine w_val rfl rfl (op_pure rfl) ?_
    refine w_nil ?_
    refine then_n ?_
    refine wc_ret ?_
    repeat first | refine then_r ?_ | refine out_r ?_ | refine round_r ?_ | refine cut_r ?_ | refine sc_r ?_
    have hE : bindE mm f g = 1 := bindE_err (by (right; omega))
    exact ⟨_, res_cell2 rfl rfl rfl (hS.pt 1 rfl) rfl, hK, _, congrArg (fun e => AV.tup [AV.agg [.nils, .nils, .nils, .nils], .int .i64 e]) hE.symm, bindR_err (by rw [hE]; decide)⟩
  simp only [decide_eq_false_iff_not] at h36
  refine w_val rfl rfl (op_pure rfl) ?_
  refine w_val rfl rfl (op_pure rfl) ?_
  refine w_val rfl rfl (op_pure rfl) ?_
  refine w_val rfl rfl (op_pure rfl) ?_
  refine w_nil ?_
  refine then_n ?_
  repeat refine wc_seq ?_
  refine wc_condT rfl (fun h40 => ?_) (fun h40 => ?_)
  · simp only [decide_eq_true_eq, ge_iff_le] at h40
    repeat refine wc_seq ?_
    refine wc_region ?_
    refine w_val rfl rfl (op_pure rfl) ?_
    refine ws_store 1 hS rfl rfl rfl rfl rfl rfl (by rfl) (Nat.le_of_ble_eq_true rfl) ?_
    rintro z hS
    have hS : SH s [_, _] z := hS
    have hK := hS.K
    refine w_val rfl rfl (op_pure rfl) ?_
    refine w_nil ?_
    refine then_n ?_
    refine wc_ret ?_
    repeat first | refine then_r ?_ | refine out_r ?_ | refine round_r ?_ | refine cut_r ?_ | refine sc_r ?_
    have hE : bindE mm f g = 1 := bindE_err (by (right; omega))
    exact ⟨_, res_cell2 rfl rfl rfl (hS.pt 1 rfl) rfl, hK, _, congrArg (fun e => AV.tup [AV.agg [.nils, .nils, .nils, .nils], .int .i64 e]) hE.symm, bindR_err (by rw [hE]; decide)⟩
  simp only [decide_eq_false_iff_not, ge_iff_le] at h40
  refine wc_skip ?_
  refine then_n ?_
  repeat refine wc_seq ?_
  obtain ⟨i, rfl⟩ : ∃ i : Nat, f = i := ⟨f.toNat, by omega⟩
  obtain ⟨j, rfl⟩ : ∃ j : Nat, g = j := ⟨g.toNat, by omega⟩
  have hok1 : ¬ (okM mm = false ∨ (i : Int) < 0 ∨ (mm.funcs.length : Int) ≤ (i : Int) ∨ (j : Int) < 0 ∨ (mm.funcs.length : Int) ≤ (j : Int)) := by
    rintro (h | h | h | h | h)
    · rw [hra, h23] at h; cases h
    · omega
    · omega
    · omega
    · omega
  clear h27 h32 h36 h40
  obtain ⟨x, hx⟩ : ∃ x, mm.funcs[i]? = some x := ⟨_, List.getElem?_eq_getElem (by omega)⟩
  obtain ⟨cx, hcx⟩ : ∃ c, cssf[i]? = some c := ⟨_, List.getElem?_eq_getElem (by omega)⟩
  have hfx := hFf i x cx hx hcx
  have hzx := hfx.leaf.2
  have hsx := hsm x (List.mem_of_getElem? hx)
  obtain ⟨vxp, vxr, vxc, rfl, hxp, hxr, hxc⟩ := hfx
  obtain ⟨y, hy⟩ : ∃ x, mm.funcs[j]? = some x := ⟨_, List.getElem?_eq_getElem (by omega)⟩
  obtain ⟨cy, hcy⟩ : ∃ c, cssf[j]? = some c := ⟨_, List.getElem?_eq_getElem (by omega)⟩
  have hfy := hFf j y cy hy hcy
  have hzy := hfy.leaf.2
  have hsy := hsm y (List.mem_of_getElem? hy)
  obtain ⟨vyp, vyr, vyc, rfl, hyp, hyr, hyc⟩ := hfy
  have hrz := hrf.keep0 hK
  have hux := hlab x (List.mem_of_getElem? hx)
  have huy := hlab y (List.mem_of_getElem? hy)
  refine wc_region ?_
  refine w_val rfl rfl (op_fldP rfl rfl rfl rfl (by decide)) ?_
  refine w_val rfl rfl (op_loadC 0 hS rfl rfl rfl (Nat.le_of_ble_eq_true rfl) rfl) ?_
  refine w_val rfl rfl (op_pure rfl) ?_
  refine w_val rfl rfl (op_idx rfl rfl (natA_cast _ _) rfl rfl rfl rfl hrz (by omega)) ?_
  refine w_val rfl rfl (op_load rfl rfl (Row.pt hrz hcx) rfl) ?_
  refine ws_alloc hS rfl rfl rfl rfl ?_
  rintro p2 z hS hk
  have hS : SH s [_, _, _] z := hS
  have hK := hS.K
  refine ws_store 2 hS rfl rfl rfl rfl rfl rfl hzx (Nat.le_of_ble_eq_true rfl) ?_
  rintro z hS
  have hS : SH s [_, _, _] z := hS
  have hK := hS.K
  refine w_nil ?_
  refine then_n ?_
  repeat refine wc_seq ?_
  have hrz := hrf.keep0 hK
  refine wc_region ?_
  refine w_val rfl rfl (op_fldP rfl rfl rfl rfl (by decide)) ?_
  refine w_val rfl rfl (op_loadC 0 hS rfl rfl rfl (Nat.le_of_ble_eq_true rfl) rfl) ?_
  refine w_val rfl rfl (op_pure rfl) ?_
  refine w_val rfl rfl (op_idx rfl rfl (natA_cast _ _) rfl rfl rfl rfl hrz (by omega)) ?_
  refine w_val rfl rfl (op_load rfl rfl (Row.pt hrz hcy) rfl) ?_
  refine ws_alloc hS rfl rfl rfl rfl ?_
  rintro p3 z hS hk
  have hS : SH s [_, _, _, _] z := hS
  have hK := hS.K
  refine ws_store 3 hS rfl rfl rfl rfl rfl rfl hzy (Nat.le_of_ble_eq_true rfl) ?_
  rintro z hS
  have hS : SH s [_, _, _, _] z := hS
  have hK := hS.K
  refine w_nil ?_
  refine then_n ?_
  repeat refine wc_seq ?_
  refine wc_region ?_
  refine w_val rfl rfl (op_fldP rfl rfl rfl rfl (by decide)) ?_
  refine w_val rfl rfl (op_loadC 2 hS rfl rfl rfl (Nat.le_of_ble_eq_true rfl) rfl) ?_
  refine w_val rfl rfl (op_fldP rfl rfl rfl rfl (by decide)) ?_
  refine w_val rfl rfl (op_loadC 3 hS rfl rfl rfl (Nat.le_of_ble_eq_true rfl) rfl) ?_
  refine w_call rfl rfl (op_call rfl rfl rfl rfl) (allW_ref_ok hK.ok (hxp.keep0 hK) (hyp.keep0 hK) hsx.1 hux.2.1 huy.2.1) ?_
  rintro _ _ ⟨rfl, rfl⟩
  refine w_val rfl rfl (op_pure rfl) ?_
  refine w_val rfl rfl (op_pure rfl) ?_
  refine w_split (i := 58) rfl (fun h58 => ?_) (fun h58 => ?_)
  · simp only [Bool.not_eq_true'] at h58
    refine w_off rfl rfl ?_
    refine w_off rfl rfl ?_
    refine w_off rfl rfl ?_
    refine w_off rfl rfl ?_
    refine w_off rfl rfl ?_
    refine w_off rfl rfl ?_
    refine w_val rfl rfl (op_pure rfl) ?_
    refine w_val rfl rfl (op_pure rfl) ?_
    refine w_off rfl rfl ?_
    refine w_off rfl rfl ?_
    refine w_off rfl rfl ?_
    refine w_off rfl rfl ?_
    refine w_off rfl rfl ?_
    refine w_off rfl rfl ?_
    refine w_val rfl rfl (op_pure rfl) ?_
    refine w_nil ?_
    refine then_n ?_
    repeat refine wc_seq ?_
    refine wc_cond_t rfl ?_
    repeat refine wc_seq ?_
    refine wc_region ?_
    refine w_val rfl rfl (op_pure rfl) ?_
    refine ws_store 1 hS rfl rfl rfl rfl rfl rfl (by rfl) (Nat.le_of_ble_eq_true rfl) ?_
    rintro z hS
    have hS : SH s [_, _, _, _] z := hS
    have hK := hS.K
    refine w_val rfl rfl (op_pure rfl) ?_
    refine w_nil ?_
    refine then_n ?_
    refine wc_ret ?_
    repeat first | refine then_r ?_ | refine out_r ?_ | refine round_r ?_ | refine cut_r ?_ | refine sc_r ?_
    have hE : bindE mm i j = 270 := bindE_no hok1 (by rw [fnAt_of hx, fnAt_of hy]; exact standsB_no (.inl h58))
    exact ⟨_, res_cell2 rfl rfl rfl (hS.pt 1 rfl) rfl, hK, _, congrArg (fun e => AV.tup [AV.agg [.nils, .nils, .nils, .nils], .int .i64 e]) hE.symm, bindR_err (by rw [hE]; decide)⟩
  simp only [Bool.not_eq_false'] at h58
  refine w_val rfl rfl (op_fldP rfl rfl rfl rfl (by decide)) ?_
  refine w_val rfl rfl (op_loadC 3 hS rfl rfl rfl (Nat.le_of_ble_eq_true rfl) rfl) ?_
  refine w_val rfl rfl (op_fldP rfl rfl rfl rfl (by decide)) ?_
  refine w_val rfl rfl (op_loadC 2 hS rfl rfl rfl (Nat.le_of_ble_eq_true rfl) rfl) ?_
  refine w_call rfl rfl (op_call rfl rfl rfl rfl) (allW_ref_ok hK.ok (hyr.keep0 hK) (hxr.keep0 hK) hsy.2.1 huy.2.2 hux.2.2) ?_
  rintro _ _ ⟨rfl, rfl⟩
  refine w_val rfl rfl (op_pure rfl) ?_
  refine w_val rfl rfl (op_pure rfl) ?_
  refine w_val rfl rfl (op_pure rfl) ?_
  refine w_split (i := 66) rfl (fun h66 => ?_) (fun h66 => ?_)
  · simp only [Bool.not_eq_true'] at h66
    refine w_off rfl rfl ?_
    refine w_off rfl rfl ?_
    refine w_off rfl rfl ?_
    refine w_off rfl rfl ?_
    refine w_off rfl rfl ?_
    refine w_off rfl rfl ?_
    refine w_val rfl rfl (op_pure rfl) ?_
    refine w_nil ?_
    refine then_n ?_
    repeat refine wc_seq ?_
    refine wc_cond_t rfl ?_
    repeat refine wc_seq ?_
    refine wc_region ?_
    refine w_val rfl rfl (op_pure rfl) ?_
    refine ws_store 1 hS rfl rfl rfl rfl rfl rfl (by rfl) (Nat.le_of_ble_eq_true rfl) ?_
    rintro z hS
    have hS : SH s [_, _, _, _] z := hS
    have hK := hS.K
    refine w_val rfl rfl (op_pure rfl) ?_
    refine w_nil ?_
    refine then_n ?_
    refine wc_ret ?_
    repeat first | refine then_r ?_ | refine out_r ?_ | refine round_r ?_ | refine cut_r ?_ | refine sc_r ?_
    have hE : bindE mm i j = 270 := bindE_no hok1 (by rw [fnAt_of hx, fnAt_of hy]; exact standsB_no (.inr (.inl h66)))
    exact ⟨_, res_cell2 rfl rfl rfl (hS.pt 1 rfl) rfl, hK, _, congrArg (fun e => AV.tup [AV.agg [.nils, .nils, .nils, .nils], .int .i64 e]) hE.symm, bindR_err (by rw [hE]; decide)⟩
  simp only [Bool.not_eq_false'] at h66
  refine w_val rfl rfl (op_fldP rfl rfl rfl rfl (by decide)) ?_
  refine w_val rfl rfl (op_loadC 2 hS rfl rfl rfl (Nat.le_of_ble_eq_true rfl) rfl) ?_
  refine w_val rfl rfl (op_fldP rfl rfl rfl rfl (by decide)) ?_
  refine w_val rfl rfl (op_loadC 3 hS rfl rfl rfl (Nat.le_of_ble_eq_true rfl) rfl) ?_
  refine w_call rfl rfl (op_call rfl rfl rfl rfl) (within_ref_ok hux.1 huy.1) ?_
  rintro _ _ ⟨rfl, rfl⟩
  refine w_val rfl rfl (op_pure rfl) ?_
  refine w_val rfl rfl (op_pure rfl) ?_
  refine w_nil ?_
  refine then_n ?_
  repeat refine wc_seq ?_
  refine wc_condT rfl (fun h73 => ?_) (fun h73 => ?_)
  · simp only [Bool.not_eq_true'] at h73
    repeat refine wc_seq ?_
    refine wc_region ?_
    refine w_val rfl rfl (op_pure rfl) ?_
    refine ws_store 1 hS rfl rfl rfl rfl rfl rfl (by rfl) (Nat.le_of_ble_eq_true rfl) ?_
    rintro z hS
    have hS : SH s [_, _, _, _] z := hS
    have hK := hS.K
    refine w_val rfl rfl (op_pure rfl) ?_
    refine w_nil ?_
    refine then_n ?_
    refine wc_ret ?_
    repeat first | refine then_r ?_ | refine out_r ?_ | refine round_r ?_ | refine cut_r ?_ | refine sc_r ?_
    have hE : bindE mm i j = 270 := bindE_no hok1 (by rw [fnAt_of hx, fnAt_of hy]; exact standsB_no (.inr (.inr h73)))
    exact ⟨_, res_cell2 rfl rfl rfl (hS.pt 1 rfl) rfl, hK, _, congrArg (fun e => AV.tup [AV.agg [.nils, .nils, .nils, .nils], .int .i64 e]) hE.symm, bindR_err (by rw [hE]; decide)⟩
  simp only [Bool.not_eq_false'] at h73
  refine wc_skip ?_
  refine then_n ?_
  repeat refine wc_seq ?_
  have hE : bindE mm i j = 0 := bindE_ok hok1 (by rw [fnAt_of hx, fnAt_of hy]; exact standsB_yes h58 h66 h73)
  clear h58 h66 h73 hxp hxr hxc hyp hyr hyc hux huy hsx hsy hcx hcy hx hy hzx hzy hrz
  refine wc_region ?_
  refine w_val rfl rfl (op_loadC 0 hS rfl rfl rfl (Nat.le_of_ble_eq_true rfl) rfl) ?_
  refine ws_alloc hS rfl rfl rfl rfl ?_
  rintro p4 z hS hk
  have hS : SH s [_, _, _, _, _] z := hS
  have hK := hS.K
  refine ws_store 4 hS rfl rfl rfl rfl rfl rfl hza (Nat.le_of_ble_eq_true rfl) ?_
  rintro z hS
  have hS : SH s [_, _, _, _, _] z := hS
  have hK := hS.K
  refine w_nil ?_
  refine then_n ?_
  repeat refine wc_seq ?_
  refine wc_region ?_
  refine w_val rfl rfl (op_fldP rfl rfl rfl rfl (by decide)) ?_
  refine ws_storeL 4 hS rfl rfl rfl rfl rfl rfl (by rfl) (Nat.le_of_ble_eq_true rfl) ?_
  rintro z hS
  have hS : SH s [_, _, _, _, _] z := hS
  have hK := hS.K
  refine w_nil ?_
  refine then_n ?_
  repeat refine wc_seq ?_
  have hS := hS.nilB (FuncE s) (good_e s) 6
  have hS : SH s [ptC (.ptr p0 0 0) [vga, vaa, vha, vfa], ptC (.ptr p1 0 0) [.nils, .nils, .nils, .nils], ptC (.ptr p4 0 0) [vga, vaa, vha, .nils], bldC (FuncE s) (good_e s) (fun _ => False) 6 .nils ((mm.funcs.take 0).map (bindF i j))] z := hS.sel [0, 1, 4, 5] rfl (by decide)
  refine wc_region ?_
  refine w_val rfl rfl (op_pure rfl) ?_
  refine w_nil ?_
  refine then_n ?_
  repeat refine wc_seq ?_
  refine wc_block ?_
  refine wc_loop_at (fun jj m z => ∃ (k : Nat) (F : AV) (FS : Nat → Prop), jj = mm.funcs.length - k ∧ k ≤ mm.funcs.length ∧ m = [(1, .int .i64 (i : Nat)), (2, .int .i64 (j : Nat)), (3, .ptr p0 0 0), (6, .ptr p1 0 0), (8, .int .i64 (mm.funcs.length : Nat)), (11, .ptr p4 0 0), (12, .int .i64 (k : Nat))] ∧ SH s [ptC (.ptr p0 0 0) [vga, vaa, vha, vfa], ptC (.ptr p1 0 0) [.nils, .nils, .nils, .nils], ptC (.ptr p4 0 0) [vga, vaa, vha, F], bldC (FuncE s) (good_e s) FS 6 F ((mm.funcs.take k).map (bindF i j))] z) mm.funcs.length
    [(1, .int .i64 (i : Nat)), (2, .int .i64 (j : Nat)), (3, .ptr p0 0 0), (6, .ptr p1 0 0), (8, .int .i64 (mm.funcs.length : Nat)), (11, .ptr p4 0 0), (12, .int .i64 ((0 : Nat) : Int))] (Sub.cons rfl (Sub.cons rfl (Sub.cons rfl (Sub.cons rfl (Sub.cons rfl (Sub.cons rfl (Sub.cons rfl (Sub.nil _)))))))) ⟨0, .nils, _, by simp, by simp, rfl, hS⟩ ?_
  clear hS hK
  rintro jj m z ⟨k, F, FS, rfl, hk, rfl, hS⟩
  have hK := hS.K
  repeat refine wc_seq ?_
  refine wc_region ?_
  refine w_val rfl rfl (op_pure rfl) ?_
  refine w_val rfl rfl (op_pure rfl) ?_
  refine w_val rfl rfl (op_pure rfl) ?_
  refine w_nil ?_
  refine then_n ?_
  repeat refine wc_seq ?_
  refine wc_condT rfl (fun h79 => ?_) (fun h79 => ?_)
  · simp only [decide_eq_true_eq] at h79
    refine wc_skip ?_
    refine then_n ?_
    repeat refine wc_seq ?_
    refine wc_block ?_
    repeat refine wc_seq ?_
    obtain ⟨x, hx⟩ : ∃ x, mm.funcs[k]? = some x := ⟨_, List.getElem?_eq_getElem (by omega)⟩
    obtain ⟨cx, hcx⟩ : ∃ c, cssf[k]? = some c := ⟨_, List.getElem?_eq_getElem (by omega)⟩
    have hfx := hFf k x cx hx hcx
    have hzx := hfx.leaf.2
    have hsx := hsm x (List.mem_of_getElem? hx)
    obtain ⟨vxp, vxr, vxc, rfl, hxp, hxr, hxc⟩ := hfx
    have hrz := hrf.keep0 hK
    have hsc : vxc.slen = some x.code.length := hxc.slenF
    have hxc3 := hsx.2.2
    refine wc_region ?_
    refine w_val rfl rfl (op_fldP rfl rfl rfl rfl (by decide)) ?_
    refine w_val rfl rfl (op_loadC 0 hS rfl rfl rfl (Nat.le_of_ble_eq_true rfl) rfl) ?_
    refine w_val rfl rfl (op_pure rfl) ?_
    refine w_val rfl rfl (op_idx rfl rfl (natA_cast _ _) rfl rfl rfl rfl hrz (by omega)) ?_
    refine w_val rfl rfl (op_load rfl rfl (Row.pt hrz hcx) rfl) ?_
    refine ws_alloc hS rfl rfl rfl rfl ?_
    rintro p4b z hS hk
    have hS : SH s [_, _, _, _, _] z := hS
    have hK := hS.K
    refine ws_store 4 hS rfl rfl rfl rfl rfl rfl hzx (Nat.le_of_ble_eq_true rfl) ?_
    rintro z hS
    have hS : SH s [_, _, _, _, _] z := hS
    have hK := hS.K
    refine w_nil ?_
    refine then_n ?_
    repeat refine wc_seq ?_
    refine wc_region ?_
    refine w_val rfl rfl (op_pure rfl) ?_
    refine w_nil ?_
    refine then_n ?_
    repeat refine wc_seq ?_
    have hS : SH s [ptC (.ptr p0 0 0) [vga, vaa, vha, vfa], ptC (.ptr p1 0 0) [.nils, .nils, .nils, .nils], ptC (.ptr p4 0 0) [vga, vaa, vha, F], bldC (FuncE s) (good_e s) FS 6 F ((mm.funcs.take k).map (bindF i j)), ptC (.ptr p4b 0 0) [.int .u64 x.level, vxp, vxr, .int .i64 x.locals, .int .i64 x.stack, vxc], rowC .nils 2 (((x.code.take 0).map (bindI i j)).map inC)] z := hS.nil 2
    refine wc_region ?_
    refine w_val rfl rfl (op_pure rfl) ?_
    refine w_nil ?_
    refine then_n ?_
    repeat refine wc_seq ?_
    refine wc_block ?_
    refine wc_loop_at (fun jj m z => ∃ (q : Nat) (w : AV), jj = x.code.length - q ∧ q ≤ x.code.length ∧ m = [(1, .int .i64 (i : Nat)), (2, .int .i64 (j : Nat)), (3, .ptr p0 0 0), (6, .ptr p1 0 0), (8, .int .i64 (mm.funcs.length : Nat)), (11, .ptr p4 0 0), (12, .int .i64 (k : Nat)), (13, .ptr p4b 0 0), (14, w), (15, .int .i64 (q : Nat))] ∧ SH s [ptC (.ptr p0 0 0) [vga, vaa, vha, vfa], ptC (.ptr p1 0 0) [.nils, .nils, .nils, .nils], ptC (.ptr p4 0 0) [vga, vaa, vha, F], bldC (FuncE s) (good_e s) FS 6 F ((mm.funcs.take k).map (bindF i j)), ptC (.ptr p4b 0 0) [.int .u64 x.level, vxp, vxr, .int .i64 x.locals, .int .i64 x.stack, vxc], rowC w 2 (((x.code.take q).map (bindI i j)).map inC)] z) x.code.length
      [(1, .int .i64 (i : Nat)), (2, .int .i64 (j : Nat)), (3, .ptr p0 0 0), (6, .ptr p1 0 0), (8, .int .i64 (mm.funcs.length : Nat)), (11, .ptr p4 0 0), (12, .int .i64 (k : Nat)), (13, .ptr p4b 0 0), (14, .nils), (15, .int .i64 ((0 : Nat) : Int))] (Sub.cons rfl (Sub.cons rfl (Sub.cons rfl (Sub.cons rfl (Sub.cons rfl (Sub.cons rfl (Sub.cons rfl (Sub.cons rfl (Sub.cons rfl (Sub.cons rfl (Sub.nil _))))))))))) ⟨0, .nils, by simp, by simp, rfl, hS⟩ ?_
    clear hS hK hrz
    rintro j1 m1 z ⟨q, w, rfl, hq, rfl, hS⟩
    have hK := hS.K
    repeat refine wc_seq ?_
    refine wc_region ?_
    refine w_val rfl rfl (op_pure rfl) ?_
    refine w_val rfl rfl (op_fldP rfl rfl rfl rfl (by decide)) ?_
    refine w_val rfl rfl (op_loadC 4 hS rfl rfl rfl (Nat.le_of_ble_eq_true rfl) rfl) ?_
    refine w_val rfl rfl (op_len rfl rfl rfl rfl rfl hsc) ?_
    refine w_val rfl rfl (op_pure rfl) ?_
    refine w_nil ?_
    refine then_n ?_
    repeat refine wc_seq ?_
    refine wc_condT rfl (fun h91 => ?_) (fun h91 => ?_)
    · simp only [decide_eq_true_eq] at h91
      refine wc_skip ?_
      refine then_n ?_
      repeat refine wc_seq ?_
      refine wc_block ?_
      repeat refine wc_seq ?_
      obtain ⟨y, hy⟩ : ∃ y, x.code[q]? = some y := ⟨_, List.getElem?_eq_getElem (by omega)⟩
      have hcz := hxc.keep0 hK
      refine wc_region ?_
      refine w_val rfl rfl (op_fldP rfl rfl rfl rfl (by decide)) ?_
      refine w_val rfl rfl (op_loadC 4 hS rfl rfl rfl (Nat.le_of_ble_eq_true rfl) rfl) ?_
      refine w_val rfl rfl (op_pure rfl) ?_
      refine w_val rfl rfl (op_idxF rfl rfl (natA_cast _ _) rfl rfl rfl rfl hcz (by omega)) ?_
      refine w_val rfl rfl (op_load (v := .agg (inC y)) rfl rfl (Row.mk_pt hcz hy) rfl) ?_
      refine ws_alloc hS rfl rfl rfl rfl ?_
      rintro p6 z hS hk
      have hS : SH s [_, _, _, _, _, _, _] z := hS
      have hK := hS.K
      refine ws_store 6 hS rfl rfl rfl rfl rfl rfl (by rfl) (Nat.le_of_ble_eq_true rfl) ?_
      rintro z hS
      have hS : SH s [_, _, _, _, _, _, _] z := hS
      have hK := hS.K
      refine w_nil ?_
      refine then_n ?_
      repeat refine wc_seq ?_
      refine wc_region ?_
      refine w_val rfl rfl (op_fldP rfl rfl rfl rfl (by decide)) ?_
      refine w_val rfl rfl (op_loadC 6 hS rfl rfl rfl (Nat.le_of_ble_eq_true rfl) rfl) ?_
      refine w_val rfl rfl (op_pure rfl) ?_
      refine w_val rfl rfl (op_pure rfl) ?_
      refine w_split (i := 102) rfl (fun h102 => ?_) (fun h102 => ?_)
      · simp only [beq_iff_eq] at h102
        refine w_val rfl rfl (op_fldP rfl rfl rfl rfl (by decide)) ?_
        refine w_val rfl rfl (op_loadC 6 hS rfl rfl rfl (Nat.le_of_ble_eq_true rfl) rfl) ?_
        refine w_val rfl rfl (op_pure rfl) ?_
        refine w_val rfl rfl (op_pure rfl) ?_
        refine w_val rfl rfl (op_pure rfl) ?_
        refine w_nil ?_
        refine then_n ?_
        repeat refine wc_seq ?_
        refine wc_condT rfl (fun h107 => ?_) (fun h107 => ?_)
        · simp only [beq_iff_eq] at h107
          refine wc_region ?_
          refine w_val rfl rfl (op_pure rfl) ?_
          refine w_val rfl rfl (op_fldP rfl rfl rfl rfl (by decide)) ?_
          refine ws_storeL 6 hS rfl rfl rfl rfl rfl rfl (by rfl) (Nat.le_of_ble_eq_true rfl) ?_
          rintro z hS
          have hS : SH s [_, _, _, _, _, _, _] z := hS
          have hK := hS.K
          refine w_nil ?_
          refine then_n ?_
          refine wc_region ?_
          refine w_val rfl rfl (op_pure rfl) ?_
          refine w_val rfl rfl (op_loadC 6 hS rfl rfl rfl (Nat.le_of_ble_eq_true rfl) rfl) ?_
          refine ws_lit1 hS rfl rfl rfl rfl rfl rfl rfl rfl (by decide) (by decide) rfl (by rfl) rfl ?_
          rintro lt112 z hS hk hlt112
          have hK := hS.K
          refine ws_append 5 hS rfl rfl rfl rfl rfl rfl rfl rfl rfl rfl rfl (by decide) (hlt112) (by (simp only [List.length_map, List.length_nil, List.length_cons, List.length_take, maxBytes]; omega)) (by (simp only [List.length_map, List.length_nil, List.length_cons, List.length_take, maxBytes]; omega)) ?_
          rintro at113 z hS
          have hS : SH s [_, _, _, _, _, _, _] z := hS
          have hK := hS.K
          refine w_val rfl rfl (op_pure rfl) ?_
          refine w_nil ?_
          refine out_n ?_
          refine then_n ?_
          refine wc_region ?_
          refine w_val rfl rfl (op_pure rfl) ?_
          refine w_val rfl rfl (op_add rfl rfl (by unfold In64; omega)) ?_
          refine w_val rfl rfl (op_pure rfl) ?_
          refine w_nil ?_
          have hb : inC (bindI i j y) = [.int .i64 y.op, .int .i64 (j : Nat)] := by rw [bindI, if_pos ⟨h102, h107⟩]; rfl
          have hS : SH s [ptC (.ptr p0 0 0) [vga, vaa, vha, vfa], ptC (.ptr p1 0 0) [.nils, .nils, .nils, .nils], ptC (.ptr p4 0 0) [vga, vaa, vha, F], bldC (FuncE s) (good_e s) FS 6 F ((mm.funcs.take k).map (bindF i j)), ptC (.ptr p4b 0 0) [.int .u64 x.level, vxp, vxr, .int .i64 x.locals, .int .i64 x.stack, vxc], rowC at113 2 (((x.code.take (q + 1)).map (bindI i j)).map inC)] z := by
            rw [snoc_map hy, hb]
            exact hS.sel [0, 1, 2, 3, 4, 5] rfl (by decide)
          exact round_n _ _ (by omega) (Sub.cons rfl (Sub.cons rfl (Sub.cons rfl (Sub.cons rfl (Sub.cons rfl (Sub.cons rfl (Sub.cons rfl (Sub.cons rfl (Sub.cons rfl (Sub.cons rfl (Sub.nil _))))))))))) ⟨q + 1, at113, rfl, by omega, rfl, hS⟩
        simp only [beq_eq_false_iff_ne, ne_eq] at h107
        refine wc_skip ?_
        refine then_n ?_
        refine wc_region ?_
        refine w_val rfl rfl (op_pure rfl) ?_
        refine w_val rfl rfl (op_loadC 6 hS rfl rfl rfl (Nat.le_of_ble_eq_true rfl) rfl) ?_
        refine ws_lit1 hS rfl rfl rfl rfl rfl rfl rfl rfl (by decide) (by decide) rfl (by rfl) rfl ?_
        rintro lt112 z hS hk hlt112
        have hK := hS.K
        refine ws_append 5 hS rfl rfl rfl rfl rfl rfl rfl rfl rfl rfl rfl (by decide) (hlt112) (by (simp only [List.length_map, List.length_nil, List.length_cons, List.length_take, maxBytes]; omega)) (by (simp only [List.length_map, List.length_nil, List.length_cons, List.length_take, maxBytes]; omega)) ?_
        rintro at113 z hS
        have hS : SH s [_, _, _, _, _, _, _] z := hS
        have hK := hS.K
        refine w_val rfl rfl (op_pure rfl) ?_
        refine w_nil ?_
        refine out_n ?_
        refine then_n ?_
        refine wc_region ?_
        refine w_val rfl rfl (op_pure rfl) ?_
        refine w_val rfl rfl (op_add rfl rfl (by unfold In64; omega)) ?_
        refine w_val rfl rfl (op_pure rfl) ?_
        refine w_nil ?_
        have hb : inC (bindI i j y) = [.int .i64 y.op, .int .i64 y.a] := by rw [bindI, if_neg (fun h => h107 h.2)]; rfl
        have hS : SH s [ptC (.ptr p0 0 0) [vga, vaa, vha, vfa], ptC (.ptr p1 0 0) [.nils, .nils, .nils, .nils], ptC (.ptr p4 0 0) [vga, vaa, vha, F], bldC (FuncE s) (good_e s) FS 6 F ((mm.funcs.take k).map (bindF i j)), ptC (.ptr p4b 0 0) [.int .u64 x.level, vxp, vxr, .int .i64 x.locals, .int .i64 x.stack, vxc], rowC at113 2 (((x.code.take (q + 1)).map (bindI i j)).map inC)] z := by
          rw [snoc_map hy, hb]
          exact hS.sel [0, 1, 2, 3, 4, 5] rfl (by decide)
        exact round_n _ _ (by omega) (Sub.cons rfl (Sub.cons rfl (Sub.cons rfl (Sub.cons rfl (Sub.cons rfl (Sub.cons rfl (Sub.cons rfl (Sub.cons rfl (Sub.cons rfl (Sub.cons rfl (Sub.nil _))))))))))) ⟨q + 1, at113, rfl, by omega, rfl, hS⟩
      simp only [beq_eq_false_iff_ne, ne_eq] at h102
      refine w_off rfl rfl ?_
      refine w_off rfl rfl ?_
      refine w_off rfl rfl ?_
      refine w_off rfl rfl ?_
      refine w_val rfl rfl (op_pure rfl) ?_
      refine w_nil ?_
      refine then_n ?_
      repeat refine wc_seq ?_
      refine wc_cond_f rfl ?_
      refine wc_skip ?_
      refine then_n ?_
      refine wc_region ?_
      refine w_val rfl rfl (op_pure rfl) ?_
      refine w_val rfl rfl (op_loadC 6 hS rfl rfl rfl (Nat.le_of_ble_eq_true rfl) rfl) ?_
      refine ws_lit1 hS rfl rfl rfl rfl rfl rfl rfl rfl (by decide) (by decide) rfl (by rfl) rfl ?_
      rintro lt112 z hS hk hlt112
      have hK := hS.K
      refine ws_append 5 hS rfl rfl rfl rfl rfl rfl rfl rfl rfl rfl rfl (by decide) (hlt112) (by (simp only [List.length_map, List.length_nil, List.length_cons, List.length_take, maxBytes]; omega)) (by (simp only [List.length_map, List.length_nil, List.length_cons, List.length_take, maxBytes]; omega)) ?_
      rintro at113 z hS
      have hS : SH s [_, _, _, _, _, _, _] z := hS
      have hK := hS.K
      refine w_val rfl rfl (op_pure rfl) ?_
      refine w_nil ?_
      refine out_n ?_
      refine then_n ?_
      refine wc_region ?_
      refine w_val rfl rfl (op_pure rfl) ?_
      refine w_val rfl rfl (op_add rfl rfl (by unfold In64; omega)) ?_
      refine w_val rfl rfl (op_pure rfl) ?_
      refine w_nil ?_
      have hb : inC (bindI i j y) = [.int .i64 y.op, .int .i64 y.a] := by rw [bindI, if_neg (fun h => h102 h.1)]; rfl
      have hS : SH s [ptC (.ptr p0 0 0) [vga, vaa, vha, vfa], ptC (.ptr p1 0 0) [.nils, .nils, .nils, .nils], ptC (.ptr p4 0 0) [vga, vaa, vha, F], bldC (FuncE s) (good_e s) FS 6 F ((mm.funcs.take k).map (bindF i j)), ptC (.ptr p4b 0 0) [.int .u64 x.level, vxp, vxr, .int .i64 x.locals, .int .i64 x.stack, vxc], rowC at113 2 (((x.code.take (q + 1)).map (bindI i j)).map inC)] z := by
        rw [snoc_map hy, hb]
        exact hS.sel [0, 1, 2, 3, 4, 5] rfl (by decide)
      exact round_n _ _ (by omega) (Sub.cons rfl (Sub.cons rfl (Sub.cons rfl (Sub.cons rfl (Sub.cons rfl (Sub.cons rfl (Sub.cons rfl (Sub.cons rfl (Sub.cons rfl (Sub.cons rfl (Sub.nil _))))))))))) ⟨q + 1, at113, rfl, by omega, rfl, hS⟩
    simp only [decide_eq_false_iff_not] at h91
    obtain rfl : q = x.code.length := by omega
    rw [List.take_length] at hS
    refine wc_exit ?_
    repeat first | refine then_x ?_ | refine round_x ?_ | refine cut_x ?_ | refine out_x' (by decide) ?_
    refine out_x ?_
    refine then_n ?_
    repeat refine wc_seq ?_
    refine wc_region ?_
    refine w_val rfl rfl (op_pure rfl) ?_
    refine w_val rfl rfl (op_fldP rfl rfl rfl rfl (by decide)) ?_
    refine ws_storeL 4 hS rfl rfl rfl rfl rfl rfl ((hS.row 5 rfl).leaf) (Nat.le_of_ble_eq_true rfl) ?_
    rintro z hS
    have hS : SH s [_, _, _, _, _, _] z := hS
    have hK := hS.K
    refine w_nil ?_
    refine then_n ?_
    have hzw : ([.int .u64 x.level, vxp, vxr, .int .i64 x.locals, .int .i64 x.stack, w] : List AV).all AV.leaf = true := by
      simp only [List.all_cons, List.all_nil, hxp.leaf, hxr.leaf, (hS.row 5 rfl).leaf]; rfl
    refine wc_region ?_
    refine w_val rfl rfl (op_fldP rfl rfl rfl rfl (by decide)) ?_
    refine w_val rfl rfl (op_loadC 2 hS rfl rfl rfl (Nat.le_of_ble_eq_true rfl) rfl) ?_
    refine w_val rfl rfl (op_loadC 4 hS rfl rfl rfl (Nat.le_of_ble_eq_true rfl) rfl) ?_
    refine ws_lit1 hS rfl rfl rfl rfl rfl rfl rfl rfl (by decide) (by decide) rfl hzw rfl ?_
    rintro lt119 z hS hk hlt119
    have hK := hS.K
    refine ws_app_bld (z := bindF i j x) 3 5 (by decide) hS rfl rfl rfl rfl rfl rfl rfl rfl rfl rfl rfl rfl (by decide) hlt119 ⟨vxp, vxr, w, rfl, hxp, hxr, hS.row 5 rfl, fun g hg => hg⟩ (by simp only [List.length_map, List.length_take, maxBytes]; omega) (by simp only [List.length_map, List.length_take, maxBytes]; omega) ?_
    rintro F2 z FS2 hS
    have hS : SH s [_, _, _, _, _, _] z := hS
    rw [← snoc_map1 hx] at hS
    have hK := hS.K
    have hF2 := hS.bldLeaf 3 rfl
    refine w_val rfl rfl (op_fldP rfl rfl rfl rfl (by decide)) ?_
    refine ws_storeL 2 hS rfl rfl rfl rfl rfl rfl hF2 (Nat.le_of_ble_eq_true rfl) ?_
    rintro z hS
    have hS : SH s [_, _, _, _, _, _] z := hS
    have hK := hS.K
    refine w_nil ?_
    refine out_n ?_
    refine then_n ?_
    refine wc_region ?_
    refine w_val rfl rfl (op_pure rfl) ?_
    refine w_val rfl rfl (op_add rfl rfl (by unfold In64; omega)) ?_
    refine w_val rfl rfl (op_pure rfl) ?_
    refine w_nil ?_
    have hS : SH s [ptC (.ptr p0 0 0) [vga, vaa, vha, vfa], ptC (.ptr p1 0 0) [.nils, .nils, .nils, .nils], ptC (.ptr p4 0 0) [vga, vaa, vha, F2], bldC (FuncE s) (good_e s) FS2 6 F2 ((mm.funcs.take (k + 1)).map (bindF i j))] z := hS.sel [0, 1, 2, 3] rfl (by decide)
    exact round_n _ _ (by omega) (Sub.cons rfl (Sub.cons rfl (Sub.cons rfl (Sub.cons rfl (Sub.cons rfl (Sub.cons rfl (Sub.cons rfl (Sub.nil _)))))))) ⟨k + 1, _, _, rfl, by omega, rfl, hS⟩
  simp only [decide_eq_false_iff_not] at h79
  obtain rfl : k = mm.funcs.length := by omega
  rw [List.take_length] at hS
  refine wc_exit ?_
  repeat first | refine then_x ?_ | refine round_x ?_ | refine cut_x ?_ | refine out_x' (by decide) ?_
  refine out_x ?_
  refine then_n ?_
  repeat refine wc_seq ?_
  have hz24 : ([vga, vaa, vha, F] : List AV).all AV.leaf = true := by simp only [List.all_cons, List.all_nil, hvg.leaf, hvaa.leaf, hvh.leaf, hS.bldLeaf 3 rfl]; rfl
  refine wc_region ?_
  refine w_val rfl rfl (op_loadC 2 hS rfl rfl rfl (Nat.le_of_ble_eq_true rfl) rfl) ?_
  refine ws_store 1 hS rfl rfl rfl rfl rfl rfl hz24 (Nat.le_of_ble_eq_true rfl) ?_
  rintro z hS
  have hS : SH s [_, _, _, _] z := hS
  have hK := hS.K
  refine w_val rfl rfl (op_pure rfl) ?_
  refine w_nil ?_
  refine then_n ?_
  refine wc_ret ?_
  repeat first | refine then_r ?_ | refine out_r ?_ | refine round_r ?_ | refine cut_r ?_ | refine sc_r ?_
  obtain ⟨css, hr, -, -, hl, hx⟩ := hS.bld 3 rfl
  have hmo : bindM mm i j = ⟨mm.globals, mm.arrays, mm.channels, mm.funcs.map (bindF i j)⟩ := if_pos hE
  refine ⟨_, res_cell2 rfl rfl rfl (hS.pt 1 rfl) rfl, hK, _, congrArg (fun e => AV.tup [AV.agg [vga, vaa, vha, F], .int .i64 e]) hE.symm, ?_⟩
  rw [hmo]
  refine ⟨_, _, _, _, rfl, hvg.keep0 hK, hvaa.keep0 hK, hvh.keep0 hK, css, hr, hl, fun a x c e1 e2 => ?_⟩
  obtain ⟨vp, vr, vc, e, h1, h2, h3, -⟩ := hx a x c e1 e2
  exact ⟨vp, vr, vc, e, h1.keep0 hK, h2.keep0 hK, h3⟩
end Go.Ab
/- Which functions a function calls, directly and through others. -/
namespace Go.Ab
open Go.Proofs
def CEdge (m : ModL) (a b : Nat) : Prop := ∃ x y, m.funcs[a]? = some x ∧ y ∈ x.code ∧ y.op = 45 ∧ y.a = (b : Int)
inductive Rch (m : ModL) (f : Nat) : Nat → Prop where
  | here : Rch m f f
  | step {a b : Nat} : Rch m f a → CEdge m a b → Rch m f b
theorem Rch.trans {m : ModL} {f a b : Nat} (h : Rch m f a) (k : Rch m a b) : Rch m f b := by
  induction k with
  | here => exact h
  | step _ e ih => exact .step ih e
/-- Is it marked? -/
def Tk (l : List Bool) (k : Nat) : Prop := l[k]? = some true
def cntF (l : List Bool) : Nat := l.countP (!·)
theorem cntF_set {l : List Bool} {a : Nat} (h : l[a]? = some false) : cntF (l.set a true) + 1 = cntF l := by
  obtain ⟨h1, h2⟩ := List.getElem?_eq_some_iff.1 h
  unfold cntF
  rw [List.countP_set h1, h2]
  have : 0 < l.countP (!·) := List.countP_pos_iff.2 ⟨false, List.mem_of_getElem? h, rfl⟩
  simp
  omega
theorem cntF_le {l l' : List Bool} (hl : l.length = l'.length) (h : ∀ k, Tk l k → Tk l' k) : cntF l' ≤ cntF l := by
  induction l generalizing l' with
  | nil =>
    cases l' with
    | nil => exact Nat.le_refl _
    | cons b l' => simp at hl
  | cons a l ih =>
    cases l' with
    | nil => simp at hl
    | cons b l' =>
      have h1 := ih (l' := l') (by simpa using hl) fun k hk => by
        have := h (k + 1) (by simpa [Tk] using hk)
        simpa [Tk] using this
      have h0 : a = true → b = true := fun e => by
        have := h 0 (by simp [Tk, e])
        simpa [Tk] using this
      unfold cntF at h1 ⊢
      rw [List.countP_cons, List.countP_cons]
      cases a with
      | true => rw [h0 rfl]; simpa using h1
      | false => cases b <;> simp <;> omega
theorem Tk_set {l : List Bool} {a k : Nat} (ha : a < l.length) : Tk (l.set a true) k ↔ (k = a ∨ Tk l k) := by
  unfold Tk
  rw [List.getElem?_set]
  by_cases e : a = k
  · subst e; simp [ha]
  · simp [e, Ne.symm e]
theorem not_Tk {l : List Bool} {a : Nat} (h : l[a]? = some false) : ¬ Tk l a := by unfold Tk; rw [h]; simp
/-- What a walk from a marks. -/
structure Dfs (m : ModL) (a : Nat) (l l' : List Bool) : Prop where
  len : l'.length = l.length
  mono : ∀ k, Tk l k → Tk l' k
  here : Tk l' a
  new : ∀ k, Tk l' k → ¬ Tk l k → Rch m a k ∧ ∀ b, CEdge m k b → Tk l' b
theorem Dfs.none {m : ModL} {a : Nat} {l : List Bool} (h : Tk l a) : Dfs m a l l := ⟨rfl, fun _ h => h, h, fun k h h' => (h' h).elim⟩
/-- What the walk over the instructions of a has marked; l1: a is marked too. -/
structure DfsI (m : ModL) (a : Nat) (x : FuncL) (l l1 : List Bool) (q : Nat) : Prop where
  len : l1.length = l.length
  mono : ∀ k, Tk l k → Tk l1 k
  here : Tk l1 a
  new : ∀ k, Tk l1 k → ¬ Tk l k → k ≠ a → Rch m a k ∧ ∀ b, CEdge m k b → Tk l1 b
  done : ∀ (i : Nat) (y : InstrL) (b : Nat), i < q → x.code[i]? = some y → y.op = 45 → y.a = (b : Int) → Tk l1 b
theorem DfsI.start {m : ModL} {a : Nat} {x : FuncL} {l : List Bool} (ha : a < l.length) : DfsI m a x l (l.set a true) 0 :=
  ⟨by simp, fun k h => (Tk_set ha).2 (.inr h), (Tk_set ha).2 (.inl rfl), fun k h h' hne => by rcases (Tk_set ha).1 h with h | h; exact (hne h).elim; exact (h' h).elim, fun i y b h => by omega⟩
theorem DfsI.skip {m : ModL} {a q : Nat} {x : FuncL} {l l1 : List Bool} {y : InstrL} (h : DfsI m a x l l1 q) (hy : x.code[q]? = some y) (ho : ¬ y.op = 45) : DfsI m a x l l1 (q + 1) :=
  ⟨h.len, h.mono, h.here, h.new, fun i y' b hi h1 h2 h3 => by
    rcases Nat.lt_succ_iff_lt_or_eq.1 hi with hi | e
    · exact h.done i y' b hi h1 h2 h3
    · subst e; rw [hy] at h1; cases h1; exact (ho h2).elim⟩
theorem DfsI.call {m : ModL} {a q b : Nat} {x : FuncL} {l l1 l2 : List Bool} {y : InstrL} (h : DfsI m a x l l1 q) (hx : m.funcs[a]? = some x) (hy : x.code[q]? = some y) (ho : y.op = 45) (hb : y.a = (b : Int)) (k : Dfs m b l1 l2) : DfsI m a x l l2 (q + 1) := by
  refine ⟨k.len.trans h.len, fun c hc => k.mono c (h.mono c hc), k.mono _ h.here, fun c hc hn hne => ?_, fun i y' b' hi h1 h2 h3 => ?_⟩
  · by_cases e : Tk l1 c
    · obtain ⟨h1, h2⟩ := h.new c e hn hne
      exact ⟨h1, fun d hd => k.mono d (h2 d hd)⟩
    · obtain ⟨h1, h2⟩ := k.new c hc e
      exact ⟨(Rch.step .here ⟨x, y, hx, List.mem_of_getElem? hy, ho, hb⟩).trans h1, h2⟩
  · rcases Nat.lt_succ_iff_lt_or_eq.1 hi with hi | e
    · exact k.mono _ (h.done i y' b' hi h1 h2 h3)
    · subst e; rw [hy] at h1; cases h1
      rw [hb] at h3
      have : b = b' := by omega
      rw [← this]; exact k.here
theorem DfsI.all {m : ModL} {a : Nat} {x : FuncL} {l l1 : List Bool} (hx : m.funcs[a]? = some x) (h : DfsI m a x l l1 x.code.length) : Dfs m a l l1 := by
  refine ⟨h.len, h.mono, h.here, fun k hk hn => ?_⟩
  by_cases e : k = a
  · subst e
    refine ⟨.here, fun b hb => ?_⟩
    obtain ⟨x', y, h1, h2, h3, h4⟩ := hb
    rw [hx] at h1
    cases h1
    obtain ⟨i, hi⟩ := List.getElem?_of_mem h2
    exact h.done i y b (List.getElem?_eq_some_iff.1 hi).1 hi h3 h4
  · exact h.new k hk hn e
/-- Just the reached ones are marked. -/
def Mk (m : ModL) (f : Nat) (l : List Bool) : Prop := l.length = m.funcs.length ∧ ∀ k, Tk l k ↔ Rch m f k
theorem Dfs.marks {m : ModL} {f n : Nat} {l : List Bool} (hn : n = m.funcs.length) (h : Dfs m f (List.replicate n false) l) : Mk m f l := by
  have h0 : ∀ k, ¬ Tk (List.replicate n false) k := fun k hk => by
    have := List.mem_of_getElem? hk
    rw [List.mem_replicate] at this
    exact Bool.noConfusion this.2
  refine ⟨by rw [h.len, List.length_replicate, hn], fun k => ⟨fun hk => (h.new k hk (h0 k)).1, fun hk => ?_⟩⟩
  induction hk with
  | here => exact h.here
  | step _ e ih => exact (h.new _ ih (h0 _)).2 _ e
open Classical in
noncomputable def needsL (m : ModL) (f : Int) : List Int := if okM m = true ∧ 0 ≤ f ∧ f < (m.funcs.length : Int) then ((List.range m.funcs.length).filter fun k => decide (Rch m f.toNat k)).map fun k : Nat => (k : Int) else []
theorem needsL_no {m : ModL} {f : Int} (h : okM m = false ∨ f < 0 ∨ (m.funcs.length : Int) ≤ f) : needsL m f = [] := by
  unfold needsL
  rw [if_neg]
  rintro ⟨h1, h2, h3⟩
  rcases h with h | h | h
  · rw [h] at h1; cases h1
  · omega
  · omega
/-- The numbers of the marked ones. -/
def numL (l : List Bool) (k : Nat) : List Int := ((List.range k).filter fun i => l.getD i false).map fun i : Nat => (i : Int)
theorem numL_zero (l : List Bool) : numL l 0 = [] := rfl
theorem numL_yes {l : List Bool} {k : Nat} (h : l[k]? = some true) : numL l (k + 1) = numL l k ++ [(k : Int)] := by
  unfold numL
  rw [List.range_succ, List.filter_append, List.map_append]
  simp [List.getD_eq_getElem?_getD, h]
theorem numL_no {l : List Bool} {k : Nat} (h : l[k]? = some false) : numL l (k + 1) = numL l k := by
  unfold numL
  rw [List.range_succ, List.filter_append, List.map_append]
  simp [List.getD_eq_getElem?_getD, h]
theorem numL_len (l : List Bool) (k : Nat) : (numL l k).length ≤ k := by
  unfold numL
  rw [List.length_map]
  have := List.length_filter_le (fun i => l.getD i false) (List.range k)
  rw [List.length_range] at this
  exact this
open Classical in
theorem Mk.needs {m : ModL} {f : Nat} {l : List Bool} (h : Mk m f l) (hk : okM m = true) (hf : f < m.funcs.length) : numL l l.length = needsL m (f : Nat) := by
  unfold needsL numL
  rw [if_pos ⟨hk, by omega, by omega⟩, h.1]
  congr 1
  refine List.filter_congr fun k hk => ?_
  have hk' : k < l.length := by rw [h.1]; exact List.mem_range.1 hk
  rw [List.getD_eq_getElem?_getD, List.getElem?_eq_getElem hk']
  rw [Bool.eq_iff_iff, decide_eq_true_iff, Int.toNat_natCast, ← h.2 k]
  unfold Tk
  rw [List.getElem?_eq_getElem hk']
  simp
def bC (b : Bool) : List AV := [.bool b]
/-- Calls stay within the module. -/
def CallIn (m : ModL) : Prop := ∀ x ∈ m.funcs, ∀ y ∈ x.code, y.op = 45 → 0 ≤ y.a ∧ y.a < (m.funcs.length : Int)
end Go.Ab
/- link.Needs, and the walk that it does. -/
namespace Go.Ab
open Go.Proofs
set_option maxRecDepth 10000 in
set_option maxHeartbeats 8000000 in
theorem visit_ok {s0 : St} {mm : ModL} {vg va vh vf sv : AV} {p2 p5 p6 : Nat} {cssf : List (List AV)} (hrf : Row s0.h 6 vf cssf) (hlf : cssf.length = mm.funcs.length) (hFf : ∀ (i : Nat) (x : FuncL) (c : List AV), mm.funcs[i]? = some x → cssf[i]? = some c → FuncR s0.h x c) (hsm : ∀ x ∈ mm.funcs, x.small) (_hm4 : mm.funcs.length ≤ 2097152) (hcall : CallIn mm) :
    ∀ (u : Nat) (l : List Bool) (a : Nat) (s : St) (_hl : l.length = mm.funcs.length) (_ha : a < mm.funcs.length) (_hu : cntF l < u) (_hS : SH s0 [ptC (.ptr p2 0 0) [vg, va, vh, vf], ptC (.ptr p5 0 0) [sv], ptC (.ptr p6 0 0) [.fn 89 [.ptr p5 0 0, .ptr p2 0 0, .ptr p6 0 0]], rowC sv 1 (l.map bC)] s),
    CallS Try.prog Tt Kt 89 [.int .i64 (a : Nat), .ptr p5 0 0, .ptr p2 0 0, .ptr p6 0 0] s (fun r s' => r = .tup [] ∧ ∃ l', SH s0 [ptC (.ptr p2 0 0) [vg, va, vh, vf], ptC (.ptr p5 0 0) [sv], ptC (.ptr p6 0 0) [.fn 89 [.ptr p5 0 0, .ptr p2 0 0, .ptr p6 0 0]], rowC sv 1 (l'.map bC)] s' ∧ Dfs mm a l l') := by
  intro u
  induction u with
  | zero =>
    intro l a s hl ha hu hS
    omega
  | succ u hvisit =>
    intro l a s hl ha hu hS
    refine call_of (fn := Try.f89) (nt := 33) Try.func89 rfl rfl rfl ?_
    repeat refine wc_seq ?_
    have hK := hS.K
    obtain ⟨bb, hbb⟩ : ∃ x, l[a]? = some x := ⟨_, List.getElem?_eq_getElem (by omega)⟩
    have hll := hl
    refine wc_region ?_
    refine w_val rfl rfl (op_loadC 1 hS rfl rfl rfl (Nat.le_of_ble_eq_true rfl) rfl) ?_
    refine w_val rfl rfl (op_pure rfl) ?_
    first | refine w_val rfl rfl (op_idxF rfl rfl (by first | assumption | exact natA_cast _ _ | exact natA_succ _ _ | exact natA_toNat (by omega) | rfl) rfl rfl rfl rfl (hS.row 3 rfl) (by first | omega | (simp; done) | (simp; omega))) ?_ | refine w_val rfl rfl (op_idx rfl rfl (by first | assumption | exact natA_cast _ _ | exact natA_succ _ _ | exact natA_toNat (by omega) | rfl) rfl rfl rfl rfl (hS.row 3 rfl) (by first | omega | (simp; done) | (simp; omega))) ?_
    first | refine w_val rfl rfl (op_load rfl rfl (Row.mk_pt (hS.row 3 rfl) (by assumption)) rfl) ?_ | refine w_val rfl rfl (op_load rfl rfl (Row.pt (hS.row 3 rfl) (by assumption)) rfl) ?_
    refine w_nil ?_
    refine then_n ?_
    repeat refine wc_seq ?_
    refine wc_condT rfl (fun h10 => ?_) (fun h10 => ?_)
    · subst h10
      refine wc_ret ?_
      repeat first | refine then_r ?_ | refine out_r ?_ | refine round_r ?_ | refine cut_r ?_ | refine sc_r ?_
      exact ⟨_, rfl, rfl, l, hS, Dfs.none hbb⟩
    subst h10
    refine wc_skip ?_
    refine then_n ?_
    repeat refine wc_seq ?_
    refine wc_region ?_
    refine w_val rfl rfl (op_loadC 1 hS rfl rfl rfl (Nat.le_of_ble_eq_true rfl) rfl) ?_
    refine w_val rfl rfl (op_pure rfl) ?_
    first | refine w_val rfl rfl (op_idxF rfl rfl (by first | assumption | exact natA_cast _ _ | exact natA_succ _ _ | exact natA_toNat (by omega) | rfl) rfl rfl rfl rfl (hS.row 3 rfl) (by first | omega | (simp; done) | (simp; omega))) ?_ | refine w_val rfl rfl (op_idx rfl rfl (by first | assumption | exact natA_cast _ _ | exact natA_succ _ _ | exact natA_toNat (by omega) | rfl) rfl rfl rfl rfl (hS.row 3 rfl) (by first | omega | (simp; done) | (simp; omega))) ?_
    refine ws_storeE 3 hS rfl rfl rfl rfl rfl rfl rfl (by first | rfl | assumption | exact Row.leaf (by assumption)) (by first | omega | (simp; done) | (simp; omega)) ?_
    rintro z hS
    have hS : SH _ [_, _, _, _] z := hS
    have hK := hS.K
    refine w_nil ?_
    refine then_n ?_
    repeat refine wc_seq ?_
    have hS : SH s0 [ptC (.ptr p2 0 0) [vg, va, vh, vf], ptC (.ptr p5 0 0) [sv], ptC (.ptr p6 0 0) [.fn 89 [.ptr p5 0 0, .ptr p2 0 0, .ptr p6 0 0]], rowC sv 1 ((l.set a true).map bC)] z := by rw [List.map_set]; exact hS
    obtain ⟨x, hx⟩ : ∃ x, mm.funcs[a]? = some x := ⟨_, List.getElem?_eq_getElem (by omega)⟩
    obtain ⟨cx, hcx⟩ : ∃ c, cssf[a]? = some c := ⟨_, List.getElem?_eq_getElem (by omega)⟩
    have hfx := hFf a x cx hx hcx
    obtain ⟨vxp, vxr, vxc, rfl, hxp, hxr, hxc⟩ := hfx
    have hrz := hrf.keep0 hK
    have hxc3 := (hsm x (List.mem_of_getElem? hx)).2.2
    have hI : DfsI mm a x l (l.set a true) 0 := DfsI.start (by omega)
    have hcn : cntF (l.set a true) < u := by have := cntF_set hbb; omega
    generalize l.set a true = l1 at hS hI hcn
    refine wc_region ?_
    refine w_val rfl rfl (op_fldP rfl rfl rfl rfl (by decide)) ?_
    refine w_val rfl rfl (op_loadC 0 hS rfl rfl rfl (Nat.le_of_ble_eq_true rfl) rfl) ?_
    refine w_val rfl rfl (op_pure rfl) ?_
    refine w_val rfl rfl (op_idx rfl rfl (natA_cast _ _) rfl rfl rfl rfl hrz (by omega)) ?_
    refine w_val rfl rfl (op_fld rfl rfl rfl rfl (by decide) (Row.pt hrz hcx) (Nat.le_of_ble_eq_true rfl)) ?_
    refine w_val rfl rfl (op_load rfl rfl ((Row.pt hrz hcx).fld 5 (Nat.le_of_ble_eq_true rfl)) rfl) ?_
    refine w_val rfl rfl (op_len rfl rfl rfl rfl rfl hxc.slenF) ?_
    refine w_val rfl rfl (op_pure rfl) ?_
    refine w_nil ?_
    refine then_n ?_
    refine wc_block ?_
    refine wc_loop_at (fun jj m z => ∃ (q : Nat) (l1 : List Bool), jj = x.code.length - q ∧ q ≤ x.code.length ∧ m = [(0, .int .i64 (a : Nat)), (1, .ptr p5 0 0), (2, .ptr p2 0 0), (3, .ptr p6 0 0), (19, vxc), (20, .int .i64 (x.code.length : Nat)), (21, .int .i64 (q : Nat))] ∧ SH s0 [ptC (.ptr p2 0 0) [vg, va, vh, vf], ptC (.ptr p5 0 0) [sv], ptC (.ptr p6 0 0) [.fn 89 [.ptr p5 0 0, .ptr p2 0 0, .ptr p6 0 0]], rowC sv 1 (l1.map bC)] z ∧ DfsI mm a x l l1 q ∧ cntF l1 < u) x.code.length
      [(0, .int .i64 (a : Nat)), (1, .ptr p5 0 0), (2, .ptr p2 0 0), (3, .ptr p6 0 0), (19, vxc), (20, .int .i64 (x.code.length : Nat)), (21, .int .i64 ((0 : Nat) : Int))] (Sub.cons rfl (Sub.cons rfl (Sub.cons rfl (Sub.cons rfl (Sub.cons rfl (Sub.cons rfl (Sub.cons rfl (Sub.nil _)))))))) ⟨0, l1, by simp, by simp, rfl, hS, hI, hcn⟩ ?_
    clear hS hI hcn hK hrz
    rintro jj m z ⟨q, l1, rfl, hq, rfl, hS, hI, hcn⟩
    have hK := hS.K
    repeat refine wc_seq ?_
    refine wc_region ?_
    refine w_val rfl rfl (op_pure rfl) ?_
    refine w_nil ?_
    refine then_n ?_
    repeat refine wc_seq ?_
    refine wc_condT rfl (fun h22 => ?_) (fun h22 => ?_)
    · simp only [decide_eq_true_eq] at h22
      refine wc_skip ?_
      refine then_n ?_
      repeat refine wc_seq ?_
      refine wc_block ?_
      repeat refine wc_seq ?_
      obtain ⟨y, hy⟩ : ∃ y, x.code[q]? = some y := ⟨_, List.getElem?_eq_getElem (by omega)⟩
      have hcz := hxc.keep0 hK
      refine wc_region ?_
      refine w_val rfl rfl (op_idxF rfl rfl (natA_cast _ _) rfl rfl rfl rfl hcz (by omega)) ?_
      refine w_val rfl rfl (op_load (v := .agg (inC y)) rfl rfl (Row.mk_pt hcz hy) rfl) ?_
      refine ws_alloc hS rfl rfl rfl rfl ?_
      rintro p4 z hS hk
      have hS : SH _ [_, _, _, _, _] z := hS
      have hK := hS.K
      first | refine ws_storeL 4 hS rfl rfl rfl rfl rfl rfl (by first | rfl | assumption | exact Row.leaf (by assumption)) (Nat.le_of_ble_eq_true rfl) ?_ | refine ws_store 4 hS rfl rfl rfl rfl rfl rfl (by first | rfl | assumption | exact Row.leaf (by assumption)) (Nat.le_of_ble_eq_true rfl) ?_
      rintro z hS
      have hS : SH _ [_, _, _, _, _] z := hS
      have hK := hS.K
      refine w_nil ?_
      refine then_n ?_
      repeat refine wc_seq ?_
      refine wc_region ?_
      refine w_val rfl rfl (op_fldP rfl rfl rfl rfl (by decide)) ?_
      refine w_val rfl rfl (op_loadC 4 hS rfl rfl rfl (Nat.le_of_ble_eq_true rfl) rfl) ?_
      refine w_val rfl rfl (op_pure rfl) ?_
      refine w_nil ?_
      refine then_n ?_
      refine wc_condT rfl (fun h27 => ?_) (fun h27 => ?_)
      · simp only [beq_iff_eq] at h27
        obtain ⟨hy0, hyn⟩ := hcall x (List.mem_of_getElem? hx) y (List.mem_of_getElem? hy) h27
        obtain ⟨b, hb⟩ : ∃ b : Nat, y.a = b := ⟨y.a.toNat, by omega⟩
        have hbn : b < mm.funcs.length := by omega
        obtain ⟨yo, ya⟩ := y
        simp only at hb h27
        subst hb
        refine wc_region ?_
        refine w_val rfl rfl (op_loadC 2 hS rfl rfl rfl (Nat.le_of_ble_eq_true rfl) rfl) ?_
        refine w_val rfl rfl (op_fldP rfl rfl rfl rfl (by decide)) ?_
        refine w_val rfl rfl (op_loadC 4 hS rfl rfl rfl (Nat.le_of_ble_eq_true rfl) rfl) ?_
        refine w_call rfl rfl (op_call rfl rfl rfl rfl) (hvisit l1 b _ (by rw [hI.len]; exact hl) hbn hcn (show SH s0 [ptC (.ptr p2 0 0) [vg, va, vh, vf], ptC (.ptr p5 0 0) [sv], ptC (.ptr p6 0 0) [.fn 89 [.ptr p5 0 0, .ptr p2 0 0, .ptr p6 0 0]], rowC sv 1 (l1.map bC)] z from hS.sel [0, 1, 2, 3] rfl (by decide))) ?_
        rintro _ z ⟨rfl, l2, hS, hD⟩
        have hI2 := hI.call hx hy h27 rfl hD
        have hcn2 : cntF l2 < u := Nat.lt_of_le_of_lt (cntF_le hD.len.symm hD.mono) hcn
        refine w_nil ?_
        refine out_n ?_
        refine then_n ?_
        refine wc_region ?_
        refine w_val rfl rfl (op_add rfl rfl (by unfold In64; omega)) ?_
        refine w_val rfl rfl (op_pure rfl) ?_
        refine w_nil ?_
        exact round_n _ _ (by omega) (Sub.cons rfl (Sub.cons rfl (Sub.cons rfl (Sub.cons rfl (Sub.cons rfl (Sub.cons rfl (Sub.cons rfl (Sub.nil _)))))))) ⟨q + 1, l2, rfl, by omega, rfl, hS, hI2, hcn2⟩
      simp only [beq_eq_false_iff_ne, ne_eq] at h27
      refine wc_skip ?_
      refine out_n ?_
      refine then_n ?_
      refine wc_region ?_
      refine w_val rfl rfl (op_add rfl rfl (by unfold In64; omega)) ?_
      refine w_val rfl rfl (op_pure rfl) ?_
      refine w_nil ?_
      exact round_n _ _ (by omega) (Sub.cons rfl (Sub.cons rfl (Sub.cons rfl (Sub.cons rfl (Sub.cons rfl (Sub.cons rfl (Sub.cons rfl (Sub.nil _)))))))) ⟨q + 1, l1, rfl, by omega, rfl, hS.sel [0, 1, 2, 3] rfl (by decide), hI.skip hy h27, hcn⟩
    simp only [decide_eq_false_iff_not] at h22
    obtain rfl : q = x.code.length := by omega
    refine wc_exit ?_
    repeat first | refine then_x ?_ | refine round_x ?_ | refine cut_x ?_ | refine out_x' (by decide) ?_
    refine out_x ?_
    exact ⟨_, rfl, rfl, l1, hS, hI.all hx⟩
end Go.Ab
