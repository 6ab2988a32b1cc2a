/- Parts of one proof, put together: N5 D39 D40 H25 N6 D41 D42 D43 N2 D34 D35 N7 D44 H26 H27 D45. -/
import Derived.Test.YtdpdlmjlahehoaaTrimModules1
/- Which nodes are reached. -/
namespace Go.Ab
open Go.Proofs
def EdN (l : List InstrL) (a b : Nat) : Prop := ((b : Nat) : Int) ∈ nextA l a
inductive RN (l : List InstrL) (f : Nat) : Nat → Prop where
  | here : RN l f f
  | step {a b : Nat} : RN l f a → EdN l a b → RN l f b
def MkN (l : List InstrL) (f : Nat) (L : List Bool) : Prop := L.length = l.length + 1 ∧ ∀ k, Tk L k ↔ RN l f k
theorem nextA_in {l : List InstrL} {a : Nat} {b : Int} (h : b ∈ nextA l a) : 0 ≤ b ∧ b ≤ (l.length : Int) := by
  unfold nextA at h
  split at h
  · rename_i y hy
    have ha := (List.getElem?_eq_some_iff.1 hy).1
    exact nextN_in (by omega) (by omega) (by omega) h
  · cases h
theorem rep_noTk {n k : Nat} : ¬ Tk (List.replicate n false) k := fun h => by
  have := List.mem_of_getElem? h
  rw [List.mem_replicate] at this
  exact Bool.noConfusion this.2
section
variable {l : List InstrL} {f : Nat} {L : List Bool} {todo : List Nat} {a b : Nat}
structure VisI (l : List InstrL) (f : Nat) (L : List Bool) (todo : List Nat) : Prop where
  len : L.length = l.length + 1
  here : Tk L f
  sound : ∀ k, Tk L k → RN l f k
  inL : ∀ k ∈ todo, Tk L k
  clo : ∀ k, Tk L k → k ∉ todo → ∀ b, EdN l k b → Tk L b
  cnt : todo.length + cntF L ≤ l.length + 1
theorem cntF_rep' (n : Nat) : cntF (List.replicate n false) = n := by unfold cntF; rw [List.countP_replicate]; rfl
theorem VisI.start (hf : f < l.length + 1) : VisI l f ((List.replicate (l.length + 1) false).set f true) [f] := by
  have hl : f < (List.replicate (l.length + 1) false).length := by rw [List.length_replicate]; exact hf
  refine ⟨by simp, (Tk_set hl).2 (.inl rfl), fun k hk => ?_, fun k hk => ?_, fun k hk hn => ?_, ?_⟩
  · rcases (Tk_set hl).1 hk with rfl | h
    · exact .here
    · exact (rep_noTk h).elim
  · rw [List.mem_singleton.1 hk]; exact (Tk_set hl).2 (.inl rfl)
  · rcases (Tk_set hl).1 hk with rfl | h
    · exact (hn (List.mem_singleton.2 rfl)).elim
    · exact (rep_noTk h).elim
  · have hr : (List.replicate (l.length + 1) false)[f]? = some false := by rw [List.getElem?_replicate, if_pos hf]
    have := cntF_set hr
    rw [cntF_rep'] at this
    rw [List.length_singleton]; omega
theorem VisI.push (h : VisI l f L todo) (ha : a ∈ todo) (he : EdN l a b) (hb : L[b]? = some false) : VisI l f (L.set b true) (todo ++ [b]) := by
  have hbl := (List.getElem?_eq_some_iff.1 hb).1
  refine ⟨by rw [List.length_set]; exact h.len, (Tk_set hbl).2 (.inr h.here), fun k hk => ?_, fun k hk => ?_, fun k hk hn c hc => ?_, by have := cntF_set hb; have := h.cnt; rw [List.length_append, List.length_singleton]; omega⟩
  · rcases (Tk_set hbl).1 hk with rfl | hk
    · exact .step (h.sound a (h.inL a ha)) he
    · exact h.sound k hk
  · rcases List.mem_append.1 hk with hk | hk
    · exact (Tk_set hbl).2 (.inr (h.inL k hk))
    · rw [List.mem_singleton.1 hk]; exact (Tk_set hbl).2 (.inl rfl)
  · rcases (Tk_set hbl).1 hk with rfl | hk
    · exact (hn (List.mem_append.2 (.inr (List.mem_singleton.2 rfl)))).elim
    · exact (Tk_set hbl).2 (.inr (h.clo k hk (fun h' => hn (List.mem_append.2 (.inl h'))) c hc))
theorem VisI.pop {t : List Nat} (h : VisI l f L (t ++ [a])) (ha : ∀ b, EdN l a b → Tk L b) : VisI l f L t := by
  refine ⟨h.len, h.here, h.sound, fun k hk => h.inL k (List.mem_append.2 (.inl hk)), fun k hk hn c hc => ?_, by have := h.cnt; rw [List.length_append, List.length_singleton] at this; omega⟩
  by_cases e : k = a
  · subst e; exact ha c hc
  · exact h.clo k hk (fun h' => by rcases List.mem_append.1 h' with h' | h'; exact hn h'; exact e (List.mem_singleton.1 h')) c hc
theorem VisI.marks (h : VisI l f L []) : MkN l f L := by
  refine ⟨h.len, fun k => ⟨h.sound k, fun hk => ?_⟩⟩
  induction hk with
  | here => exact h.here
  | step _ e ih => exact h.clo _ ih (fun h => by cases h) _ e
structure BfsI (l : List InstrL) (f : Nat) (L : List Bool) (todo : List Nat) (k : Nat) : Prop where
  len : L.length = l.length + 1
  sound : ∀ k, Tk L k → RN l f k
  mem : ∀ c, Tk L c ↔ c ∈ todo
  here : f ∈ todo
  cnt : todo.length + cntF L = l.length + 1
  done : ∀ (j c : Nat), j < k → todo[j]? = some c → ∀ b, EdN l c b → Tk L b
theorem BfsI.start (hf : f < l.length + 1) : BfsI l f ((List.replicate (l.length + 1) false).set f true) [f] 0 := by
  have hl : f < (List.replicate (l.length + 1) false).length := by rw [List.length_replicate]; exact hf
  have hr : (List.replicate (l.length + 1) false)[f]? = some false := by rw [List.getElem?_replicate, if_pos hf]
  refine ⟨by simp, fun k hk => ?_, fun c => ?_, List.mem_singleton.2 rfl, ?_, fun j c h => by omega⟩
  · rcases (Tk_set hl).1 hk with rfl | h
    · exact .here
    · exact (rep_noTk h).elim
  · rw [Tk_set hl, List.mem_singleton]
    exact ⟨fun h => h.elim id fun h => (rep_noTk h).elim, .inl⟩
  · have := cntF_set hr
    rw [cntF_rep'] at this
    rw [List.length_singleton]; omega
theorem BfsI.add {k c : Nat} (h : BfsI l f L todo k) (hc : todo[k]? = some c) (he : EdN l c b) (hb : L[b]? = some false) : BfsI l f (L.set b true) (todo ++ [b]) k := by
  have hbl := (List.getElem?_eq_some_iff.1 hb).1
  refine ⟨by rw [List.length_set]; exact h.len, fun k hk => ?_, fun c => ?_, List.mem_append.2 (.inl h.here), ?_, fun j c' hj hc' d hd => ?_⟩
  · rcases (Tk_set hbl).1 hk with rfl | hk
    · exact .step (h.sound c ((h.mem c).2 (List.mem_of_getElem? hc))) he
    · exact h.sound k hk
  · rw [Tk_set hbl, h.mem, List.mem_append, List.mem_singleton]
    exact ⟨fun h => h.symm, fun h => h.symm⟩
  · have := cntF_set hb
    have := h.cnt
    rw [List.length_append, List.length_singleton]; omega
  · have hk := (List.getElem?_eq_some_iff.1 hc).1
    rw [List.getElem?_append_left (by omega)] at hc'
    exact (Tk_set hbl).2 (.inr (h.done j c' hj hc' d hd))
theorem BfsI.next {k c : Nat} (h : BfsI l f L todo k) (hc : todo[k]? = some c) (ha : ∀ b, EdN l c b → Tk L b) : BfsI l f L todo (k + 1) :=
  ⟨h.len, h.sound, h.mem, h.here, h.cnt, fun j c' hj hc' b hb => by
    rcases Nat.lt_succ_iff_lt_or_eq.1 hj with hj | rfl
    · exact h.done j c' hj hc' b hb
    · rw [hc] at hc'; cases hc'; exact ha b hb⟩
theorem BfsI.marks (h : BfsI l f L todo todo.length) : MkN l f L := by
  refine ⟨h.len, fun k => ⟨h.sound k, fun hk => ?_⟩⟩
  induction hk with
  | here => exact (h.mem f).2 h.here
  | step _ e ih =>
    obtain ⟨j, hj⟩ := List.getElem?_of_mem ((h.mem _).1 ih)
    exact h.done j _ (List.getElem?_eq_some_iff.1 hj).1 hj _ e
end
def tI (t : List Nat) : List Int := t.map fun k : Nat => (k : Int)
theorem tI_get {t : List Nat} {i k : Nat} (h : t[i]? = some k) : (tI t)[i]? = some (k : Int) := by unfold tI; rw [List.getElem?_map, h]; rfl
theorem tI_len (t : List Nat) : (tI t).length = t.length := List.length_map ..
theorem tI_app (t : List Nat) (a : Nat) : tI (t ++ [a]) = tI t ++ [(a : Int)] := by simp [tI]
end Go.Ab
/- graph.Reach. -/
namespace Go.Ab
open Go.Proofs
section
variable {P : Program} {T : Tab} {K : FuncId → Option Bool} {nt : Nat} {ops : Array Oper} {rest : List Oper} {m : Sy} {s s0 : St} {Q : Sy → St → Prop} {d ty : Nat} {pos : String} {af : Array Edge} {g : Option (Nat × Bool)} {L : List Chunk}
theorem ws_lit1C {tt e : TypeId} {parts : Array (Nat × Operand)} {i ie : TI} {ps : List (Nat × AV)} {c : List AV} {sz : Nat} (hS : SH s0 L s) (hg : guardY ops m g = some true) (hd : Nat.ble (d + 1) nt = true) (hT : T tt = some i) (hs : i.sh = .slice e) (he : T e = some ie) (hp : evPartsY m parts.toList = some ps)
    (hsz : ie.size = sz) (hz : ie.zero.length = ie.size) (h0 : ie.size ≠ 0) (h24 : ie.size ≤ 2 ^ 24) (hf : fillA (fun n => some (n * ie.size, ie.size)) ie.zero ps = some c) (hl : c.all AV.leaf = true) (hcl : c.length = ie.size)
    (k : ∀ v s', SH s0 (L ++ [rowC v sz [c]]) s' → v.gs ≠ [] → W P T K nt ops rest ((d, v) :: m) s' Q) : W P T K nt ops (⟨some d, .buildSlice tt 1 parts, ty, pos, af, g⟩ :: rest) m s Q := by
  subst hsz
  exact w_lit1 hg hd hT hs he hp hz h0 h24 hf hl hcl hS.ok fun v s' hv hk hc hvg => k v s' (hS.add hk _ ⟨hv, fun h => by rw [hvg] at h; cases h⟩ (row_newb hk hv hvg hc)) (by rw [hvg]; simp)
end
theorem RowCut {s0 s : St} {L : List Chunk} {v : AV} {sz n h : Nat} {α : Type} {f : α → List AV} {xs : List α} (hS : SH s0 L s) (hn : L[n]? = some (rowC v sz (xs.map f))) (hh : h ≤ xs.length) : SH s0 (L.set n (rowC (cutA v 0 h) sz ((xs.take h).map f))) s :=
  hS.as n hn _ ⟨(hS.row n hn).cutF hh, fun e => by rw [cutA_gs] at e; rw [hS.nls n hn e]; rfl⟩ fun g hg => by have hg' : g ∈ (cutA v 0 h).gs := hg; rw [cutA_gs] at hg'; exact hg'
theorem snoc_cases {β : Type} (l : List β) : l = [] ∨ ∃ t a, l = t ++ [a] := by
  rcases List.eq_nil_or_concat l with h | ⟨t, a, h⟩
  · exact .inl h
  · exact .inr ⟨t, a, by rw [h, List.concat_eq_append]⟩
theorem tI_last (t : List Nat) (a : Nat) : (tI (t ++ [a]))[(tI (t ++ [a])).length - 1]? = some (a : Int) := by
  rw [tI_len, List.length_append, List.length_singleton, Nat.add_sub_cancel]
  exact tI_get (by simp)
theorem tI_take (t : List Nat) (a : Nat) : (tI (t ++ [a])).take ((tI (t ++ [a])).length - 1) = tI t := by
  rw [tI_len, List.length_append, List.length_singleton, Nat.add_sub_cancel, tI_app]
  rw [List.take_append_of_le_length (by rw [tI_len]; exact Nat.le_refl _), List.take_of_length_le (by rw [tI_len]; exact Nat.le_refl _)]
set_option maxRecDepth 10000 in
set_option maxHeartbeats 8000000 in
theorem visitN_ok {s : St} {l : List InstrL} {gf : FuncId} {caps : List AV} (hok : s.Ok) (hl : l.length ≤ 2097152)
    (hcl : ∀ (s' : St) (k : Nat), Keep [] s s' → CallS Try.prog Tt Kt gf (.int .i64 (k : Nat) :: caps) s' (fun r s'' => Keep [] s' s'' ∧ Row s''.h 1 r ((nextA l k).map iC))) :
    CallS Try.prog Tt Kt 61 [.int .i64 ((l.length : Nat) + 1), .int .i64 0, .fn gf caps] s (fun r s' => Keep [] s s' ∧ ∃ L, MkN l 0 L ∧ Row s'.h 1 r (L.map bC) ∧ (∀ g ∈ r.gs, s.ctr ≤ g) ∧ (r.gs = [] → r = .nils)) := by
  refine call_of (fn := Try.f61) (nt := 63) Try.func61 rfl rfl rfl ?_
  repeat refine wc_seq ?_
  have hS := SH.start hok
  have hK := hS.K
  refine wc_region ?_
  refine w_val rfl rfl (op_pure rfl) ?_
  refine w_nil ?_
  refine then_n ?_
  refine wc_scope ?_
  repeat refine wc_seq ?_
  refine wc_region ?_
  refine w_val rfl rfl (op_pure rfl) ?_
  refine ws_mk (n := l.length + 1) hS rfl rfl rfl rfl rfl rfl rfl rfl rfl (by decide) rfl (by simp only [maxBytes]; omega) (by omega) ?_
  rintro sv z hS hne hk
  have hS : SH s [rowC sv 1 ((List.replicate (l.length + 1) false).map bC)] z := by rw [← rep_bC]; exact hS
  have hK := hS.K
  refine w_val rfl rfl (op_pure rfl) ?_
  refine w_nil ?_
  refine then_n ?_
  repeat refine wc_seq ?_
  refine wc_region ?_
  refine w_val rfl rfl (op_pure rfl) ?_
  refine w_val rfl rfl (op_int (v := .bool false) rfl rfl (by decide) rfl) ?_
  refine w_val rfl rfl (op_pure rfl) ?_
  refine w_val rfl rfl (op_pure rfl) ?_
  refine w_val rfl rfl (op_pure rfl) ?_
  refine w_val rfl rfl (op_int (v := .bool false) rfl rfl (by decide) (show intA .geq .i64 0 ((l.length : Nat) + 1) = some (.bool false) from congrArg (fun b => some (AV.bool b)) (decide_eq_false (by omega)))) ?_
  refine w_val rfl rfl (op_pure rfl) ?_
  refine w_nil ?_
  refine then_n ?_
  repeat refine wc_seq ?_
  refine wc_cond_f rfl ?_
  refine wc_skip ?_
  refine then_n ?_
  repeat refine wc_seq ?_
  refine wc_region ?_
  refine w_val rfl rfl (op_pure rfl) ?_
  refine w_val rfl rfl (op_pure rfl) ?_
  refine w_val rfl rfl (op_idxF rfl rfl (natA_cast _ _) rfl rfl rfl rfl (hS.row 0 rfl) (by (simp; done))) ?_
  refine ws_storeE 0 hS rfl rfl rfl rfl rfl rfl rfl (by rfl) (by (simp; done)) ?_
  rintro z hS
  have hS : SH _ [_] z := hS
  have hK := hS.K
  refine w_nil ?_
  have hS : SH s [rowC sv 1 (((List.replicate (l.length + 1) false).set 0 true).map bC)] z := by rw [List.map_set]; exact hS
  have hI := VisI.start (l := l) (f := 0) (by omega)
  generalize (List.replicate (l.length + 1) false).set 0 true = L at hS hI
  refine then_n ?_
  repeat refine wc_seq ?_
  refine wc_region ?_
  refine w_val rfl rfl (op_pure rfl) ?_
  refine ws_lit1C hS rfl rfl rfl rfl rfl rfl rfl rfl (by decide) (by decide) rfl rfl rfl ?_
  rintro tv z hS hnt
  have hS : SH s [rowC sv 1 (L.map bC), rowC tv 1 ((tI [0]).map iC)] z := hS
  have hK := hS.K
  refine w_val rfl rfl (op_pure rfl) ?_
  refine w_nil ?_
  refine then_n ?_
  repeat refine wc_seq ?_
  refine wc_label ?_
  refine then_n ?_
  repeat refine wc_seq ?_
  refine wc_block ?_
  refine wc_loop_at (fun jj m z => ∃ (L : List Bool) (todo : List Nat) (tv : AV), jj = 2 * cntF L + todo.length ∧ m = [(2, .fn gf caps), (7, sv), (8, tv)] ∧ SH s [rowC sv 1 (L.map bC), rowC tv 1 ((tI todo).map iC)] z ∧ VisI l 0 L todo) (2 * cntF L + 1)
    [(2, .fn gf caps), (7, sv), (8, tv)] (Sub.cons rfl (Sub.cons rfl (Sub.cons rfl (Sub.nil _)))) ⟨L, [0], tv, rfl, rfl, hS, hI⟩ ?_
  clear hS hI hK hnt
  rintro jj m z ⟨L, todo, tv, rfl, rfl, hS, hI⟩
  have hK := hS.K
  have hLl := hI.len
  repeat refine wc_seq ?_
  refine wc_region ?_
  refine w_val rfl rfl (op_pure rfl) ?_
  refine w_val rfl rfl (op_len rfl rfl rfl rfl rfl (hS.row 1 rfl).slenF) ?_
  refine w_val rfl rfl (op_pure rfl) ?_
  refine w_nil ?_
  refine then_n ?_
  repeat refine wc_seq ?_
  refine wc_condT rfl (fun h29 => ?_) (fun h29 => ?_)
  · simp only [decide_eq_true_eq, gt_iff_lt] at h29
    obtain rfl | ⟨t, a, rfl⟩ := snoc_cases todo
    · simp [tI] at h29
    have hlen : 0 < (tI (t ++ [a])).length := by rw [tI_len]; simp
    have hll : (tI (t ++ [a])).length = t.length + 1 := by rw [tI_len]; simp
    have htl := tI_last t a
    have hct := hI.cnt
    rw [List.length_append, List.length_singleton] at hct
    refine wc_skip ?_
    refine then_n ?_
    refine wc_block ?_
    repeat refine wc_seq ?_
    refine wc_region ?_
    refine w_val rfl rfl (op_pure rfl) ?_
    refine w_val rfl rfl (op_pure rfl) ?_
    refine w_val rfl rfl (op_len rfl rfl rfl rfl rfl (hS.row 1 rfl).slenF) ?_
    refine w_val rfl rfl (op_sub rfl rfl (by unfold In64; omega)) ?_
    refine w_val rfl rfl (op_idxF rfl rfl (natA_pred _ hlen) rfl rfl rfl rfl (hS.row 1 rfl) (by omega)) ?_
    refine w_val rfl rfl (op_load rfl rfl (Row.mk_pt (hS.row 1 rfl) htl) rfl) ?_
    refine w_val rfl rfl (op_pure rfl) ?_
    refine w_nil ?_
    refine then_n ?_
    repeat refine wc_seq ?_
    refine wc_region ?_
    refine w_val rfl rfl (op_pure rfl) ?_
    refine w_val rfl rfl (op_pure rfl) ?_
    refine w_call rfl rfl (op_call rfl rfl rfl rfl) (hcl _ a hK) ?_
    rintro rv z ⟨hk, hr⟩
    have hS := hS.mov hk
    have hK := hS.K
    have hnl := nextA_len l a
    refine w_val rfl rfl (op_len rfl rfl rfl rfl rfl hr.slenF) ?_
    refine w_val rfl rfl (op_pure rfl) ?_
    refine w_nil ?_
    refine then_n ?_
    repeat refine wc_seq ?_
    refine wc_block ?_
    refine wc_loop_at (fun jj m z' => ∃ q : Nat, jj = (nextA l a).length - q ∧ q ≤ (nextA l a).length ∧ m = [(2, .fn gf caps), (7, sv), (8, tv), (38, rv), (39, .int .i64 ((nextA l a).length : Nat)), (40, .int .i64 (q : Nat))] ∧ z = z' ∧ ∀ (i b : Nat), i < q → (nextA l a)[i]? = some (b : Int) → Tk L b) (nextA l a).length
      [(2, .fn gf caps), (7, sv), (8, tv), (38, rv), (39, .int .i64 ((nextA l a).length : Nat)), (40, .int .i64 ((0 : Nat) : Int))] (Sub.cons rfl (Sub.cons rfl (Sub.cons rfl (Sub.cons rfl (Sub.cons rfl (Sub.cons rfl (Sub.nil _))))))) ⟨0, by simp, by simp, rfl, rfl, fun i b h => by omega⟩ ?_
    rintro j1 m1 _ ⟨q, rfl, hq, rfl, rfl, hT⟩
    repeat refine wc_seq ?_
    refine wc_region ?_
    refine w_val rfl rfl (op_pure rfl) ?_
    refine w_nil ?_
    refine then_n ?_
    repeat refine wc_seq ?_
    refine wc_condT rfl (fun h41 => ?_) (fun h41 => ?_)
    · simp only [decide_eq_true_eq] at h41
      refine wc_skip ?_
      refine then_n ?_
      repeat refine wc_seq ?_
      refine wc_block ?_
      repeat refine wc_seq ?_
      obtain ⟨bi, hbi⟩ : ∃ b, (nextA l a)[q]? = some b := ⟨_, List.getElem?_eq_getElem (by omega)⟩
      obtain ⟨hb0, hbn⟩ := nextA_in (List.mem_of_getElem? hbi)
      obtain ⟨b, rfl⟩ : ∃ b : Nat, bi = b := ⟨bi.toNat, by omega⟩
      obtain ⟨bb, hbb⟩ : ∃ x, L[b]? = some x := ⟨_, List.getElem?_eq_getElem (by omega)⟩
      refine wc_region ?_
      refine w_val rfl rfl (op_idxF rfl rfl (natA_cast _ _) rfl rfl rfl rfl hr (by omega)) ?_
      refine w_val rfl rfl (op_load rfl rfl (Row.mk_pt hr hbi) rfl) ?_
      refine w_val rfl rfl (op_pure rfl) ?_
      refine w_nil ?_
      refine then_n ?_
      repeat refine wc_seq ?_
      refine wc_region ?_
      refine w_val rfl rfl (op_pure rfl) ?_
      refine w_val rfl rfl (op_pure rfl) ?_
      refine w_val rfl rfl (op_idxF rfl rfl (natA_cast _ _) rfl rfl rfl rfl (hS.row 0 rfl) (by omega)) ?_
      refine w_val rfl rfl (op_load rfl rfl (Row.mk_pt (hS.row 0 rfl) (by assumption)) rfl) ?_
      refine w_val rfl rfl (op_pure rfl) ?_
      refine w_nil ?_
      refine then_n ?_
      refine wc_condT rfl (fun h48 => ?_) (fun h48 => ?_)
      · simp only [Bool.not_eq_true'] at h48
        subst h48
        repeat refine wc_seq ?_
        refine wc_region ?_
        refine w_val rfl rfl (op_pure rfl) ?_
        refine w_val rfl rfl (op_pure rfl) ?_
        refine w_val rfl rfl (op_idxF rfl rfl (natA_cast _ _) rfl rfl rfl rfl (hS.row 0 rfl) (by omega)) ?_
        refine ws_storeE 0 hS rfl rfl rfl rfl rfl rfl rfl (by rfl) (by (simp; omega)) ?_
        rintro z hS
        have hS : SH _ [_, _] z := hS
        have hK := hS.K
        refine w_nil ?_
        refine then_n ?_
        repeat refine wc_seq ?_
        have hcn := cntF_set hbb
        have hlc : (t ++ [a]).length = t.length + 1 := by simp
        have htb : t.length + 1 ≤ l.length + 1 + l.length + 1 ∨ True := .inr trivial
        refine wc_region ?_
        refine w_val rfl rfl (op_pure rfl) ?_
        refine w_val rfl rfl (op_pure rfl) ?_
        refine ws_lit1 hS rfl rfl rfl rfl rfl rfl rfl rfl (by decide) (by decide) rfl (by rfl) rfl ?_
        rintro lt54 z hS hk hlt54
        have hK := hS.K
        refine ws_append 1 hS rfl rfl rfl rfl rfl rfl rfl rfl rfl rfl rfl (by decide) (hlt54) (by (simp only [List.length_map, List.length_nil, List.length_cons, maxBytes]; omega)) (by (simp only [List.length_map, List.length_nil, List.length_cons, maxBytes]; omega)) ?_
        rintro at55 z hS
        have hS : SH _ [_, _] z := hS
        have hK := hS.K
        refine w_val rfl rfl (op_pure rfl) ?_
        refine w_nil ?_
        refine then_n ?_
        refine wc_exit ?_
        repeat first | refine then_x ?_ | refine round_x ?_ | refine cut_x ?_ | refine out_x' (by decide) ?_
        refine out_x ?_
        have hS : SH s [rowC sv 1 ((L.set b true).map bC), rowC at55 1 ((tI (t ++ [a] ++ [b])).map iC)] z := by rw [List.map_set, tI_app, List.map_append]; exact hS
        exact round_n _ _ (by rw [List.length_append, List.length_singleton]; omega) (Sub.cons rfl (Sub.cons rfl (Sub.cons rfl (Sub.nil _)))) ⟨L.set b true, t ++ [a] ++ [b], at55, rfl, rfl, hS, hI.push (List.mem_append.2 (.inr (List.mem_singleton.2 rfl))) (List.mem_of_getElem? hbi) hbb⟩
      simp only [Bool.not_eq_false'] at h48
      subst h48
      refine wc_skip ?_
      refine out_n ?_
      refine then_n ?_
      refine wc_region ?_
      refine w_val rfl rfl (op_add rfl rfl (by unfold In64; omega)) ?_
      refine w_val rfl rfl (op_pure rfl) ?_
      refine w_nil ?_
      exact round_n _ _ (by omega) (Sub.cons rfl (Sub.cons rfl (Sub.cons rfl (Sub.cons rfl (Sub.cons rfl (Sub.cons rfl (Sub.nil _))))))) ⟨q + 1, rfl, by omega, rfl, rfl, fun i b' hi h => (Nat.lt_succ_iff_lt_or_eq.1 hi).elim (fun h1 => hT i b' h1 h) (fun e => by
        subst e; rw [hbi] at h
        have : b = b' := by have := Option.some.inj h; omega
        rw [← this]; exact hbb)⟩
    simp only [decide_eq_false_iff_not] at h41
    obtain rfl : q = (nextA l a).length := by omega
    have hall : ∀ b, EdN l a b → Tk L b := fun b hb => by
      obtain ⟨i, hi⟩ := List.getElem?_of_mem hb
      exact hT i b (List.getElem?_eq_some_iff.1 hi).1 hi
    refine wc_exit ?_
    repeat first | refine then_x ?_ | refine round_x ?_ | refine cut_x ?_ | refine out_x' (by decide) ?_
    refine out_x ?_
    refine then_n ?_
    refine wc_region ?_
    refine w_val rfl rfl (op_pure rfl) ?_
    refine w_val rfl rfl (op_pure rfl) ?_
    refine w_val rfl rfl (op_len rfl rfl rfl rfl rfl (hS.row 1 rfl).slenF) ?_
    refine w_val rfl rfl (op_sub rfl rfl (by unfold In64; omega)) ?_
    refine w_val rfl rfl (op_cut (l := none) (h := some ((tI (t ++ [a])).length - 1)) (l' := 0) (h' := (tI (t ++ [a])).length - 1) rfl rfl (optY_some rfl (natA_pred _ hlen)) rfl rfl rfl rfl (hS.row 1 rfl) rfl rfl (Nat.zero_le _) (by rw [List.length_map]; omega)) ?_
    have hS : SH s [rowC sv 1 (L.map bC), rowC (cutA tv 0 ((tI (t ++ [a])).length - 1)) 1 ((tI t).map iC)] z := by
      have := RowCut hS (n := 1) rfl (h := (tI (t ++ [a])).length - 1) (by omega)
      rw [tI_take] at this
      exact this
    have hK := hS.K
    refine w_val rfl rfl (op_pure rfl) ?_
    refine w_nil ?_
    refine out_n ?_
    exact round_n _ _ (by rw [List.length_append, List.length_singleton]; omega) (Sub.cons rfl (Sub.cons rfl (Sub.cons rfl (Sub.nil _)))) ⟨L, t, _, rfl, rfl, hS, hI.pop hall⟩
  simp only [decide_eq_false_iff_not, gt_iff_lt] at h29
  obtain rfl : todo = [] := List.eq_nil_of_length_eq_zero (by have := tI_len todo; omega)
  have hM := hI.marks
  refine wc_exit ?_
  repeat first | refine then_x ?_ | refine round_x ?_ | refine cut_x ?_ | refine out_x' (by decide) ?_
  refine out_x ?_
  refine then_n ?_
  repeat refine wc_seq ?_
  refine wc_region ?_
  refine w_val rfl rfl (op_pure rfl) ?_
  refine w_val rfl rfl (op_pure rfl) ?_
  refine w_nil ?_
  refine then_n ?_
  refine wc_ret ?_
  repeat first | refine then_r ?_ | refine out_r ?_ | refine round_r ?_ | refine cut_r ?_ | refine sc_r ?_
  exact ⟨_, rfl, hK, L, hM, hS.row 0 rfl, fun g hg => (hS.bd 0 rfl g hg).1, hS.nls 0 rfl⟩
set_option maxRecDepth 10000 in
set_option maxHeartbeats 8000000 in
theorem reach1_ok {s : St} {p v c1 c2 c3 c4 c5 : AV} {l : List InstrL} {a : Nat} (hok : s.Ok) (hv : Row s.h 2 v (l.map inC)) (hl : l.length ≤ 2097152) (hz : ([c1, c2, c3, c4, c5, v] : List AV).all AV.leaf = true) (hp : Pt s.h p [c1, c2, c3, c4, c5, v]) :
    CallS Try.prog Tt Kt 62 [.int .i64 (a : Nat), p] s (fun r s' => Keep [] s s' ∧ Row s'.h 1 r ((nextA l a).map iC)) := by
  refine call_of (fn := Try.f62) (nt := 7) Try.func62 rfl rfl rfl ?_
  repeat refine wc_seq ?_
  refine wc_region ?_
  refine w_val rfl rfl (op_pure rfl) ?_
  refine w_nil ?_
  refine then_n ?_
  repeat refine wc_seq ?_
  refine wc_region ?_
  refine w_val rfl rfl (op_load rfl rfl (by assumption) rfl) ?_
  refine w_val rfl rfl (op_pure rfl) ?_
  refine w_call rfl rfl (op_call rfl rfl rfl rfl) (next_ok hok hv hl hz) ?_
  rintro _ z ⟨hk, hr, -, -⟩
  refine w_val rfl rfl (op_pure rfl) ?_
  refine w_nil ?_
  refine then_n ?_
  refine wc_ret ?_
  repeat first | refine then_r ?_ | refine out_r ?_ | refine round_r ?_ | refine cut_r ?_ | refine sc_r ?_
  exact ⟨_, rfl, hk, hr⟩
set_option maxRecDepth 10000 in
set_option maxHeartbeats 8000000 in
theorem reach_ok {s : St} {v c1 c2 c3 c4 c5 : AV} {l : List InstrL} (hok : s.Ok) (hv : Row s.h 2 v (l.map inC)) (hl : l.length ≤ 2097152) (hz : ([c1, c2, c3, c4, c5, v] : List AV).all AV.leaf = true) :
    CallS Try.prog Tt Kt 26 [.agg [c1, c2, c3, c4, c5, v], .int .i64 0] s (fun r s' => Keep [] s s' ∧ ∃ L, MkN l 0 L ∧ Row s'.h 1 r (L.map bC) ∧ (∀ g ∈ r.gs, s.ctr ≤ g) ∧ (r.gs = [] → r = .nils)) := by
  refine call_of (fn := Try.f26) (nt := 12) Try.func26 rfl rfl rfl ?_
  repeat refine wc_seq ?_
  have hS := SH.start hok
  refine wc_region ?_
  refine ws_box hS rfl rfl rfl hz ?_
  rintro p0 z hS hk
  have hS : SH _ [_] z := hS
  have hK := hS.K
  refine w_val rfl rfl (op_pure rfl) ?_
  refine w_nil ?_
  refine then_n ?_
  repeat refine wc_seq ?_
  refine wc_region ?_
  refine w_val rfl rfl (op_fldP rfl rfl rfl rfl (by decide)) ?_
  refine w_val rfl rfl (op_loadC 0 hS rfl rfl rfl (Nat.le_of_ble_eq_true rfl) rfl) ?_
  refine w_val rfl rfl (op_len rfl rfl rfl rfl rfl hv.slenF) ?_
  refine w_val rfl rfl (op_add rfl rfl (by unfold In64; omega)) ?_
  refine w_val rfl rfl (op_pure rfl) ?_
  refine w_val rfl rfl (op_pure rfl) ?_
  refine w_call rfl rfl (op_call rfl rfl rfl rfl) (visitN_ok hK.ok hl (fun s' k hk => reach1_ok hk.ok ((hv.keep0 hK).keep0 hk) hl hz ((hS.pt 0 rfl).keep0 hk))) ?_
  rintro rr z ⟨hk, L, hM, hr, hb, hn⟩
  have hc := hK.ctr
  refine w_val rfl rfl (op_pure rfl) ?_
  refine w_nil ?_
  refine then_n ?_
  refine wc_ret ?_
  repeat first | refine then_r ?_ | refine out_r ?_ | refine round_r ?_ | refine cut_r ?_ | refine sc_r ?_
  exact ⟨_, rfl, hK.two hk, L, hM, hr, fun g hg => Nat.le_trans hc (hb g hg), hn⟩
end Go.Ab
/- louverref14: the nodes behind one, and what is reached. -/
namespace Go.Ab
open Go.Proofs
set_option maxRecDepth 10000 in
set_option maxHeartbeats 8000000 in
theorem next_ref_ok {s : St} {v c1 c2 c3 c4 c5 : AV} {l : List InstrL} {a : Nat} (hok : s.Ok) (hv : Row s.h 2 v (l.map inC)) (hl : l.length ≤ 2097152) (hz : ([c1, c2, c3, c4, c5, v] : List AV).all AV.leaf = true) :
    CallS Try.prog Tt Kt 113 [.agg [c1, c2, c3, c4, c5, v], .int .i64 (a : Nat)] s (fun r s' => Keep [] s s' ∧ Row s'.h 1 r ((nextA l a).map iC) ∧ ∀ g ∈ r.gs, s.ctr ≤ g) := by
  refine call_of (fn := Try.f113) (nt := 94) Try.func113 rfl rfl rfl ?_
  repeat refine wc_seq ?_
  have hS := SH.start hok
  refine wc_region ?_
  refine ws_box hS rfl rfl rfl hz ?_
  rintro p0 z hS hk
  have hS : SH _ [_] z := hS
  have hK := hS.K
  refine w_val rfl rfl (op_pure rfl) ?_
  refine w_nil ?_
  refine then_n ?_
  repeat refine wc_seq ?_
  refine wc_region ?_
  refine w_val rfl rfl (op_pure rfl) ?_
  refine w_nil ?_
  refine then_n ?_
  repeat refine wc_seq ?_
  refine wc_region ?_
  refine w_val rfl rfl (op_fldP rfl rfl rfl rfl (by decide)) ?_
  refine w_val rfl rfl (op_loadC 0 hS rfl rfl rfl (Nat.le_of_ble_eq_true rfl) rfl) ?_
  refine w_val rfl rfl (op_len rfl rfl rfl rfl rfl hv.slenF) ?_
  refine w_val rfl rfl (op_pure rfl) ?_
  refine w_nil ?_
  refine then_n ?_
  repeat refine wc_seq ?_
  refine wc_region ?_
  refine w_val rfl rfl (op_pure rfl) ?_
  refine w_val rfl rfl (op_int (v := .bool false) rfl rfl (by decide) (show intA .lss .i64 (a : Nat) 0 = some (.bool false) from congrArg (fun b => some (AV.bool b)) (decide_eq_false (by omega)))) ?_
  refine w_val rfl rfl (op_pure rfl) ?_
  refine w_val rfl rfl (op_pure rfl) ?_
  refine w_val rfl rfl (op_pure rfl) ?_
  refine w_val rfl rfl (op_pure rfl) ?_
  refine w_val rfl rfl (op_pure rfl) ?_
  refine w_nil ?_
  refine then_n ?_
  repeat refine wc_seq ?_
  refine wc_condT rfl (fun h18 => ?_) (fun h18 => ?_)
  · simp only [decide_eq_true_eq, ge_iff_le] at h18
    repeat refine wc_seq ?_
    refine wc_region ?_
    refine w_val rfl rfl (op_pure rfl) ?_
    refine w_val rfl rfl (op_pure rfl) ?_
    refine w_nil ?_
    refine then_n ?_
    refine wc_ret ?_
    repeat first | refine then_r ?_ | refine out_r ?_ | refine round_r ?_ | refine cut_r ?_ | refine sc_r ?_
    have e : nextA l a = [] := by unfold nextA; rw [List.getElem?_eq_none (by omega)]
    exact ⟨_, rfl, hK, by rw [e]; exact row_nils _ _, fun g hg => by cases hg⟩
  simp only [decide_eq_false_iff_not, ge_iff_le] at h18
  refine wc_skip ?_
  refine then_n ?_
  repeat refine wc_seq ?_
  obtain ⟨y, hy⟩ : ∃ y, l[a]? = some y := ⟨_, List.getElem?_eq_getElem (by omega)⟩
  have hvz := hv.keep0 hK
  have ha : a < l.length := by omega
  have hnx : nextA l a = nextD l.length a y := by unfold nextA; rw [hy]; exact (next_same (by omega) (by omega) (by omega) y).symm
  refine wc_region ?_
  refine w_val rfl rfl (op_pure rfl) ?_
  refine w_val rfl rfl (op_add rfl rfl (by unfold In64; omega)) ?_
  refine w_val rfl rfl (op_pure rfl) ?_
  refine w_nil ?_
  refine then_n ?_
  repeat refine wc_seq ?_
  refine wc_region ?_
  refine w_val rfl rfl (op_pure rfl) ?_
  refine w_val rfl rfl (op_add rfl rfl (by unfold In64; omega)) ?_
  refine w_val rfl rfl (op_pure rfl) ?_
  refine w_nil ?_
  refine then_n ?_
  repeat refine wc_seq ?_
  refine wc_region ?_
  refine w_val rfl rfl (op_fldP rfl rfl rfl rfl (by decide)) ?_
  refine w_val rfl rfl (op_loadC 0 hS rfl rfl rfl (Nat.le_of_ble_eq_true rfl) rfl) ?_
  refine w_val rfl rfl (op_pure rfl) ?_
  refine w_val rfl rfl (op_idxF rfl rfl (natA_cast _ _) rfl rfl rfl rfl hvz (by omega)) ?_
  refine w_val rfl rfl (op_fld rfl rfl rfl rfl (by decide) (Row.mk_pt hvz hy) (Nat.le_of_ble_eq_true rfl)) ?_
  refine w_val rfl rfl (op_load rfl rfl ((Row.mk_pt hvz hy).fld _ (Nat.le_of_ble_eq_true rfl)) rfl) ?_
  refine w_nil ?_
  refine then_n ?_
  repeat refine wc_seq ?_
  refine wc_cut (fun m z => ∃ f g : Int, ¬ y.op = 46 ∧ f = fst1 l.length a y ∧ g = sec1 l.length a y ∧ Sub [(5, .nils), (6, .int .i64 (l.length : Nat)), (7, .int .i64 f), (8, .int .i64 g)] m ∧ SH s [ptC (.ptr p0 0 0) [c1, c2, c3, c4, c5, v]] z) ?_ ?_
  · refine wc_block ?_
    repeat refine wc_seq ?_
    refine wc_region ?_
    refine w_val rfl rfl (op_pure rfl) ?_
    refine w_val rfl rfl (op_pure rfl) ?_
    refine w_nil ?_
    refine then_n ?_
    repeat refine wc_seq ?_
    refine wc_condT rfl (fun h30 => ?_) (fun h30 => ?_)
    · simp only [beq_iff_eq] at h30
      refine wc_skip ?_
      refine then_n ?_
      refine wc_cond_t rfl ?_
      repeat refine wc_seq ?_
      refine wc_region ?_
      refine w_val rfl rfl (op_pure rfl) ?_
      refine w_val rfl rfl (op_pure rfl) ?_
      refine w_nil ?_
      refine then_n ?_
      repeat refine wc_seq ?_
      refine wc_region ?_
      refine w_val rfl rfl (op_fldP rfl rfl rfl rfl (by decide)) ?_
      refine w_val rfl rfl (op_loadC 0 hS rfl rfl rfl (Nat.le_of_ble_eq_true rfl) rfl) ?_
      refine w_val rfl rfl (op_pure rfl) ?_
      refine w_val rfl rfl (op_idxF rfl rfl (natA_cast _ _) rfl rfl rfl rfl hvz (by omega)) ?_
      refine w_val rfl rfl (op_fld rfl rfl rfl rfl (by decide) (Row.mk_pt hvz hy) (Nat.le_of_ble_eq_true rfl)) ?_
      refine w_val rfl rfl (op_load rfl rfl ((Row.mk_pt hvz hy).fld _ (Nat.le_of_ble_eq_true rfl)) rfl) ?_
      refine w_val rfl rfl (op_pure rfl) ?_
      refine w_val rfl rfl (op_pure rfl) ?_
      refine w_split (i := 41) rfl (fun h41 => ?_) (fun h41 => ?_)
      · simp only [decide_eq_true_eq, ge_iff_le] at h41
        refine w_val rfl rfl (op_fldP rfl rfl rfl rfl (by decide)) ?_
        refine w_val rfl rfl (op_loadC 0 hS rfl rfl rfl (Nat.le_of_ble_eq_true rfl) rfl) ?_
        refine w_val rfl rfl (op_pure rfl) ?_
        refine w_val rfl rfl (op_idxF rfl rfl (natA_cast _ _) rfl rfl rfl rfl hvz (by omega)) ?_
        refine w_val rfl rfl (op_fld rfl rfl rfl rfl (by decide) (Row.mk_pt hvz hy) (Nat.le_of_ble_eq_true rfl)) ?_
        refine w_val rfl rfl (op_load rfl rfl ((Row.mk_pt hvz hy).fld _ (Nat.le_of_ble_eq_true rfl)) rfl) ?_
        refine w_val rfl rfl (op_pure rfl) ?_
        refine w_val rfl rfl (op_pure rfl) ?_
        refine w_val rfl rfl (op_pure rfl) ?_
        refine w_nil ?_
        refine then_n ?_
        repeat refine wc_seq ?_
        refine wc_condT rfl (fun h50 => ?_) (fun h50 => ?_)
        · simp only [decide_eq_true_eq] at h50
          refine wc_region ?_
          refine w_val rfl rfl (op_fldP rfl rfl rfl rfl (by decide)) ?_
          refine w_val rfl rfl (op_loadC 0 hS rfl rfl rfl (Nat.le_of_ble_eq_true rfl) rfl) ?_
          refine w_val rfl rfl (op_pure rfl) ?_
          refine w_val rfl rfl (op_idxF rfl rfl (natA_cast _ _) rfl rfl rfl rfl hvz (by omega)) ?_
          refine w_val rfl rfl (op_fld rfl rfl rfl rfl (by decide) (Row.mk_pt hvz hy) (Nat.le_of_ble_eq_true rfl)) ?_
          refine w_val rfl rfl (op_load rfl rfl ((Row.mk_pt hvz hy).fld _ (Nat.le_of_ble_eq_true rfl)) rfl) ?_
          refine w_val rfl rfl (op_pure rfl) ?_
          refine w_nil ?_
          refine then_n ?_
          repeat refine wc_seq ?_
          refine wc_region ?_
          refine w_val rfl rfl (op_fldP rfl rfl rfl rfl (by decide)) ?_
          refine w_val rfl rfl (op_loadC 0 hS rfl rfl rfl (Nat.le_of_ble_eq_true rfl) rfl) ?_
          refine w_val rfl rfl (op_pure rfl) ?_
          refine w_val rfl rfl (op_idxF rfl rfl (natA_cast _ _) rfl rfl rfl rfl hvz (by omega)) ?_
          refine w_val rfl rfl (op_fld rfl rfl rfl rfl (by decide) (Row.mk_pt hvz hy) (Nat.le_of_ble_eq_true rfl)) ?_
          refine w_val rfl rfl (op_load rfl rfl ((Row.mk_pt hvz hy).fld _ (Nat.le_of_ble_eq_true rfl)) rfl) ?_
          refine w_val rfl rfl (op_pure rfl) ?_
          refine w_nil ?_
          refine then_n ?_
          refine wc_condT rfl (fun h63 => ?_) (fun h63 => ?_)
          · simp only [beq_iff_eq] at h63
            refine wc_region ?_
            refine w_val rfl rfl (op_pure rfl) ?_
            refine w_val rfl rfl (op_pure rfl) ?_
            refine w_nil ?_
            refine out_n ?_
            refine cut_n ?_
            first | exact absurd (by assumption : y.op = 43) (by assumption : ¬ y.op = 43) | exact ⟨_, _, by omega, by first
              | (unfold fst1 sec1; rw [if_pos (by assumption), if_pos (.inl (by assumption)), if_pos ⟨by assumption, by assumption⟩])
              | (unfold fst1 sec1; rw [if_pos (by assumption), if_pos (.inl (by assumption)), if_neg (by omega)])
              | (unfold fst1; rw [if_neg (by assumption)]), by first
              | (unfold sec1; rw [if_pos (.inl (by assumption)), if_pos ⟨by assumption, by assumption⟩])
              | (unfold sec1; rw [if_pos (.inl (by assumption)), if_neg (by omega)])
              | (unfold sec1; rw [if_pos (.inr (by assumption)), if_pos ⟨by assumption, by assumption⟩])
              | (unfold sec1; rw [if_pos (.inr (by assumption)), if_neg (by omega)])
              | (unfold sec1; rw [if_neg (by omega)]), (Sub.cons rfl (Sub.cons rfl (Sub.cons rfl (Sub.cons rfl (Sub.nil _))))), hS⟩
          simp only [beq_eq_false_iff_ne, ne_eq] at h63
          refine wc_skip ?_
          refine out_n ?_
          refine cut_n ?_
          first | exact absurd (by assumption : y.op = 43) (by assumption : ¬ y.op = 43) | exact ⟨_, _, by omega, by first
            | (unfold fst1 sec1; rw [if_pos (by assumption), if_pos (.inl (by assumption)), if_pos ⟨by assumption, by assumption⟩])
            | (unfold fst1 sec1; rw [if_pos (by assumption), if_pos (.inl (by assumption)), if_neg (by omega)])
            | (unfold fst1; rw [if_neg (by assumption)]), by first
            | (unfold sec1; rw [if_pos (.inl (by assumption)), if_pos ⟨by assumption, by assumption⟩])
            | (unfold sec1; rw [if_pos (.inl (by assumption)), if_neg (by omega)])
            | (unfold sec1; rw [if_pos (.inr (by assumption)), if_pos ⟨by assumption, by assumption⟩])
            | (unfold sec1; rw [if_pos (.inr (by assumption)), if_neg (by omega)])
            | (unfold sec1; rw [if_neg (by omega)]), (Sub.cons rfl (Sub.cons rfl (Sub.cons rfl (Sub.cons rfl (Sub.nil _))))), hS⟩
        simp only [decide_eq_false_iff_not] at h50
        refine wc_skip ?_
        refine then_n ?_
        repeat refine wc_seq ?_
        refine wc_region ?_
        refine w_val rfl rfl (op_fldP rfl rfl rfl rfl (by decide)) ?_
        refine w_val rfl rfl (op_loadC 0 hS rfl rfl rfl (Nat.le_of_ble_eq_true rfl) rfl) ?_
        refine w_val rfl rfl (op_pure rfl) ?_
        refine w_val rfl rfl (op_idxF rfl rfl (natA_cast _ _) rfl rfl rfl rfl hvz (by omega)) ?_
        refine w_val rfl rfl (op_fld rfl rfl rfl rfl (by decide) (Row.mk_pt hvz hy) (Nat.le_of_ble_eq_true rfl)) ?_
        refine w_val rfl rfl (op_load rfl rfl ((Row.mk_pt hvz hy).fld _ (Nat.le_of_ble_eq_true rfl)) rfl) ?_
        refine w_val rfl rfl (op_pure rfl) ?_
        refine w_nil ?_
        refine then_n ?_
        refine wc_condT rfl (fun h63 => ?_) (fun h63 => ?_)
        · simp only [beq_iff_eq] at h63
          refine wc_region ?_
          refine w_val rfl rfl (op_pure rfl) ?_
          refine w_val rfl rfl (op_pure rfl) ?_
          refine w_nil ?_
          refine out_n ?_
          refine cut_n ?_
          first | exact absurd (by assumption : y.op = 43) (by assumption : ¬ y.op = 43) | exact ⟨_, _, by omega, by first
            | (unfold fst1 sec1; rw [if_pos (by assumption), if_pos (.inl (by assumption)), if_pos ⟨by assumption, by assumption⟩])
            | (unfold fst1 sec1; rw [if_pos (by assumption), if_pos (.inl (by assumption)), if_neg (by omega)])
            | (unfold fst1; rw [if_neg (by assumption)]), by first
            | (unfold sec1; rw [if_pos (.inl (by assumption)), if_pos ⟨by assumption, by assumption⟩])
            | (unfold sec1; rw [if_pos (.inl (by assumption)), if_neg (by omega)])
            | (unfold sec1; rw [if_pos (.inr (by assumption)), if_pos ⟨by assumption, by assumption⟩])
            | (unfold sec1; rw [if_pos (.inr (by assumption)), if_neg (by omega)])
            | (unfold sec1; rw [if_neg (by omega)]), (Sub.cons rfl (Sub.cons rfl (Sub.cons rfl (Sub.cons rfl (Sub.nil _))))), hS⟩
        simp only [beq_eq_false_iff_ne, ne_eq] at h63
        refine wc_skip ?_
        refine out_n ?_
        refine cut_n ?_
        first | exact absurd (by assumption : y.op = 43) (by assumption : ¬ y.op = 43) | exact ⟨_, _, by omega, by first
          | (unfold fst1 sec1; rw [if_pos (by assumption), if_pos (.inl (by assumption)), if_pos ⟨by assumption, by assumption⟩])
          | (unfold fst1 sec1; rw [if_pos (by assumption), if_pos (.inl (by assumption)), if_neg (by omega)])
          | (unfold fst1; rw [if_neg (by assumption)]), by first
          | (unfold sec1; rw [if_pos (.inl (by assumption)), if_pos ⟨by assumption, by assumption⟩])
          | (unfold sec1; rw [if_pos (.inl (by assumption)), if_neg (by omega)])
          | (unfold sec1; rw [if_pos (.inr (by assumption)), if_pos ⟨by assumption, by assumption⟩])
          | (unfold sec1; rw [if_pos (.inr (by assumption)), if_neg (by omega)])
          | (unfold sec1; rw [if_neg (by omega)]), (Sub.cons rfl (Sub.cons rfl (Sub.cons rfl (Sub.cons rfl (Sub.nil _))))), hS⟩
      simp only [decide_eq_false_iff_not, ge_iff_le] at h41
      refine w_off rfl rfl ?_
      refine w_off rfl rfl ?_
      refine w_off rfl rfl ?_
      refine w_off rfl rfl ?_
      refine w_off rfl rfl ?_
      refine w_off rfl rfl ?_
      refine w_off rfl rfl ?_
      refine w_off rfl rfl ?_
      refine w_val rfl rfl (op_pure rfl) ?_
      refine w_nil ?_
      refine then_n ?_
      repeat refine wc_seq ?_
      refine wc_cond_f rfl ?_
      refine wc_skip ?_
      refine then_n ?_
      repeat refine wc_seq ?_
      refine wc_region ?_
      refine w_val rfl rfl (op_fldP rfl rfl rfl rfl (by decide)) ?_
      refine w_val rfl rfl (op_loadC 0 hS rfl rfl rfl (Nat.le_of_ble_eq_true rfl) rfl) ?_
      refine w_val rfl rfl (op_pure rfl) ?_
      refine w_val rfl rfl (op_idxF rfl rfl (natA_cast _ _) rfl rfl rfl rfl hvz (by omega)) ?_
      refine w_val rfl rfl (op_fld rfl rfl rfl rfl (by decide) (Row.mk_pt hvz hy) (Nat.le_of_ble_eq_true rfl)) ?_
      refine w_val rfl rfl (op_load rfl rfl ((Row.mk_pt hvz hy).fld _ (Nat.le_of_ble_eq_true rfl)) rfl) ?_
      refine w_val rfl rfl (op_pure rfl) ?_
      refine w_nil ?_
      refine then_n ?_
      refine wc_condT rfl (fun h63 => ?_) (fun h63 => ?_)
      · simp only [beq_iff_eq] at h63
        refine wc_region ?_
        refine w_val rfl rfl (op_pure rfl) ?_
        refine w_val rfl rfl (op_pure rfl) ?_
        refine w_nil ?_
        refine out_n ?_
        refine cut_n ?_
        first | exact absurd (by assumption : y.op = 43) (by assumption : ¬ y.op = 43) | exact ⟨_, _, by omega, by first
          | (unfold fst1 sec1; rw [if_pos (by assumption), if_pos (.inl (by assumption)), if_pos ⟨by assumption, by assumption⟩])
          | (unfold fst1 sec1; rw [if_pos (by assumption), if_pos (.inl (by assumption)), if_neg (by omega)])
          | (unfold fst1; rw [if_neg (by assumption)]), by first
          | (unfold sec1; rw [if_pos (.inl (by assumption)), if_pos ⟨by assumption, by assumption⟩])
          | (unfold sec1; rw [if_pos (.inl (by assumption)), if_neg (by omega)])
          | (unfold sec1; rw [if_pos (.inr (by assumption)), if_pos ⟨by assumption, by assumption⟩])
          | (unfold sec1; rw [if_pos (.inr (by assumption)), if_neg (by omega)])
          | (unfold sec1; rw [if_neg (by omega)]), (Sub.cons rfl (Sub.cons rfl (Sub.cons rfl (Sub.cons rfl (Sub.nil _))))), hS⟩
      simp only [beq_eq_false_iff_ne, ne_eq] at h63
      refine wc_skip ?_
      refine out_n ?_
      refine cut_n ?_
      first | exact absurd (by assumption : y.op = 43) (by assumption : ¬ y.op = 43) | exact ⟨_, _, by omega, by first
        | (unfold fst1 sec1; rw [if_pos (by assumption), if_pos (.inl (by assumption)), if_pos ⟨by assumption, by assumption⟩])
        | (unfold fst1 sec1; rw [if_pos (by assumption), if_pos (.inl (by assumption)), if_neg (by omega)])
        | (unfold fst1; rw [if_neg (by assumption)]), by first
        | (unfold sec1; rw [if_pos (.inl (by assumption)), if_pos ⟨by assumption, by assumption⟩])
        | (unfold sec1; rw [if_pos (.inl (by assumption)), if_neg (by omega)])
        | (unfold sec1; rw [if_pos (.inr (by assumption)), if_pos ⟨by assumption, by assumption⟩])
        | (unfold sec1; rw [if_pos (.inr (by assumption)), if_neg (by omega)])
        | (unfold sec1; rw [if_neg (by omega)]), (Sub.cons rfl (Sub.cons rfl (Sub.cons rfl (Sub.cons rfl (Sub.nil _))))), hS⟩
    simp only [beq_eq_false_iff_ne, ne_eq] at h30
    refine wc_region ?_
    refine w_val rfl rfl (op_pure rfl) ?_
    refine w_val rfl rfl (op_pure rfl) ?_
    refine w_nil ?_
    refine then_n ?_
    refine wc_condT rfl (fun h30 => ?_) (fun h30 => ?_)
    · simp only [beq_iff_eq] at h30
      repeat refine wc_seq ?_
      refine wc_region ?_
      refine w_val rfl rfl (op_pure rfl) ?_
      refine w_val rfl rfl (op_pure rfl) ?_
      refine w_nil ?_
      refine then_n ?_
      repeat refine wc_seq ?_
      refine wc_region ?_
      refine w_val rfl rfl (op_fldP rfl rfl rfl rfl (by decide)) ?_
      refine w_val rfl rfl (op_loadC 0 hS rfl rfl rfl (Nat.le_of_ble_eq_true rfl) rfl) ?_
      refine w_val rfl rfl (op_pure rfl) ?_
      refine w_val rfl rfl (op_idxF rfl rfl (natA_cast _ _) rfl rfl rfl rfl hvz (by omega)) ?_
      refine w_val rfl rfl (op_fld rfl rfl rfl rfl (by decide) (Row.mk_pt hvz hy) (Nat.le_of_ble_eq_true rfl)) ?_
      refine w_val rfl rfl (op_load rfl rfl ((Row.mk_pt hvz hy).fld _ (Nat.le_of_ble_eq_true rfl)) rfl) ?_
      refine w_val rfl rfl (op_pure rfl) ?_
      refine w_val rfl rfl (op_pure rfl) ?_
      refine w_split (i := 41) rfl (fun h41 => ?_) (fun h41 => ?_)
      · simp only [decide_eq_true_eq, ge_iff_le] at h41
        refine w_val rfl rfl (op_fldP rfl rfl rfl rfl (by decide)) ?_
        refine w_val rfl rfl (op_loadC 0 hS rfl rfl rfl (Nat.le_of_ble_eq_true rfl) rfl) ?_
        refine w_val rfl rfl (op_pure rfl) ?_
        refine w_val rfl rfl (op_idxF rfl rfl (natA_cast _ _) rfl rfl rfl rfl hvz (by omega)) ?_
        refine w_val rfl rfl (op_fld rfl rfl rfl rfl (by decide) (Row.mk_pt hvz hy) (Nat.le_of_ble_eq_true rfl)) ?_
        refine w_val rfl rfl (op_load rfl rfl ((Row.mk_pt hvz hy).fld _ (Nat.le_of_ble_eq_true rfl)) rfl) ?_
        refine w_val rfl rfl (op_pure rfl) ?_
        refine w_val rfl rfl (op_pure rfl) ?_
        refine w_val rfl rfl (op_pure rfl) ?_
        refine w_nil ?_
        refine then_n ?_
        repeat refine wc_seq ?_
        refine wc_condT rfl (fun h50 => ?_) (fun h50 => ?_)
        · simp only [decide_eq_true_eq] at h50
          refine wc_region ?_
          refine w_val rfl rfl (op_fldP rfl rfl rfl rfl (by decide)) ?_
          refine w_val rfl rfl (op_loadC 0 hS rfl rfl rfl (Nat.le_of_ble_eq_true rfl) rfl) ?_
          refine w_val rfl rfl (op_pure rfl) ?_
          refine w_val rfl rfl (op_idxF rfl rfl (natA_cast _ _) rfl rfl rfl rfl hvz (by omega)) ?_
          refine w_val rfl rfl (op_fld rfl rfl rfl rfl (by decide) (Row.mk_pt hvz hy) (Nat.le_of_ble_eq_true rfl)) ?_
          refine w_val rfl rfl (op_load rfl rfl ((Row.mk_pt hvz hy).fld _ (Nat.le_of_ble_eq_true rfl)) rfl) ?_
          refine w_val rfl rfl (op_pure rfl) ?_
          refine w_nil ?_
          refine then_n ?_
          repeat refine wc_seq ?_
          refine wc_region ?_
          refine w_val rfl rfl (op_fldP rfl rfl rfl rfl (by decide)) ?_
          refine w_val rfl rfl (op_loadC 0 hS rfl rfl rfl (Nat.le_of_ble_eq_true rfl) rfl) ?_
          refine w_val rfl rfl (op_pure rfl) ?_
          refine w_val rfl rfl (op_idxF rfl rfl (natA_cast _ _) rfl rfl rfl rfl hvz (by omega)) ?_
          refine w_val rfl rfl (op_fld rfl rfl rfl rfl (by decide) (Row.mk_pt hvz hy) (Nat.le_of_ble_eq_true rfl)) ?_
          refine w_val rfl rfl (op_load rfl rfl ((Row.mk_pt hvz hy).fld _ (Nat.le_of_ble_eq_true rfl)) rfl) ?_
          refine w_val rfl rfl (op_pure rfl) ?_
          refine w_nil ?_
          refine then_n ?_
          refine wc_condT rfl (fun h63 => ?_) (fun h63 => ?_)
          · simp only [beq_iff_eq] at h63
            refine wc_region ?_
            refine w_val rfl rfl (op_pure rfl) ?_
            refine w_val rfl rfl (op_pure rfl) ?_
            refine w_nil ?_
            refine out_n ?_
            refine cut_n ?_
            first | exact absurd (by assumption : y.op = 43) (by assumption : ¬ y.op = 43) | exact ⟨_, _, by omega, by first
              | (unfold fst1 sec1; rw [if_pos (by assumption), if_pos (.inl (by assumption)), if_pos ⟨by assumption, by assumption⟩])
              | (unfold fst1 sec1; rw [if_pos (by assumption), if_pos (.inl (by assumption)), if_neg (by omega)])
              | (unfold fst1; rw [if_neg (by assumption)]), by first
              | (unfold sec1; rw [if_pos (.inl (by assumption)), if_pos ⟨by assumption, by assumption⟩])
              | (unfold sec1; rw [if_pos (.inl (by assumption)), if_neg (by omega)])
              | (unfold sec1; rw [if_pos (.inr (by assumption)), if_pos ⟨by assumption, by assumption⟩])
              | (unfold sec1; rw [if_pos (.inr (by assumption)), if_neg (by omega)])
              | (unfold sec1; rw [if_neg (by omega)]), (Sub.cons rfl (Sub.cons rfl (Sub.cons rfl (Sub.cons rfl (Sub.nil _))))), hS⟩
          simp only [beq_eq_false_iff_ne, ne_eq] at h63
          refine wc_skip ?_
          refine out_n ?_
          refine cut_n ?_
          first | exact absurd (by assumption : y.op = 43) (by assumption : ¬ y.op = 43) | exact ⟨_, _, by omega, by first
            | (unfold fst1 sec1; rw [if_pos (by assumption), if_pos (.inl (by assumption)), if_pos ⟨by assumption, by assumption⟩])
            | (unfold fst1 sec1; rw [if_pos (by assumption), if_pos (.inl (by assumption)), if_neg (by omega)])
            | (unfold fst1; rw [if_neg (by assumption)]), by first
            | (unfold sec1; rw [if_pos (.inl (by assumption)), if_pos ⟨by assumption, by assumption⟩])
            | (unfold sec1; rw [if_pos (.inl (by assumption)), if_neg (by omega)])
            | (unfold sec1; rw [if_pos (.inr (by assumption)), if_pos ⟨by assumption, by assumption⟩])
            | (unfold sec1; rw [if_pos (.inr (by assumption)), if_neg (by omega)])
            | (unfold sec1; rw [if_neg (by omega)]), (Sub.cons rfl (Sub.cons rfl (Sub.cons rfl (Sub.cons rfl (Sub.nil _))))), hS⟩
        simp only [decide_eq_false_iff_not] at h50
        refine wc_skip ?_
        refine then_n ?_
        repeat refine wc_seq ?_
        refine wc_region ?_
        refine w_val rfl rfl (op_fldP rfl rfl rfl rfl (by decide)) ?_
        refine w_val rfl rfl (op_loadC 0 hS rfl rfl rfl (Nat.le_of_ble_eq_true rfl) rfl) ?_
        refine w_val rfl rfl (op_pure rfl) ?_
        refine w_val rfl rfl (op_idxF rfl rfl (natA_cast _ _) rfl rfl rfl rfl hvz (by omega)) ?_
        refine w_val rfl rfl (op_fld rfl rfl rfl rfl (by decide) (Row.mk_pt hvz hy) (Nat.le_of_ble_eq_true rfl)) ?_
        refine w_val rfl rfl (op_load rfl rfl ((Row.mk_pt hvz hy).fld _ (Nat.le_of_ble_eq_true rfl)) rfl) ?_
        refine w_val rfl rfl (op_pure rfl) ?_
        refine w_nil ?_
        refine then_n ?_
        refine wc_condT rfl (fun h63 => ?_) (fun h63 => ?_)
        · simp only [beq_iff_eq] at h63
          refine wc_region ?_
          refine w_val rfl rfl (op_pure rfl) ?_
          refine w_val rfl rfl (op_pure rfl) ?_
          refine w_nil ?_
          refine out_n ?_
          refine cut_n ?_
          first | exact absurd (by assumption : y.op = 43) (by assumption : ¬ y.op = 43) | exact ⟨_, _, by omega, by first
            | (unfold fst1 sec1; rw [if_pos (by assumption), if_pos (.inl (by assumption)), if_pos ⟨by assumption, by assumption⟩])
            | (unfold fst1 sec1; rw [if_pos (by assumption), if_pos (.inl (by assumption)), if_neg (by omega)])
            | (unfold fst1; rw [if_neg (by assumption)]), by first
            | (unfold sec1; rw [if_pos (.inl (by assumption)), if_pos ⟨by assumption, by assumption⟩])
            | (unfold sec1; rw [if_pos (.inl (by assumption)), if_neg (by omega)])
            | (unfold sec1; rw [if_pos (.inr (by assumption)), if_pos ⟨by assumption, by assumption⟩])
            | (unfold sec1; rw [if_pos (.inr (by assumption)), if_neg (by omega)])
            | (unfold sec1; rw [if_neg (by omega)]), (Sub.cons rfl (Sub.cons rfl (Sub.cons rfl (Sub.cons rfl (Sub.nil _))))), hS⟩
        simp only [beq_eq_false_iff_ne, ne_eq] at h63
        refine wc_skip ?_
        refine out_n ?_
        refine cut_n ?_
        first | exact absurd (by assumption : y.op = 43) (by assumption : ¬ y.op = 43) | exact ⟨_, _, by omega, by first
          | (unfold fst1 sec1; rw [if_pos (by assumption), if_pos (.inl (by assumption)), if_pos ⟨by assumption, by assumption⟩])
          | (unfold fst1 sec1; rw [if_pos (by assumption), if_pos (.inl (by assumption)), if_neg (by omega)])
          | (unfold fst1; rw [if_neg (by assumption)]), by first
          | (unfold sec1; rw [if_pos (.inl (by assumption)), if_pos ⟨by assumption, by assumption⟩])
          | (unfold sec1; rw [if_pos (.inl (by assumption)), if_neg (by omega)])
          | (unfold sec1; rw [if_pos (.inr (by assumption)), if_pos ⟨by assumption, by assumption⟩])
          | (unfold sec1; rw [if_pos (.inr (by assumption)), if_neg (by omega)])
          | (unfold sec1; rw [if_neg (by omega)]), (Sub.cons rfl (Sub.cons rfl (Sub.cons rfl (Sub.cons rfl (Sub.nil _))))), hS⟩
      simp only [decide_eq_false_iff_not, ge_iff_le] at h41
      refine w_off rfl rfl ?_
      refine w_off rfl rfl ?_
      refine w_off rfl rfl ?_
      refine w_off rfl rfl ?_
      refine w_off rfl rfl ?_
      refine w_off rfl rfl ?_
      refine w_off rfl rfl ?_
      refine w_off rfl rfl ?_
      refine w_val rfl rfl (op_pure rfl) ?_
      refine w_nil ?_
      refine then_n ?_
      repeat refine wc_seq ?_
      refine wc_cond_f rfl ?_
      refine wc_skip ?_
      refine then_n ?_
      repeat refine wc_seq ?_
      refine wc_region ?_
      refine w_val rfl rfl (op_fldP rfl rfl rfl rfl (by decide)) ?_
      refine w_val rfl rfl (op_loadC 0 hS rfl rfl rfl (Nat.le_of_ble_eq_true rfl) rfl) ?_
      refine w_val rfl rfl (op_pure rfl) ?_
      refine w_val rfl rfl (op_idxF rfl rfl (natA_cast _ _) rfl rfl rfl rfl hvz (by omega)) ?_
      refine w_val rfl rfl (op_fld rfl rfl rfl rfl (by decide) (Row.mk_pt hvz hy) (Nat.le_of_ble_eq_true rfl)) ?_
      refine w_val rfl rfl (op_load rfl rfl ((Row.mk_pt hvz hy).fld _ (Nat.le_of_ble_eq_true rfl)) rfl) ?_
      refine w_val rfl rfl (op_pure rfl) ?_
      refine w_nil ?_
      refine then_n ?_
      refine wc_condT rfl (fun h63 => ?_) (fun h63 => ?_)
      · simp only [beq_iff_eq] at h63
        refine wc_region ?_
        refine w_val rfl rfl (op_pure rfl) ?_
        refine w_val rfl rfl (op_pure rfl) ?_
        refine w_nil ?_
        refine out_n ?_
        refine cut_n ?_
        first | exact absurd (by assumption : y.op = 43) (by assumption : ¬ y.op = 43) | exact ⟨_, _, by omega, by first
          | (unfold fst1 sec1; rw [if_pos (by assumption), if_pos (.inl (by assumption)), if_pos ⟨by assumption, by assumption⟩])
          | (unfold fst1 sec1; rw [if_pos (by assumption), if_pos (.inl (by assumption)), if_neg (by omega)])
          | (unfold fst1; rw [if_neg (by assumption)]), by first
          | (unfold sec1; rw [if_pos (.inl (by assumption)), if_pos ⟨by assumption, by assumption⟩])
          | (unfold sec1; rw [if_pos (.inl (by assumption)), if_neg (by omega)])
          | (unfold sec1; rw [if_pos (.inr (by assumption)), if_pos ⟨by assumption, by assumption⟩])
          | (unfold sec1; rw [if_pos (.inr (by assumption)), if_neg (by omega)])
          | (unfold sec1; rw [if_neg (by omega)]), (Sub.cons rfl (Sub.cons rfl (Sub.cons rfl (Sub.cons rfl (Sub.nil _))))), hS⟩
      simp only [beq_eq_false_iff_ne, ne_eq] at h63
      refine wc_skip ?_
      refine out_n ?_
      refine cut_n ?_
      first | exact absurd (by assumption : y.op = 43) (by assumption : ¬ y.op = 43) | exact ⟨_, _, by omega, by first
        | (unfold fst1 sec1; rw [if_pos (by assumption), if_pos (.inl (by assumption)), if_pos ⟨by assumption, by assumption⟩])
        | (unfold fst1 sec1; rw [if_pos (by assumption), if_pos (.inl (by assumption)), if_neg (by omega)])
        | (unfold fst1; rw [if_neg (by assumption)]), by first
        | (unfold sec1; rw [if_pos (.inl (by assumption)), if_pos ⟨by assumption, by assumption⟩])
        | (unfold sec1; rw [if_pos (.inl (by assumption)), if_neg (by omega)])
        | (unfold sec1; rw [if_pos (.inr (by assumption)), if_pos ⟨by assumption, by assumption⟩])
        | (unfold sec1; rw [if_pos (.inr (by assumption)), if_neg (by omega)])
        | (unfold sec1; rw [if_neg (by omega)]), (Sub.cons rfl (Sub.cons rfl (Sub.cons rfl (Sub.cons rfl (Sub.nil _))))), hS⟩
    simp only [beq_eq_false_iff_ne, ne_eq] at h30
    repeat refine wc_seq ?_
    refine wc_region ?_
    refine w_val rfl rfl (op_pure rfl) ?_
    refine w_val rfl rfl (op_pure rfl) ?_
    refine w_nil ?_
    refine then_n ?_
    refine wc_condT rfl (fun h65 => ?_) (fun h65 => ?_)
    · simp only [beq_iff_eq] at h65
      repeat refine wc_seq ?_
      refine wc_region ?_
      refine w_val rfl rfl (op_pure rfl) ?_
      refine ws_lit1C (sz := 1) hS rfl rfl rfl rfl rfl rfl rfl rfl (by decide) (by decide) rfl rfl rfl ?_
      rintro lt68 z hS hnl68
      have hK := hS.K
      refine w_val rfl rfl (op_pure rfl) ?_
      refine w_nil ?_
      refine then_n ?_
      refine wc_ret ?_
      repeat first | refine then_r ?_ | refine out_r ?_ | refine round_r ?_ | refine cut_r ?_ | refine sc_r ?_
      have e : nextA l a = [(l.length : Int)] := by rw [hnx]; unfold nextD; rw [if_pos (by assumption)]
      exact ⟨_, rfl, hK, by rw [e]; exact hS.row 1 rfl, fun g hg => (hS.bd 1 rfl g hg).1⟩
    simp only [beq_eq_false_iff_ne, ne_eq] at h65
    refine wc_skip ?_
    refine out_n ?_
    refine cut_n ?_
    first | exact absurd (by assumption : y.op = 43) (by assumption : ¬ y.op = 43) | exact ⟨_, _, by omega, by first
      | (unfold fst1 sec1; rw [if_pos (by assumption), if_pos (.inl (by assumption)), if_pos ⟨by assumption, by assumption⟩])
      | (unfold fst1 sec1; rw [if_pos (by assumption), if_pos (.inl (by assumption)), if_neg (by omega)])
      | (unfold fst1; rw [if_neg (by assumption)]), by first
      | (unfold sec1; rw [if_pos (.inl (by assumption)), if_pos ⟨by assumption, by assumption⟩])
      | (unfold sec1; rw [if_pos (.inl (by assumption)), if_neg (by omega)])
      | (unfold sec1; rw [if_pos (.inr (by assumption)), if_pos ⟨by assumption, by assumption⟩])
      | (unfold sec1; rw [if_pos (.inr (by assumption)), if_neg (by omega)])
      | (unfold sec1; rw [if_neg (by omega)]), (Sub.cons rfl (Sub.cons rfl (Sub.cons rfl (Sub.cons rfl (Sub.nil _))))), hS⟩
  rintro m z ⟨f, g, h46, hf, hg, hsub, hS⟩
  have hK := hS.K
  refine then_n ?_
  repeat refine wc_seq ?_
  refine wc_sub hsub ?_
  have hS := hS.nil 1
  have hS : SH s [ptC (.ptr p0 0 0) [c1, c2, c3, c4, c5, v], rowC .nils 1 (([] : List Int).map iC)] z := hS
  refine wc_region ?_
  refine w_val rfl rfl (op_pure rfl) ?_
  refine w_val rfl rfl (op_pure rfl) ?_
  refine w_val rfl rfl (op_pure rfl) ?_
  refine w_nil ?_
  refine then_n ?_
  repeat refine wc_seq ?_
  refine wc_condT rfl (fun h71 => ?_) (fun h71 => ?_)
  · simp only [decide_eq_true_eq, gt_iff_lt] at h71
    refine wc_region ?_
    refine w_val rfl rfl (op_pure rfl) ?_
    refine w_val rfl rfl (op_pure rfl) ?_
    refine w_val rfl rfl (op_pure rfl) ?_
    refine w_val rfl rfl (op_pure rfl) ?_
    refine w_nil ?_
    refine then_n ?_
    repeat refine wc_seq ?_
    refine wc_region ?_
    refine w_val rfl rfl (op_pure rfl) ?_
    refine w_val rfl rfl (op_pure rfl) ?_
    refine w_val rfl rfl (op_pure rfl) ?_
    refine w_nil ?_
    refine then_n ?_
    repeat refine wc_seq ?_
    refine wc_condT rfl (fun h76 => ?_) (fun h76 => ?_)
    · simp only [decide_eq_true_eq] at h76
      refine wc_region ?_
      refine w_val rfl rfl (op_pure rfl) ?_
      refine w_val rfl rfl (op_pure rfl) ?_
      refine ws_lit1 hS rfl rfl rfl rfl rfl rfl rfl rfl (by decide) (by decide) rfl (by first | rfl | assumption | exact Row.leaf (by assumption)) rfl ?_
      rintro lt79 z hS hk hlt79
      have hK := hS.K
      refine ws_append 1 hS rfl rfl rfl rfl rfl rfl rfl rfl rfl rfl rfl (by decide) (hlt79) (by first | (simp only [List.length_map, List.length_nil, List.length_cons, maxBytes]; omega) | (simp [maxBytes]; omega)) (by first | (simp only [List.length_map, List.length_nil, List.length_cons, maxBytes]; omega) | (simp [maxBytes]; omega)) ?_
      rintro at80 z hS
      have hS : SH _ [_, _] z := hS
      have hK := hS.K
      refine w_val rfl rfl (op_pure rfl) ?_
      refine w_nil ?_
      refine then_n ?_
      repeat refine wc_seq ?_
      refine wc_region ?_
      refine w_val rfl rfl (op_pure rfl) ?_
      refine w_val rfl rfl (op_pure rfl) ?_
      refine w_val rfl rfl (op_pure rfl) ?_
      refine w_val rfl rfl (op_pure rfl) ?_
      refine w_split (i := 84) rfl (fun h84 => ?_) (fun h84 => ?_)
      · simp only [decide_eq_true_eq] at h84
        refine w_val rfl rfl (op_pure rfl) ?_
        refine w_val rfl rfl (op_pure rfl) ?_
        refine w_val rfl rfl (op_pure rfl) ?_
        refine w_val rfl rfl (op_pure rfl) ?_
        refine w_nil ?_
        refine then_n ?_
        repeat refine wc_seq ?_
        refine wc_condT rfl (fun h88 => ?_) (fun h88 => ?_)
        · simp only [ne_eq, bne_iff_ne] at h88
          refine wc_region ?_
          refine w_val rfl rfl (op_pure rfl) ?_
          refine w_val rfl rfl (op_pure rfl) ?_
          refine ws_lit1 hS rfl rfl rfl rfl rfl rfl rfl rfl (by decide) (by decide) rfl (by first | rfl | assumption | exact Row.leaf (by assumption)) rfl ?_
          rintro lt91 z hS hk hlt91
          have hK := hS.K
          refine ws_append 1 hS rfl rfl rfl rfl rfl rfl rfl rfl rfl rfl rfl (by decide) (hlt91) (by first | (simp only [List.length_map, List.length_nil, List.length_append, List.length_cons, maxBytes]; omega) | (simp [maxBytes]; omega)) (by first | (simp only [List.length_map, List.length_nil, List.length_append, List.length_cons, maxBytes]; omega) | (simp [maxBytes]; omega)) ?_
          rintro at92 z hS
          have hS : SH _ [_, _] z := hS
          have hK := hS.K
          refine w_val rfl rfl (op_pure rfl) ?_
          refine w_nil ?_
          refine then_n ?_
          repeat refine wc_seq ?_
          refine wc_region ?_
          refine w_val rfl rfl (op_pure rfl) ?_
          refine w_val rfl rfl (op_pure rfl) ?_
          refine w_nil ?_
          refine then_n ?_
          refine wc_ret ?_
          repeat first | refine then_r ?_ | refine out_r ?_ | refine round_r ?_ | refine cut_r ?_ | refine sc_r ?_
          refine ⟨_, rfl, hK, ?_, fun g hg => (hS.bd 1 rfl g hg).1⟩
          have e : nextA l a = _ := hnx
          unfold nextD outN at e
          rw [if_neg h46, ← hf, ← hg] at e
          have hr := hS.row 1 rfl
          first
            | (rw [if_pos (by omega)] at e; rw [e]; first
                | (rw [if_pos (by omega), if_pos ⟨by omega, by omega⟩]; exact hr)
                | (rw [if_pos (by omega), if_neg (by omega)]; exact hr)
                | (rw [if_neg (by omega), if_pos ⟨by omega, by omega⟩]; exact hr)
                | (rw [if_neg (by omega), if_neg (by omega)]; exact hr))
            | (rw [if_neg (by omega)] at e; rw [e]; first
                | (rw [if_pos (by omega), if_pos ⟨by omega, by omega⟩]; exact hr)
                | (rw [if_pos (by omega), if_neg (by omega)]; exact hr)
                | (rw [if_neg (by omega), if_pos ⟨by omega, by omega⟩]; exact hr)
                | (rw [if_neg (by omega), if_neg (by omega)]; exact hr))
        simp only [bne_eq_false_iff_eq] at h88
        refine wc_skip ?_
        refine then_n ?_
        repeat refine wc_seq ?_
        refine wc_region ?_
        refine w_val rfl rfl (op_pure rfl) ?_
        refine w_val rfl rfl (op_pure rfl) ?_
        refine w_nil ?_
        refine then_n ?_
        refine wc_ret ?_
        repeat first | refine then_r ?_ | refine out_r ?_ | refine round_r ?_ | refine cut_r ?_ | refine sc_r ?_
        refine ⟨_, rfl, hK, ?_, fun g hg => (hS.bd 1 rfl g hg).1⟩
        have e : nextA l a = _ := hnx
        unfold nextD outN at e
        rw [if_neg h46, ← hf, ← hg] at e
        have hr := hS.row 1 rfl
        first
          | (rw [if_pos (by omega)] at e; rw [e]; first
              | (rw [if_pos (by omega), if_pos ⟨by omega, by omega⟩]; exact hr)
              | (rw [if_pos (by omega), if_neg (by omega)]; exact hr)
              | (rw [if_neg (by omega), if_pos ⟨by omega, by omega⟩]; exact hr)
              | (rw [if_neg (by omega), if_neg (by omega)]; exact hr))
          | (rw [if_neg (by omega)] at e; rw [e]; first
              | (rw [if_pos (by omega), if_pos ⟨by omega, by omega⟩]; exact hr)
              | (rw [if_pos (by omega), if_neg (by omega)]; exact hr)
              | (rw [if_neg (by omega), if_pos ⟨by omega, by omega⟩]; exact hr)
              | (rw [if_neg (by omega), if_neg (by omega)]; exact hr))
      simp only [decide_eq_false_iff_not] at h84
      refine w_off rfl rfl ?_
      refine w_off rfl rfl ?_
      refine w_off rfl rfl ?_
      refine w_val rfl rfl (op_pure rfl) ?_
      refine w_nil ?_
      refine then_n ?_
      repeat refine wc_seq ?_
      refine wc_cond_f rfl ?_
      refine wc_skip ?_
      refine then_n ?_
      repeat refine wc_seq ?_
      refine wc_region ?_
      refine w_val rfl rfl (op_pure rfl) ?_
      refine w_val rfl rfl (op_pure rfl) ?_
      refine w_nil ?_
      refine then_n ?_
      refine wc_ret ?_
      repeat first | refine then_r ?_ | refine out_r ?_ | refine round_r ?_ | refine cut_r ?_ | refine sc_r ?_
      refine ⟨_, rfl, hK, ?_, fun g hg => (hS.bd 1 rfl g hg).1⟩
      have e : nextA l a = _ := hnx
      unfold nextD outN at e
      rw [if_neg h46, ← hf, ← hg] at e
      have hr := hS.row 1 rfl
      first
        | (rw [if_pos (by omega)] at e; rw [e]; first
            | (rw [if_pos (by omega), if_pos ⟨by omega, by omega⟩]; exact hr)
            | (rw [if_pos (by omega), if_neg (by omega)]; exact hr)
            | (rw [if_neg (by omega), if_pos ⟨by omega, by omega⟩]; exact hr)
            | (rw [if_neg (by omega), if_neg (by omega)]; exact hr))
        | (rw [if_neg (by omega)] at e; rw [e]; first
            | (rw [if_pos (by omega), if_pos ⟨by omega, by omega⟩]; exact hr)
            | (rw [if_pos (by omega), if_neg (by omega)]; exact hr)
            | (rw [if_neg (by omega), if_pos ⟨by omega, by omega⟩]; exact hr)
            | (rw [if_neg (by omega), if_neg (by omega)]; exact hr))
    simp only [decide_eq_false_iff_not] at h76
    refine wc_skip ?_
    refine then_n ?_
    repeat refine wc_seq ?_
    refine wc_region ?_
    refine w_val rfl rfl (op_pure rfl) ?_
    refine w_val rfl rfl (op_pure rfl) ?_
    refine w_val rfl rfl (op_pure rfl) ?_
    refine w_val rfl rfl (op_pure rfl) ?_
    refine w_split (i := 84) rfl (fun h84 => ?_) (fun h84 => ?_)
    · simp only [decide_eq_true_eq] at h84
      refine w_val rfl rfl (op_pure rfl) ?_
      refine w_val rfl rfl (op_pure rfl) ?_
      refine w_val rfl rfl (op_pure rfl) ?_
      refine w_val rfl rfl (op_pure rfl) ?_
      refine w_nil ?_
      refine then_n ?_
      repeat refine wc_seq ?_
      refine wc_condT rfl (fun h88 => ?_) (fun h88 => ?_)
      · simp only [ne_eq, bne_iff_ne] at h88
        refine wc_region ?_
        refine w_val rfl rfl (op_pure rfl) ?_
        refine w_val rfl rfl (op_pure rfl) ?_
        refine ws_lit1 hS rfl rfl rfl rfl rfl rfl rfl rfl (by decide) (by decide) rfl (by first | rfl | assumption | exact Row.leaf (by assumption)) rfl ?_
        rintro lt91 z hS hk hlt91
        have hK := hS.K
        refine ws_append 1 hS rfl rfl rfl rfl rfl rfl rfl rfl rfl rfl rfl (by decide) (hlt91) (by first | (simp only [List.length_map, List.length_nil, List.length_cons, maxBytes]; omega) | (simp [maxBytes]; omega)) (by first | (simp only [List.length_map, List.length_nil, List.length_cons, maxBytes]; omega) | (simp [maxBytes]; omega)) ?_
        rintro at92 z hS
        have hS : SH _ [_, _] z := hS
        have hK := hS.K
        refine w_val rfl rfl (op_pure rfl) ?_
        refine w_nil ?_
        refine then_n ?_
        repeat refine wc_seq ?_
        refine wc_region ?_
        refine w_val rfl rfl (op_pure rfl) ?_
        refine w_val rfl rfl (op_pure rfl) ?_
        refine w_nil ?_
        refine then_n ?_
        refine wc_ret ?_
        repeat first | refine then_r ?_ | refine out_r ?_ | refine round_r ?_ | refine cut_r ?_ | refine sc_r ?_
        refine ⟨_, rfl, hK, ?_, fun g hg => (hS.bd 1 rfl g hg).1⟩
        have e : nextA l a = _ := hnx
        unfold nextD outN at e
        rw [if_neg h46, ← hf, ← hg] at e
        have hr := hS.row 1 rfl
        first
          | (rw [if_pos (by omega)] at e; rw [e]; first
              | (rw [if_pos (by omega), if_pos ⟨by omega, by omega⟩]; exact hr)
              | (rw [if_pos (by omega), if_neg (by omega)]; exact hr)
              | (rw [if_neg (by omega), if_pos ⟨by omega, by omega⟩]; exact hr)
              | (rw [if_neg (by omega), if_neg (by omega)]; exact hr))
          | (rw [if_neg (by omega)] at e; rw [e]; first
              | (rw [if_pos (by omega), if_pos ⟨by omega, by omega⟩]; exact hr)
              | (rw [if_pos (by omega), if_neg (by omega)]; exact hr)
              | (rw [if_neg (by omega), if_pos ⟨by omega, by omega⟩]; exact hr)
              | (rw [if_neg (by omega), if_neg (by omega)]; exact hr))
      simp only [bne_eq_false_iff_eq] at h88
      refine wc_skip ?_
      refine then_n ?_
      repeat refine wc_seq ?_
      refine wc_region ?_
      refine w_val rfl rfl (op_pure rfl) ?_
      refine w_val rfl rfl (op_pure rfl) ?_
      refine w_nil ?_
      refine then_n ?_
      refine wc_ret ?_
      repeat first | refine then_r ?_ | refine out_r ?_ | refine round_r ?_ | refine cut_r ?_ | refine sc_r ?_
      refine ⟨_, rfl, hK, ?_, fun g hg => (hS.bd 1 rfl g hg).1⟩
      have e : nextA l a = _ := hnx
      unfold nextD outN at e
      rw [if_neg h46, ← hf, ← hg] at e
      have hr := hS.row 1 rfl
      first
        | (rw [if_pos (by omega)] at e; rw [e]; first
            | (rw [if_pos (by omega), if_pos ⟨by omega, by omega⟩]; exact hr)
            | (rw [if_pos (by omega), if_neg (by omega)]; exact hr)
            | (rw [if_neg (by omega), if_pos ⟨by omega, by omega⟩]; exact hr)
            | (rw [if_neg (by omega), if_neg (by omega)]; exact hr))
        | (rw [if_neg (by omega)] at e; rw [e]; first
            | (rw [if_pos (by omega), if_pos ⟨by omega, by omega⟩]; exact hr)
            | (rw [if_pos (by omega), if_neg (by omega)]; exact hr)
            | (rw [if_neg (by omega), if_pos ⟨by omega, by omega⟩]; exact hr)
            | (rw [if_neg (by omega), if_neg (by omega)]; exact hr))
    simp only [decide_eq_false_iff_not] at h84
    refine w_off rfl rfl ?_
    refine w_off rfl rfl ?_
    refine w_off rfl rfl ?_
    refine w_val rfl rfl (op_pure rfl) ?_
    refine w_nil ?_
    refine then_n ?_
    repeat refine wc_seq ?_
    refine wc_cond_f rfl ?_
    refine wc_skip ?_
    refine then_n ?_
    repeat refine wc_seq ?_
    refine wc_region ?_
    refine w_val rfl rfl (op_pure rfl) ?_
    refine w_val rfl rfl (op_pure rfl) ?_
    refine w_nil ?_
    refine then_n ?_
    refine wc_ret ?_
    repeat first | refine then_r ?_ | refine out_r ?_ | refine round_r ?_ | refine cut_r ?_ | refine sc_r ?_
    refine ⟨_, rfl, hK, ?_, fun g hg => (hS.bd 1 rfl g hg).1⟩
    have e : nextA l a = _ := hnx
    unfold nextD outN at e
    rw [if_neg h46, ← hf, ← hg] at e
    have hr := hS.row 1 rfl
    first
      | (rw [if_pos (by omega)] at e; rw [e]; first
          | (rw [if_pos (by omega), if_pos ⟨by omega, by omega⟩]; exact hr)
          | (rw [if_pos (by omega), if_neg (by omega)]; exact hr)
          | (rw [if_neg (by omega), if_pos ⟨by omega, by omega⟩]; exact hr)
          | (rw [if_neg (by omega), if_neg (by omega)]; exact hr))
      | (rw [if_neg (by omega)] at e; rw [e]; first
          | (rw [if_pos (by omega), if_pos ⟨by omega, by omega⟩]; exact hr)
          | (rw [if_pos (by omega), if_neg (by omega)]; exact hr)
          | (rw [if_neg (by omega), if_pos ⟨by omega, by omega⟩]; exact hr)
          | (rw [if_neg (by omega), if_neg (by omega)]; exact hr))
  simp only [decide_eq_false_iff_not, gt_iff_lt] at h71
  refine wc_skip ?_
  refine then_n ?_
  repeat refine wc_seq ?_
  refine wc_region ?_
  refine w_val rfl rfl (op_pure rfl) ?_
  refine w_val rfl rfl (op_pure rfl) ?_
  refine w_val rfl rfl (op_pure rfl) ?_
  refine w_nil ?_
  refine then_n ?_
  repeat refine wc_seq ?_
  refine wc_condT rfl (fun h76 => ?_) (fun h76 => ?_)
  · simp only [decide_eq_true_eq] at h76
    refine wc_region ?_
    refine w_val rfl rfl (op_pure rfl) ?_
    refine w_val rfl rfl (op_pure rfl) ?_
    refine ws_lit1 hS rfl rfl rfl rfl rfl rfl rfl rfl (by decide) (by decide) rfl (by first | rfl | assumption | exact Row.leaf (by assumption)) rfl ?_
    rintro lt79 z hS hk hlt79
    have hK := hS.K
    refine ws_append 1 hS rfl rfl rfl rfl rfl rfl rfl rfl rfl rfl rfl (by decide) (hlt79) (by first | (simp only [List.length_map, List.length_nil, List.length_cons, maxBytes]; omega) | (simp [maxBytes]; omega)) (by first | (simp only [List.length_map, List.length_nil, List.length_cons, maxBytes]; omega) | (simp [maxBytes]; omega)) ?_
    rintro at80 z hS
    have hS : SH _ [_, _] z := hS
    have hK := hS.K
    refine w_val rfl rfl (op_pure rfl) ?_
    refine w_nil ?_
    refine then_n ?_
    repeat refine wc_seq ?_
    refine wc_region ?_
    refine w_val rfl rfl (op_pure rfl) ?_
    refine w_val rfl rfl (op_pure rfl) ?_
    refine w_val rfl rfl (op_pure rfl) ?_
    refine w_val rfl rfl (op_pure rfl) ?_
    refine w_split (i := 84) rfl (fun h84 => ?_) (fun h84 => ?_)
    · simp only [decide_eq_true_eq] at h84
      refine w_val rfl rfl (op_pure rfl) ?_
      refine w_val rfl rfl (op_pure rfl) ?_
      refine w_val rfl rfl (op_pure rfl) ?_
      refine w_val rfl rfl (op_pure rfl) ?_
      refine w_nil ?_
      refine then_n ?_
      repeat refine wc_seq ?_
      refine wc_condT rfl (fun h88 => ?_) (fun h88 => ?_)
      · simp only [ne_eq, bne_iff_ne] at h88
        refine wc_region ?_
        refine w_val rfl rfl (op_pure rfl) ?_
        refine w_val rfl rfl (op_pure rfl) ?_
        refine ws_lit1 hS rfl rfl rfl rfl rfl rfl rfl rfl (by decide) (by decide) rfl (by first | rfl | assumption | exact Row.leaf (by assumption)) rfl ?_
        rintro lt91 z hS hk hlt91
        have hK := hS.K
        refine ws_append 1 hS rfl rfl rfl rfl rfl rfl rfl rfl rfl rfl rfl (by decide) (hlt91) (by first | (simp only [List.length_map, List.length_nil, List.length_append, List.length_cons, maxBytes]; omega) | (simp [maxBytes]; omega)) (by first | (simp only [List.length_map, List.length_nil, List.length_append, List.length_cons, maxBytes]; omega) | (simp [maxBytes]; omega)) ?_
        rintro at92 z hS
        have hS : SH _ [_, _] z := hS
        have hK := hS.K
        refine w_val rfl rfl (op_pure rfl) ?_
        refine w_nil ?_
        refine then_n ?_
        repeat refine wc_seq ?_
        refine wc_region ?_
        refine w_val rfl rfl (op_pure rfl) ?_
        refine w_val rfl rfl (op_pure rfl) ?_
        refine w_nil ?_
        refine then_n ?_
        refine wc_ret ?_
        repeat first | refine then_r ?_ | refine out_r ?_ | refine round_r ?_ | refine cut_r ?_ | refine sc_r ?_
        refine ⟨_, rfl, hK, ?_, fun g hg => (hS.bd 1 rfl g hg).1⟩
        have e : nextA l a = _ := hnx
        unfold nextD outN at e
        rw [if_neg h46, ← hf, ← hg] at e
        have hr := hS.row 1 rfl
        first
          | (rw [if_pos (by omega)] at e; rw [e]; first
              | (rw [if_pos (by omega), if_pos ⟨by omega, by omega⟩]; exact hr)
              | (rw [if_pos (by omega), if_neg (by omega)]; exact hr)
              | (rw [if_neg (by omega), if_pos ⟨by omega, by omega⟩]; exact hr)
              | (rw [if_neg (by omega), if_neg (by omega)]; exact hr))
          | (rw [if_neg (by omega)] at e; rw [e]; first
              | (rw [if_pos (by omega), if_pos ⟨by omega, by omega⟩]; exact hr)
              | (rw [if_pos (by omega), if_neg (by omega)]; exact hr)
              | (rw [if_neg (by omega), if_pos ⟨by omega, by omega⟩]; exact hr)
              | (rw [if_neg (by omega), if_neg (by omega)]; exact hr))
      simp only [bne_eq_false_iff_eq] at h88
      refine wc_skip ?_
      refine then_n ?_
      repeat refine wc_seq ?_
      refine wc_region ?_
      refine w_val rfl rfl (op_pure rfl) ?_
      refine w_val rfl rfl (op_pure rfl) ?_
      refine w_nil ?_
      refine then_n ?_
      refine wc_ret ?_
      repeat first | refine then_r ?_ | refine out_r ?_ | refine round_r ?_ | refine cut_r ?_ | refine sc_r ?_
      refine ⟨_, rfl, hK, ?_, fun g hg => (hS.bd 1 rfl g hg).1⟩
      have e : nextA l a = _ := hnx
      unfold nextD outN at e
      rw [if_neg h46, ← hf, ← hg] at e
      have hr := hS.row 1 rfl
      first
        | (rw [if_pos (by omega)] at e; rw [e]; first
            | (rw [if_pos (by omega), if_pos ⟨by omega, by omega⟩]; exact hr)
            | (rw [if_pos (by omega), if_neg (by omega)]; exact hr)
            | (rw [if_neg (by omega), if_pos ⟨by omega, by omega⟩]; exact hr)
            | (rw [if_neg (by omega), if_neg (by omega)]; exact hr))
        | (rw [if_neg (by omega)] at e; rw [e]; first
            | (rw [if_pos (by omega), if_pos ⟨by omega, by omega⟩]; exact hr)
            | (rw [if_pos (by omega), if_neg (by omega)]; exact hr)
            | (rw [if_neg (by omega), if_pos ⟨by omega, by omega⟩]; exact hr)
            | (rw [if_neg (by omega), if_neg (by omega)]; exact hr))
    simp only [decide_eq_false_iff_not] at h84
    refine w_off rfl rfl ?_
    refine w_off rfl rfl ?_
    refine w_off rfl rfl ?_
    refine w_val rfl rfl (op_pure rfl) ?_
    refine w_nil ?_
    refine then_n ?_
    repeat refine wc_seq ?_
    refine wc_cond_f rfl ?_
    refine wc_skip ?_
    refine then_n ?_
    repeat refine wc_seq ?_
    refine wc_region ?_
    refine w_val rfl rfl (op_pure rfl) ?_
    refine w_val rfl rfl (op_pure rfl) ?_
    refine w_nil ?_
    refine then_n ?_
    refine wc_ret ?_
    repeat first | refine then_r ?_ | refine out_r ?_ | refine round_r ?_ | refine cut_r ?_ | refine sc_r ?_
    refine ⟨_, rfl, hK, ?_, fun g hg => (hS.bd 1 rfl g hg).1⟩
    have e : nextA l a = _ := hnx
    unfold nextD outN at e
    rw [if_neg h46, ← hf, ← hg] at e
    have hr := hS.row 1 rfl
    first
      | (rw [if_pos (by omega)] at e; rw [e]; first
          | (rw [if_pos (by omega), if_pos ⟨by omega, by omega⟩]; exact hr)
          | (rw [if_pos (by omega), if_neg (by omega)]; exact hr)
          | (rw [if_neg (by omega), if_pos ⟨by omega, by omega⟩]; exact hr)
          | (rw [if_neg (by omega), if_neg (by omega)]; exact hr))
      | (rw [if_neg (by omega)] at e; rw [e]; first
          | (rw [if_pos (by omega), if_pos ⟨by omega, by omega⟩]; exact hr)
          | (rw [if_pos (by omega), if_neg (by omega)]; exact hr)
          | (rw [if_neg (by omega), if_pos ⟨by omega, by omega⟩]; exact hr)
          | (rw [if_neg (by omega), if_neg (by omega)]; exact hr))
  simp only [decide_eq_false_iff_not] at h76
  refine wc_skip ?_
  refine then_n ?_
  repeat refine wc_seq ?_
  refine wc_region ?_
  refine w_val rfl rfl (op_pure rfl) ?_
  refine w_val rfl rfl (op_pure rfl) ?_
  refine w_val rfl rfl (op_pure rfl) ?_
  refine w_val rfl rfl (op_pure rfl) ?_
  refine w_split (i := 84) rfl (fun h84 => ?_) (fun h84 => ?_)
  · simp only [decide_eq_true_eq] at h84
    refine w_val rfl rfl (op_pure rfl) ?_
    refine w_val rfl rfl (op_pure rfl) ?_
    refine w_val rfl rfl (op_pure rfl) ?_
    refine w_val rfl rfl (op_pure rfl) ?_
    refine w_nil ?_
    refine then_n ?_
    repeat refine wc_seq ?_
    refine wc_condT rfl (fun h88 => ?_) (fun h88 => ?_)
    · simp only [ne_eq, bne_iff_ne] at h88
      refine wc_region ?_
      refine w_val rfl rfl (op_pure rfl) ?_
      refine w_val rfl rfl (op_pure rfl) ?_
      refine ws_lit1 hS rfl rfl rfl rfl rfl rfl rfl rfl (by decide) (by decide) rfl (by first | rfl | assumption | exact Row.leaf (by assumption)) rfl ?_
      rintro lt91 z hS hk hlt91
      have hK := hS.K
      refine ws_append 1 hS rfl rfl rfl rfl rfl rfl rfl rfl rfl rfl rfl (by decide) (hlt91) (by first | (simp only [List.length_map, List.length_nil, List.length_cons, maxBytes]; omega) | (simp [maxBytes]; omega)) (by first | (simp only [List.length_map, List.length_nil, List.length_cons, maxBytes]; omega) | (simp [maxBytes]; omega)) ?_
      rintro at92 z hS
      have hS : SH _ [_, _] z := hS
      have hK := hS.K
      refine w_val rfl rfl (op_pure rfl) ?_
      refine w_nil ?_
      refine then_n ?_
      repeat refine wc_seq ?_
      refine wc_region ?_
      refine w_val rfl rfl (op_pure rfl) ?_
      refine w_val rfl rfl (op_pure rfl) ?_
      refine w_nil ?_
      refine then_n ?_
      refine wc_ret ?_
      repeat first | refine then_r ?_ | refine out_r ?_ | refine round_r ?_ | refine cut_r ?_ | refine sc_r ?_
      refine ⟨_, rfl, hK, ?_, fun g hg => (hS.bd 1 rfl g hg).1⟩
      have e : nextA l a = _ := hnx
      unfold nextD outN at e
      rw [if_neg h46, ← hf, ← hg] at e
      have hr := hS.row 1 rfl
      first
        | (rw [if_pos (by omega)] at e; rw [e]; first
            | (rw [if_pos (by omega), if_pos ⟨by omega, by omega⟩]; exact hr)
            | (rw [if_pos (by omega), if_neg (by omega)]; exact hr)
            | (rw [if_neg (by omega), if_pos ⟨by omega, by omega⟩]; exact hr)
            | (rw [if_neg (by omega), if_neg (by omega)]; exact hr))
        | (rw [if_neg (by omega)] at e; rw [e]; first
            | (rw [if_pos (by omega), if_pos ⟨by omega, by omega⟩]; exact hr)
            | (rw [if_pos (by omega), if_neg (by omega)]; exact hr)
            | (rw [if_neg (by omega), if_pos ⟨by omega, by omega⟩]; exact hr)
            | (rw [if_neg (by omega), if_neg (by omega)]; exact hr))
    simp only [bne_eq_false_iff_eq] at h88
    refine wc_skip ?_
    refine then_n ?_
    repeat refine wc_seq ?_
    refine wc_region ?_
    refine w_val rfl rfl (op_pure rfl) ?_
    refine w_val rfl rfl (op_pure rfl) ?_
    refine w_nil ?_
    refine then_n ?_
    refine wc_ret ?_
    repeat first | refine then_r ?_ | refine out_r ?_ | refine round_r ?_ | refine cut_r ?_ | refine sc_r ?_
    refine ⟨_, rfl, hK, ?_, fun g hg => (hS.bd 1 rfl g hg).1⟩
    have e : nextA l a = _ := hnx
    unfold nextD outN at e
    rw [if_neg h46, ← hf, ← hg] at e
    have hr := hS.row 1 rfl
    first
      | (rw [if_pos (by omega)] at e; rw [e]; first
          | (rw [if_pos (by omega), if_pos ⟨by omega, by omega⟩]; exact hr)
          | (rw [if_pos (by omega), if_neg (by omega)]; exact hr)
          | (rw [if_neg (by omega), if_pos ⟨by omega, by omega⟩]; exact hr)
          | (rw [if_neg (by omega), if_neg (by omega)]; exact hr))
      | (rw [if_neg (by omega)] at e; rw [e]; first
          | (rw [if_pos (by omega), if_pos ⟨by omega, by omega⟩]; exact hr)
          | (rw [if_pos (by omega), if_neg (by omega)]; exact hr)
          | (rw [if_neg (by omega), if_pos ⟨by omega, by omega⟩]; exact hr)
          | (rw [if_neg (by omega), if_neg (by omega)]; exact hr))
  simp only [decide_eq_false_iff_not] at h84
  refine w_off rfl rfl ?_
  refine w_off rfl rfl ?_
  refine w_off rfl rfl ?_
  refine w_val rfl rfl (op_pure rfl) ?_
  refine w_nil ?_
  refine then_n ?_
  repeat refine wc_seq ?_
  refine wc_cond_f rfl ?_
  refine wc_skip ?_
  refine then_n ?_
  repeat refine wc_seq ?_
  refine wc_region ?_
  refine w_val rfl rfl (op_pure rfl) ?_
  refine w_val rfl rfl (op_pure rfl) ?_
  refine w_nil ?_
  refine then_n ?_
  refine wc_ret ?_
  repeat first | refine then_r ?_ | refine out_r ?_ | refine round_r ?_ | refine cut_r ?_ | refine sc_r ?_
  refine ⟨_, rfl, hK, ?_, fun g hg => (hS.bd 1 rfl g hg).1⟩
  have e : nextA l a = _ := hnx
  unfold nextD outN at e
  rw [if_neg h46, ← hf, ← hg] at e
  have hr := hS.row 1 rfl
  first
    | (rw [if_pos (by omega)] at e; rw [e]; first
        | (rw [if_pos (by omega), if_pos ⟨by omega, by omega⟩]; exact hr)
        | (rw [if_pos (by omega), if_neg (by omega)]; exact hr)
        | (rw [if_neg (by omega), if_pos ⟨by omega, by omega⟩]; exact hr)
        | (rw [if_neg (by omega), if_neg (by omega)]; exact hr))
    | (rw [if_neg (by omega)] at e; rw [e]; first
        | (rw [if_pos (by omega), if_pos ⟨by omega, by omega⟩]; exact hr)
        | (rw [if_pos (by omega), if_neg (by omega)]; exact hr)
        | (rw [if_neg (by omega), if_pos ⟨by omega, by omega⟩]; exact hr)
        | (rw [if_neg (by omega), if_neg (by omega)]; exact hr))
set_option maxRecDepth 10000 in
set_option maxHeartbeats 8000000 in
theorem without_ok {s : St} {v c1 c2 c3 c4 c5 : AV} {l : List InstrL} (hok : s.Ok) (hv : Row s.h 2 v (l.map inC)) (hl : l.length ≤ 2097152) (hz : ([c1, c2, c3, c4, c5, v] : List AV).all AV.leaf = true) :
    CallS Try.prog Tt Kt 98 [.agg [c1, c2, c3, c4, c5, v], .int .i64 0, .int .i64 (-1)] s (fun r s' => Keep [] s s' ∧ ∃ L, MkN l 0 L ∧ Row s'.h 1 r (L.map bC) ∧ (∀ g ∈ r.gs, s.ctr ≤ g) ∧ (r.gs = [] → r = .nils)) := by
  refine call_of (fn := Try.f98) (nt := 85) Try.func98 rfl rfl rfl ?_
  repeat refine wc_seq ?_
  have hS := SH.start hok
  refine wc_region ?_
  refine ws_box hS rfl rfl rfl hz ?_
  rintro p0 z hS hk
  have hS : SH _ [_] z := hS
  have hK := hS.K
  refine w_val rfl rfl (op_pure rfl) ?_
  refine w_nil ?_
  refine then_n ?_
  repeat refine wc_seq ?_
  refine wc_region ?_
  refine w_val rfl rfl (op_fldP rfl rfl rfl rfl (by decide)) ?_
  refine w_val rfl rfl (op_loadC 0 hS rfl rfl rfl (Nat.le_of_ble_eq_true rfl) rfl) ?_
  refine w_val rfl rfl (op_len rfl rfl rfl rfl rfl hv.slenF) ?_
  refine w_val rfl rfl (op_add rfl rfl (by unfold In64; omega)) ?_
  refine w_val rfl rfl (op_pure rfl) ?_
  refine w_nil ?_
  refine then_n ?_
  repeat refine wc_seq ?_
  refine wc_region ?_
  refine w_val rfl rfl (op_pure rfl) ?_
  refine ws_mk (n := l.length + 1) hS rfl rfl rfl rfl rfl rfl rfl rfl rfl (by decide) rfl (by simp only [maxBytes]; omega) (by omega) ?_
  rintro sv z hS hne hk
  have hS : SH s [ptC (.ptr p0 0 0) [c1, c2, c3, c4, c5, v], rowC sv 1 ((List.replicate (l.length + 1) false).map bC)] z := by rw [← rep_bC]; exact hS
  have hK := hS.K
  refine w_val rfl rfl (op_pure rfl) ?_
  refine w_nil ?_
  refine then_n ?_
  repeat refine wc_seq ?_
  refine wc_region ?_
  refine w_val rfl rfl (op_pure rfl) ?_
  refine w_val rfl rfl (op_int (v := .bool false) rfl rfl (by decide) rfl) ?_
  refine w_val rfl rfl (op_pure rfl) ?_
  refine w_val rfl rfl (op_pure rfl) ?_
  refine w_val rfl rfl (op_pure rfl) ?_
  refine w_val rfl rfl (op_int (v := .bool false) rfl rfl (by decide) (show intA .geq .i64 0 ((l.length : Nat) + 1) = some (.bool false) from congrArg (fun b => some (AV.bool b)) (decide_eq_false (by omega)))) ?_
  refine w_val rfl rfl (op_pure rfl) ?_
  refine w_val rfl rfl (op_pure rfl) ?_
  refine w_val rfl rfl (op_pure rfl) ?_
  refine w_val rfl rfl (op_pure rfl) ?_
  refine w_val rfl rfl (op_int (v := .bool false) rfl rfl (by decide) rfl) ?_
  refine w_val rfl rfl (op_pure rfl) ?_
  refine w_nil ?_
  refine then_n ?_
  repeat refine wc_seq ?_
  refine wc_cond_f rfl ?_
  refine wc_skip ?_
  refine then_n ?_
  repeat refine wc_seq ?_
  refine wc_region ?_
  refine w_val rfl rfl (op_pure rfl) ?_
  refine w_val rfl rfl (op_pure rfl) ?_
  first | refine w_val rfl rfl (op_idxF rfl rfl (by first | assumption | exact natA_cast _ _ | exact natA_succ _ _ | exact natA_toNat (by omega) | rfl) rfl rfl rfl rfl (hS.row 1 rfl) (by first | omega | (simp; done) | (simp; omega))) ?_ | refine w_val rfl rfl (op_idx rfl rfl (by first | assumption | exact natA_cast _ _ | exact natA_succ _ _ | exact natA_toNat (by omega) | rfl) rfl rfl rfl rfl (hS.row 1 rfl) (by first | omega | (simp; done) | (simp; omega))) ?_
  refine ws_storeE 1 hS rfl rfl rfl rfl rfl rfl rfl (by first | rfl | assumption | exact Row.leaf (by assumption)) (by first | omega | (simp; done) | (simp; omega)) ?_
  rintro z hS
  have hS : SH _ [_, _] z := hS
  have hK := hS.K
  refine w_nil ?_
  have hS : SH s [ptC (.ptr p0 0 0) [c1, c2, c3, c4, c5, v], rowC sv 1 (((List.replicate (l.length + 1) false).set 0 true).map bC)] z := by rw [List.map_set]; exact hS
  have hI := BfsI.start (l := l) (f := 0) (by omega)
  generalize (List.replicate (l.length + 1) false).set 0 true = L at hS hI
  refine then_n ?_
  repeat refine wc_seq ?_
  refine wc_region ?_
  refine w_val rfl rfl (op_pure rfl) ?_
  refine ws_lit1C hS rfl rfl rfl rfl rfl rfl rfl rfl (by decide) (by decide) rfl rfl rfl ?_
  rintro tv z hS hnt
  have hS : SH s [ptC (.ptr p0 0 0) [c1, c2, c3, c4, c5, v], rowC sv 1 (L.map bC), rowC tv 1 ((tI [0]).map iC)] z := hS
  have hK := hS.K
  refine w_val rfl rfl (op_pure rfl) ?_
  refine w_nil ?_
  refine then_n ?_
  repeat refine wc_seq ?_
  refine wc_region ?_
  refine w_val rfl rfl (op_pure rfl) ?_
  refine w_nil ?_
  refine then_n ?_
  repeat refine wc_seq ?_
  refine wc_block ?_
  refine wc_loop_at (fun jj m z => ∃ (L : List Bool) (todo : List Nat) (tv : AV) (k : Nat), jj = l.length + 1 - k ∧ k ≤ todo.length ∧ m = [(2, .int .i64 (-1)), (3, .ptr p0 0 0), (8, sv), (9, tv), (10, .int .i64 (k : Nat))] ∧ SH s [ptC (.ptr p0 0 0) [c1, c2, c3, c4, c5, v], rowC sv 1 (L.map bC), rowC tv 1 ((tI todo).map iC)] z ∧ BfsI l 0 L todo k) (l.length + 1)
    [(2, .int .i64 (-1)), (3, .ptr p0 0 0), (8, sv), (9, tv), (10, .int .i64 ((0 : Nat) : Int))] (Sub.cons rfl (Sub.cons rfl (Sub.cons rfl (Sub.cons rfl (Sub.cons rfl (Sub.nil _)))))) ⟨L, [0], tv, 0, rfl, by simp, rfl, hS, hI⟩ ?_
  clear hS hI hK hnt
  rintro jj m z ⟨L, todo, tv, k, rfl, hk, rfl, hS, hI⟩
  have hK := hS.K
  have hLl := hI.len
  have hct := hI.cnt
  repeat refine wc_seq ?_
  refine wc_region ?_
  refine w_val rfl rfl (op_pure rfl) ?_
  refine w_val rfl rfl (op_pure rfl) ?_
  first | refine w_val rfl rfl (op_len rfl rfl rfl rfl rfl (hS.row 2 rfl).slenF) ?_ | refine w_val rfl rfl (op_len rfl rfl rfl rfl rfl (hS.row 2 rfl).slen) ?_
  refine w_val rfl rfl (op_pure rfl) ?_
  refine w_nil ?_
  refine then_n ?_
  repeat refine wc_seq ?_
  refine wc_condT rfl (fun h40 => ?_) (fun h40 => ?_)
  · simp only [decide_eq_true_eq] at h40
    have hlen := tI_len todo
    obtain ⟨a, ha⟩ : ∃ a, todo[k]? = some a := ⟨_, List.getElem?_eq_getElem (by omega)⟩
    have hta := tI_get ha
    refine wc_skip ?_
    refine then_n ?_
    repeat refine wc_seq ?_
    refine wc_block ?_
    repeat refine wc_seq ?_
    have hR := Keep.refl hS.ok
    refine wc_draw (Old z []) (by kernel_rfl) rfl ?_
    refine wo_load hR rfl rfl ((hS.pt 0 rfl).at (Nat.le_of_ble_eq_true rfl)) rfl (fun _ _ h => by cases h) rfl rfl ?_
    refine wo_val (fun _ => rfl) rfl rfl (op_pure rfl) ?_
    refine wo_val (fun _ => rfl) rfl rfl (op_pure rfl) ?_
    refine wo_val (fun _ => rfl) rfl rfl (op_idxF rfl rfl (natA_cast _ _) rfl rfl rfl rfl (Row.bare (hS.row 2 rfl)) (by omega)) ?_
    refine wo_load hR rfl rfl (Row.mk_pt (hS.row 2 rfl) hta) rfl (fun _ _ h => by cases h) rfl rfl ?_
    refine wo_call hR rfl rfl (fun _ => rfl) (op_call rfl rfl rfl rfl) (next_ref_ok hR.ok (Row.bare (hv.keep0 hK)) hl hz) (fun _ _ h => h.1) ?_
    rintro rv sC ⟨hk0, hr, hrb⟩ hR2
    have hrd : ∀ g ∈ rv.gs, g ∉ sv.gs ∧ g ∉ tv.gs := fun g hg => by
      have h0 : z.ctr ≤ g := hrb g hg
      exact ⟨fun h => by have := (hS.bd 1 rfl g h).2; omega, fun h => by have := (hS.bd 2 rfl g h).2; omega⟩
    have hr : Row (sC.join z).h 1 rv ((nextA l a).map iC) := hr
    have hS := hS.mov hk0.joined
    have hK := hS.K
    clear hR hR2 hk0
    generalize sC.join z = z at *
    refine wo_val (fun _ => rfl) rfl rfl (op_pure rfl) ?_
    refine wd_nil ?_
    have hnl := nextA_len l a
    refine then_n ?_
    repeat refine wc_seq ?_
    refine wc_region ?_
    refine w_val rfl rfl (op_pure rfl) ?_
    refine w_nil ?_
    refine then_n ?_
    refine wc_block ?_
    refine wc_loop_at (fun jj m z => ∃ (L : List Bool) (todo : List Nat) (tv : AV) (q : Nat), jj = (nextA l a).length - q ∧ q ≤ (nextA l a).length ∧ m = [(2, .int .i64 (-1)), (3, .ptr p0 0 0), (8, sv), (9, tv), (10, .int .i64 (k : Nat)), (11, rv), (12, .int .i64 (q : Nat))] ∧ SH s [ptC (.ptr p0 0 0) [c1, c2, c3, c4, c5, v], rowC sv 1 (L.map bC), rowC tv 1 ((tI todo).map iC)] z ∧ BfsI l 0 L todo k ∧ todo[k]? = some a ∧ Row z.h 1 rv ((nextA l a).map iC) ∧ (∀ g ∈ rv.gs, g ∉ sv.gs ∧ g ∉ tv.gs) ∧ ∀ (i b : Nat), i < q → (nextA l a)[i]? = some (b : Int) → Tk L b) (nextA l a).length
      [(2, .int .i64 (-1)), (3, .ptr p0 0 0), (8, sv), (9, tv), (10, .int .i64 (k : Nat)), (11, rv), (12, .int .i64 ((0 : Nat) : Int))] (Sub.cons rfl (Sub.cons rfl (Sub.cons rfl (Sub.cons rfl (Sub.cons rfl (Sub.cons rfl (Sub.cons rfl (Sub.nil _)))))))) ⟨L, todo, tv, 0, by simp, by simp, rfl, hS, hI, ha, hr, hrd, fun i b h => by omega⟩ ?_
    clear hS hI hK hr ha hta hlen hLl hct hrd hk
    rintro j1 m1 z ⟨L, todo, tv, q, rfl, hq, rfl, hS, hI, ha, hr, hrd, hT⟩
    have hK := hS.K
    have hLl := hI.len
    have hct := hI.cnt
    have hlen := tI_len todo
    have hak := (List.getElem?_eq_some_iff.1 ha).1
    repeat refine wc_seq ?_
    refine wc_region ?_
    refine w_val rfl rfl (op_pure rfl) ?_
    refine w_val rfl rfl (op_pure rfl) ?_
    refine w_val rfl rfl (op_len rfl rfl rfl rfl rfl hr.slenF) ?_
    refine w_val rfl rfl (op_pure rfl) ?_
    refine w_nil ?_
    refine then_n ?_
    repeat refine wc_seq ?_
    refine wc_condT rfl (fun h52 => ?_) (fun h52 => ?_)
    · simp only [decide_eq_true_eq] at h52
      refine wc_skip ?_
      refine then_n ?_
      repeat refine wc_seq ?_
      refine wc_block ?_
      repeat refine wc_seq ?_
      obtain ⟨bi, hbi⟩ : ∃ b, (nextA l a)[q]? = some b := ⟨_, List.getElem?_eq_getElem (by omega)⟩
      obtain ⟨hb0, hbn⟩ := nextA_in (List.mem_of_getElem? hbi)
      obtain ⟨b, rfl⟩ : ∃ b : Nat, bi = b := ⟨bi.toNat, by omega⟩
      obtain ⟨bb, hbb⟩ : ∃ x, L[b]? = some x := ⟨_, List.getElem?_eq_getElem (by omega)⟩
      refine wc_region ?_
      refine w_val rfl rfl (op_pure rfl) ?_
      refine w_val rfl rfl (op_pure rfl) ?_
      refine w_val rfl rfl (op_pure rfl) ?_
      refine w_val rfl rfl (op_idxF rfl rfl (natA_cast _ _) rfl rfl rfl rfl hr (by omega)) ?_
      refine w_val rfl rfl (op_load rfl rfl (Row.mk_pt hr hbi) rfl) ?_
      first | refine w_val rfl rfl (op_idxF rfl rfl (by first | assumption | exact natA_cast _ _ | exact natA_succ _ _ | exact natA_toNat (by omega) | rfl) rfl rfl rfl rfl (hS.row 1 rfl) (by first | omega | (simp; done) | (simp; omega))) ?_ | refine w_val rfl rfl (op_idx rfl rfl (by first | assumption | exact natA_cast _ _ | exact natA_succ _ _ | exact natA_toNat (by omega) | rfl) rfl rfl rfl rfl (hS.row 1 rfl) (by first | omega | (simp; done) | (simp; omega))) ?_
      first | refine w_val rfl rfl (op_load rfl rfl (Row.mk_pt (hS.row 1 rfl) (by assumption)) rfl) ?_ | refine w_val rfl rfl (op_load rfl rfl (Row.pt (hS.row 1 rfl) (by assumption)) rfl) ?_
      refine w_val rfl rfl (op_pure rfl) ?_
      refine w_val rfl rfl (op_pure rfl) ?_
      refine w_split (i := 63) rfl (fun h63 => ?_) (fun h63 => ?_)
      · simp only [Bool.not_eq_true'] at h63
        subst h63
        refine w_val rfl rfl (op_pure rfl) ?_
        refine w_val rfl rfl (op_pure rfl) ?_
        refine w_val rfl rfl (op_idxF rfl rfl (natA_cast _ _) rfl rfl rfl rfl hr (by omega)) ?_
        refine w_val rfl rfl (op_load rfl rfl (Row.mk_pt hr hbi) rfl) ?_
        refine w_val rfl rfl (op_pure rfl) ?_
        refine w_val rfl rfl (op_int (v := .bool true) rfl rfl (by decide) (show intA .neq .i64 (b : Nat) (-1) = some (.bool true) from congrArg (fun b => some (AV.bool b)) (by rw [bne_iff_ne]; omega))) ?_
        refine w_val rfl rfl (op_pure rfl) ?_
        refine w_nil ?_
        refine then_n ?_
        refine wc_cond_t rfl ?_
        repeat refine wc_seq ?_
        refine wc_region ?_
        refine w_val rfl rfl (op_pure rfl) ?_
        refine w_val rfl rfl (op_pure rfl) ?_
        refine w_val rfl rfl (op_pure rfl) ?_
        refine w_val rfl rfl (op_idxF rfl rfl (natA_cast _ _) rfl rfl rfl rfl hr (by omega)) ?_
        refine w_val rfl rfl (op_load rfl rfl (Row.mk_pt hr hbi) rfl) ?_
        first | refine w_val rfl rfl (op_idxF rfl rfl (by first | assumption | exact natA_cast _ _ | exact natA_succ _ _ | exact natA_toNat (by omega) | rfl) rfl rfl rfl rfl (hS.row 1 rfl) (by first | omega | (simp; done) | (simp; omega))) ?_ | refine w_val rfl rfl (op_idx rfl rfl (by first | assumption | exact natA_cast _ _ | exact natA_succ _ _ | exact natA_toNat (by omega) | rfl) rfl rfl rfl rfl (hS.row 1 rfl) (by first | omega | (simp; done) | (simp; omega))) ?_
        refine w_store_row rfl rfl rfl rfl rfl rfl rfl hK.ok (hS.row 1 rfl) (fun e => by have h0 := hS.nls 1 rfl e; have hx := hS.row 1 rfl; rw [h0] at hx; have h1 := congrArg List.length (show L.map bC = [] from hx); rw [List.length_map, List.length_nil] at h1; omega) (by rw [List.length_map]; omega) ?_
        intro z2 hx2 hk2 hc2
        have hr := hr.keep hk2 (fun g hg => (hrd g hg).1)
        have hcn := cntF_set hbb
        have hS := hS.upd 1 rfl hk2 (fun g hg => hg) (rowC sv 1 ((L.set b true).map bC)) ⟨by rw [List.map_set]; exact hx2, hS.nls 1 rfl⟩ (fun g hg => .inl hg)
        have hS : SH _ [_, _, _] z2 := hS
        have hK := hS.K
        have hrlt := hr.lt hK.ok
        clear hx2 hk2 hc2
        refine w_nil ?_
        refine then_n ?_
        refine wc_region ?_
        refine w_val rfl rfl (op_pure rfl) ?_
        refine w_val rfl rfl (op_pure rfl) ?_
        refine w_val rfl rfl (op_pure rfl) ?_
        refine w_val rfl rfl (op_idxF rfl rfl (natA_cast _ _) rfl rfl rfl rfl hr (by omega)) ?_
        refine w_val rfl rfl (op_load rfl rfl (Row.mk_pt hr hbi) rfl) ?_
        refine ws_lit1 (sz := 1) hS rfl rfl rfl rfl rfl rfl rfl rfl (by decide) (by decide) rfl rfl rfl ?_
        rintro lb z3 hS hk3 hlb
        have hr := hr.keep0 hk3
        have hrlt := hr.lt hS.ok
        have hK := hS.K
        refine w_append rfl rfl rfl rfl rfl rfl rfl rfl rfl (by decide) hS.ok (hS.row 2 rfl) (hS.nls 2 rfl) hlb (by simp only [List.length_map, List.length_cons, List.length_nil, maxBytes]; omega) (by simp only [List.length_map, List.length_cons, List.length_nil, maxBytes]; omega) ?_
        rintro tv2 z hx4 hk4 - hg4 hn4 -
        have hr := hr.keep hk4 (fun g hg => (hrd g hg).2)
        have hS := hS.upd 2 rfl hk4 (fun g hg => hg) (rowC tv2 1 ((tI (todo ++ [b])).map iC)) ⟨by rw [tI_app, List.map_append]; exact hx4, hn4⟩ (fun g hg => by
          rcases hg4 with h | h
          · exact .inl (by have hg : g ∈ tv2.gs := hg; rwa [h] at hg)
          · have hg : g ∈ tv2.gs := hg
            exact .inr ⟨by rw [h] at hg; rw [List.mem_singleton.1 hg]; exact Nat.le_refl _, hx4.lt hk4.ok g hg⟩)
        have hS : SH _ [_, _, _] z := hS
        have hK := hS.K
        have hrd2 : ∀ g ∈ rv.gs, g ∉ sv.gs ∧ g ∉ tv2.gs := fun g hg => ⟨(hrd g hg).1, fun h => by
          rcases hg4 with e | e
          · rw [e] at h; exact (hrd g hg).2 h
          · rw [e] at h; have := List.mem_singleton.1 h; have := hrlt g hg; omega⟩
        refine w_val rfl rfl (op_pure rfl) ?_
        refine w_nil ?_
        refine out_n ?_
        refine then_n ?_
        refine wc_region ?_
        refine w_val rfl rfl (op_pure rfl) ?_
        refine w_val rfl rfl (op_add rfl rfl (by unfold In64; omega)) ?_
        refine w_val rfl rfl (op_pure rfl) ?_
        refine w_nil ?_
        exact round_n _ _ (by omega) (Sub.cons rfl (Sub.cons rfl (Sub.cons rfl (Sub.cons rfl (Sub.cons rfl (Sub.cons rfl (Sub.cons rfl (Sub.nil _)))))))) ⟨L.set b true, todo ++ [b], tv2, q + 1, rfl, by omega, rfl, hS, hI.add ha (List.mem_of_getElem? hbi) hbb, by rw [List.getElem?_append_left hak]; exact ha, hr, hrd2, fun i b' hi h => (Nat.lt_succ_iff_lt_or_eq.1 hi).elim (fun h1 => (Tk_set (by omega)).2 (.inr (hT i b' h1 h))) (fun e => by
          subst e; rw [hbi] at h
          have : b = b' := by have := Option.some.inj h; omega
          rw [← this]; exact (Tk_set (by omega)).2 (.inl rfl))⟩
      simp only [Bool.not_eq_false'] at h63
      subst h63
      refine w_off rfl rfl ?_
      refine w_off rfl rfl ?_
      refine w_off rfl rfl ?_
      refine w_off rfl rfl ?_
      refine w_off rfl rfl ?_
      refine w_off rfl rfl ?_
      refine w_val rfl rfl (op_pure rfl) ?_
      refine w_nil ?_
      refine then_n ?_
      refine wc_cond_f rfl ?_
      refine wc_skip ?_
      refine out_n ?_
      refine then_n ?_
      refine wc_region ?_
      refine w_val rfl rfl (op_pure rfl) ?_
      refine w_val rfl rfl (op_add rfl rfl (by unfold In64; omega)) ?_
      refine w_val rfl rfl (op_pure rfl) ?_
      refine w_nil ?_
      exact round_n _ _ (by omega) (Sub.cons rfl (Sub.cons rfl (Sub.cons rfl (Sub.cons rfl (Sub.cons rfl (Sub.cons rfl (Sub.cons rfl (Sub.nil _)))))))) ⟨L, todo, tv, q + 1, rfl, by omega, rfl, hS, hI, ha, hr, hrd, fun i b' hi h => (Nat.lt_succ_iff_lt_or_eq.1 hi).elim (fun h1 => hT i b' h1 h) (fun e => by
        subst e; rw [hbi] at h
        have : b = b' := by have := Option.some.inj h; omega
        rw [← this]; exact hbb)⟩
    simp only [decide_eq_false_iff_not] at h52
    obtain rfl : q = (nextA l a).length := by omega
    have hall : ∀ b, EdN l a b → Tk L b := fun b hb => by
      obtain ⟨i, hi⟩ := List.getElem?_of_mem hb
      exact hT i b (List.getElem?_eq_some_iff.1 hi).1 hi
    refine wc_exit ?_
    repeat first | refine then_x ?_ | refine round_x ?_ | refine cut_x ?_ | refine out_x' (by decide) ?_
    refine out_x ?_
    refine out_n ?_
    refine then_n ?_
    refine wc_region ?_
    refine w_val rfl rfl (op_pure rfl) ?_
    refine w_val rfl rfl (op_add rfl rfl (by unfold In64; omega)) ?_
    refine w_val rfl rfl (op_pure rfl) ?_
    refine w_nil ?_
    exact round_n _ _ (by omega) (Sub.cons rfl (Sub.cons rfl (Sub.cons rfl (Sub.cons rfl (Sub.cons rfl (Sub.nil _)))))) ⟨L, todo, tv, k + 1, rfl, by omega, rfl, hS, hI.next ha hall⟩
  simp only [decide_eq_false_iff_not] at h40
  have hlen := tI_len todo
  obtain rfl : k = todo.length := by omega
  have hM := hI.marks
  refine wc_exit ?_
  repeat first | refine then_x ?_ | refine round_x ?_ | refine cut_x ?_ | refine out_x' (by decide) ?_
  refine out_x ?_
  refine then_n ?_
  repeat refine wc_seq ?_
  refine wc_region ?_
  refine w_val rfl rfl (op_pure rfl) ?_
  refine w_val rfl rfl (op_pure rfl) ?_
  refine w_nil ?_
  refine then_n ?_
  refine wc_ret ?_
  repeat first | refine then_r ?_ | refine out_r ?_ | refine round_r ?_ | refine cut_r ?_ | refine sc_r ?_
  exact ⟨_, rfl, hK, L, hM, hS.row 1 rfl, fun g hg => (hS.bd 1 rfl g hg).1, hS.nls 1 rfl⟩
set_option maxRecDepth 10000 in
set_option maxHeartbeats 8000000 in
theorem reach_ref_ok {s : St} {v c1 c2 c3 c4 c5 : AV} {l : List InstrL} (hok : s.Ok) (hv : Row s.h 2 v (l.map inC)) (hl : l.length ≤ 2097152) (hz : ([c1, c2, c3, c4, c5, v] : List AV).all AV.leaf = true) :
    CallS Try.prog Tt Kt 60 [.agg [c1, c2, c3, c4, c5, v], .int .i64 0] s (fun r s' => Keep [] s s' ∧ ∃ L, MkN l 0 L ∧ Row s'.h 1 r (L.map bC) ∧ (∀ g ∈ r.gs, s.ctr ≤ g) ∧ (r.gs = [] → r = .nils)) := by
  refine call_of (fn := Try.f60) (nt := 8) Try.func60 rfl rfl rfl ?_
  repeat refine wc_seq ?_
  have hS := SH.start hok
  refine wc_region ?_
  refine ws_box hS rfl rfl rfl hz ?_
  rintro p0 z hS hk
  have hS : SH _ [_] z := hS
  have hK := hS.K
  refine w_val rfl rfl (op_pure rfl) ?_
  refine w_nil ?_
  refine then_n ?_
  repeat refine wc_seq ?_
  refine wc_region ?_
  refine w_val rfl rfl (op_loadC 0 hS rfl rfl rfl (Nat.le_of_ble_eq_true rfl) rfl) ?_
  refine w_val rfl rfl (op_pure rfl) ?_
  refine w_call rfl rfl (op_call rfl rfl rfl rfl) (without_ok hK.ok (hv.keep0 hK) hl hz) ?_
  rintro rr z ⟨hk, L, hM, hr, hb, hn⟩
  have hc := hK.ctr
  refine w_val rfl rfl (op_pure rfl) ?_
  refine w_nil ?_
  refine then_n ?_
  refine wc_ret ?_
  repeat first | refine then_r ?_ | refine out_r ?_ | refine round_r ?_ | refine cut_r ?_ | refine sc_r ?_
  exact ⟨_, rfl, hK.two hk, L, hM, hr, fun g hg => Nat.le_trans hc (hb g hg), hn⟩
end Go.Ab
/- A part of an element written. -/
namespace Go.Ab
theorem flat_setF {cs : List (List AV)} {sz : Nat} (h : ∀ c ∈ cs, c.length = sz) {i o : Nat} {x c : List AV} (hi : cs[i]? = some x) (hc : o + c.length ≤ sz) : over cs.flatten (i * sz + o) c = (cs.set i (over x o c)).flatten := by
  induction cs generalizing i with
  | nil => simp at hi
  | cons y cs ih =>
    have hy := h y (List.mem_cons_self ..)
    cases i with
    | zero =>
      simp at hi
      subst hi
      have := over_part [] y cs.flatten o c (by omega)
      simp only [List.nil_append, List.length_nil, Nat.zero_add] at this
      rw [Nat.zero_mul, Nat.zero_add, List.flatten_cons, this]
      rfl
    | succ i =>
      have h1 := ih (i := i) (fun z hz => h z (List.mem_cons_of_mem _ hz)) (by simpa using hi)
      unfold over at h1 ⊢
      rw [List.set_cons_succ, List.flatten_cons, List.flatten_cons]
      rw [← h1, Nat.succ_mul, show i * sz + sz + o = y.length + (i * sz + o) by omega]
      rw [List.take_length_add_append, Nat.add_assoc, List.drop_length_add_append]
      simp [List.append_assoc]
section
variable {P : Program} {T : Tab} {K : FuncId → Option Bool} {nt : Nat} {ops : Array Oper} {rest : List Oper} {m : Sy} {s s0 : St} {Q : Sy → St → Prop} {d ty : Nat} {pos : String} {af : Array Edge} {g : Option (Nat × Bool)} {L : List Chunk}
theorem ws_storeEF {tt : TypeId} {a x : Operand} {i : TI} {r u : AV} {j o sz : Nat} {cs : List (List AV)} {e : List AV} (n : Nat) (hS : SH s0 L s) (hn : L[n]? = some (rowC r sz cs)) (hg : guardY ops m g = some true) (ha : evY m a = some (fldA (elemA r j) o)) (hx : evY m x = some u) (hT : T tt = some i) (hl : u.cells.length = i.size) (ho : o + i.size ≤ sz)
    (hz : u.cells.all AV.leaf = true) (hj : cs[j]? = some e)
    (k : ∀ s', SH s0 (L.set n (rowC r sz (cs.set j (over e o u.cells)))) s' → W P T K nt ops rest m s' Q) : W P T K nt ops (⟨none, .store tt a x, ty, pos, af, g⟩ :: rest) m s Q := by
  have hr := hS.row n hn
  have hjl := (List.getElem?_eq_some_iff.1 hj).1
  have hne : r.gs ≠ [] := fun h => by
    have := hS.nls n hn h
    subst this
    cases (hr : cs = [])
    simp at hjl
  have hnl := hS.nls n hn
  cases r with
  | slc g' jj off sz' len lo ex =>
    obtain ⟨rfl, h2, rfl, h4, h5, rest', h6⟩ := id hr
    have hfl : cs.flatten.length = cs.length * sz' := flat_len fun c hc => (h5 c hc).1
    have hb : j * sz' + (o + u.cells.length) ≤ cs.length * sz' := by
      have h7 : (j + 1) * sz' ≤ cs.length * sz' := Nat.mul_le_mul_right _ hjl
      rw [Nat.succ_mul] at h7
      omega
    have hb2 := Nat.mul_le_mul_right sz' h4
    obtain ⟨s', e1, e2, e3, e4⟩ := write_over hS.ok h6 (k := j * sz' + o) (c := u.cells) (by omega) hz
    have hnl2 : ¬ (u.cells.length ≠ i.size) := fun h => h hl
    have hel : e.length = sz' := (h5 e (List.mem_of_getElem? hj)).1
    refine w_eff hg (s' := s') (fun t ht => ?_) (k s' (hS.upd n hn e3 (fun g hg => hg) _ ⟨⟨rfl, h2, by simp, h4, ?_, rest', ?_⟩, hnl⟩ fun g hg => .inl hg))
    · have ha' := evY_ok ht ha
      simp only [elemA, fldA, Nat.add_assoc] at ha'
      simp only [evOp, hT, ha', evY_ok ht hx, if_neg hnl2, e1]
    · intro c hc
      rcases List.mem_or_eq_of_mem_set hc with hc | rfl
      · exact h5 c hc
      · refine ⟨by rw [over_len (by omega)]; exact hel, ?_⟩
        have hle := (h5 e (List.mem_of_getElem? hj)).2
        unfold over
        rw [List.all_append, List.all_append]
        simp only [Bool.and_eq_true]
        rw [List.all_eq_true] at hle
        exact ⟨⟨List.all_eq_true.2 fun y hy => hle y (List.mem_of_mem_take hy), hz⟩, List.all_eq_true.2 fun y hy => hle y (List.mem_of_mem_drop hy)⟩
    · rw [e2, ← flat_setF (fun c hc => (h5 c hc).1) hj (by omega)]
      unfold over
      rw [List.take_append_of_le_length (by omega), List.drop_append_of_le_length (by omega)]
      simp [List.append_assoc]
  | nils => exact (hne rfl).elim
  | ro nl xs => exact (hne rfl).elim
  | _ => exact hr.elim
end
end Go.Ab
/- What trimming answers, plainly. -/
namespace Go.Ab
open Go.Proofs
/-- Where jumps go that are passed through. -/
noncomputable def tndI (l : List InstrL) (y : InstrL) : InstrL := if branchI y = true then ⟨y.op, comesF l y.a⟩ else y
noncomputable def tnd (l : List InstrL) : List InstrL := l.map (tndI l)
theorem tnd_len (l : List InstrL) : (tnd l).length = l.length := List.length_map ..
theorem tndI_op (l : List InstrL) (y : InstrL) : (tndI l y).op = y.op := by unfold tndI; split <;> rfl
theorem branchI_op {y z : InstrL} (h : y.op = z.op) : branchI y = branchI z := by unfold branchI; rw [h]
theorem branchI_iff {y : InstrL} : branchI y = true ↔ y.op = 43 ∨ y.op = 44 := by unfold branchI; simp
theorem tnd_in {l : List InstrL} (hr : rightC l = true) {y : InstrL} (hy : y ∈ tnd l) (hb : branchI y = true) : 0 ≤ y.a ∧ y.a < (l.length : Int) := by
  obtain ⟨z, hz, rfl⟩ := List.mem_map.1 hy
  rw [branchI_op (tndI_op l z)] at hb
  have h := rightC_jump hr hz (branchI_iff.1 hb)
  unfold tndI
  rw [if_pos hb]
  obtain ⟨a, ha⟩ : ∃ a : Nat, z.a = a := ⟨z.a.toNat, by omega⟩
  simp only [ha] at h ⊢
  have hal : a < l.length := by omega
  rw [comesF_yes hr hal]
  have := comesN_in hr hal
  omega
open Classical in
noncomputable def reaB (l : List InstrL) (k : Nat) : Bool := decide (RN (tnd l) 0 k)
open Classical in
theorem MkN.reaB {l : List InstrL} {L : List Bool} (h : MkN (tnd l) 0 L) {k : Nat} (hk : k < l.length + 1) : L[k]? = some (reaB l k) := by
  have hkl : k < L.length := by rw [h.1, tnd_len]; exact hk
  have h1 := h.2 k
  unfold Tk at h1
  rw [List.getElem?_eq_getElem hkl] at h1 ⊢
  simp only [Option.some.injEq] at h1 ⊢
  rw [Bool.eq_iff_iff, h1]
  unfold Go.Ab.reaB
  rw [decide_eq_true_iff]
open Classical in
noncomputable def tgtB (l : List InstrL) (k : Nat) : Bool := decide (∃ (j : Nat) (y : InstrL), (tnd l)[j]? = some y ∧ reaB l j = true ∧ branchI y = true ∧ y.a = (k : Int))
open Classical in
theorem tgt_iff {l : List InstrL} {k : Nat} : tgtB l k = true ↔ ∃ (j : Nat) (y : InstrL), (tnd l)[j]? = some y ∧ reaB l j = true ∧ branchI y = true ∧ y.a = (k : Int) := by
  unfold tgtB; rw [decide_eq_true_iff]
def isNop (l : List InstrL) (k : Nat) : Bool := match l[k]? with
  | some y => y.op == 42
  | none => false
noncomputable def stays (l : List InstrL) (k : Nat) : Bool := reaB l k && (!isNop l k || tgtB l k)
noncomputable def oldN (l : List InstrL) (n : Nat) : List Nat := (List.range n).filter (stays l)
noncomputable def place (l : List InstrL) (k : Nat) : Nat := (oldN l k).length
noncomputable def finI (l : List InstrL) (y : InstrL) : InstrL := if branchI y = true then ⟨y.op, (place l y.a.toNat : Nat)⟩ else y
noncomputable def codeO (l : List InstrL) : List InstrL := if rightC l = true then (oldN l l.length).map fun k => finI l ((tnd l)[k]?.getD ⟨0, 0⟩) else []
noncomputable def oldO (l : List InstrL) : List Int := if rightC l = true then tI (oldN l l.length) else []
theorem oldN_yes {l : List InstrL} {k : Nat} (h : stays l k = true) : oldN l (k + 1) = oldN l k ++ [k] := by
  unfold oldN; rw [List.range_succ, List.filter_append]; simp [h]
theorem oldN_no {l : List InstrL} {k : Nat} (h : stays l k = false) : oldN l (k + 1) = oldN l k := by
  unfold oldN; rw [List.range_succ, List.filter_append]; simp [h]
theorem oldN_len (l : List InstrL) (k : Nat) : (oldN l k).length ≤ k := by
  unfold oldN
  have := List.length_filter_le (stays l) (List.range k)
  rwa [List.length_range] at this
theorem oldN_mem {l : List InstrL} {n k : Nat} (h : k ∈ oldN l n) : k < n ∧ stays l k = true := by
  unfold oldN at h
  rw [List.mem_filter, List.mem_range] at h
  exact h
open Classical in
/-- An edge to a target that a reached branch has. -/
theorem tgt_reached {l : List InstrL} (hr : rightC l = true) {j : Nat} {y : InstrL} (hy : (tnd l)[j]? = some y) (hj : reaB l j = true) (hb : branchI y = true) {k : Nat} (hk : y.a = (k : Int)) : reaB l k = true := by
  have hin := tnd_in hr (List.mem_of_getElem? hy) hb
  unfold reaB at hj ⊢
  rw [decide_eq_true_iff] at hj ⊢
  refine .step hj ?_
  unfold EdN nextA
  rw [hy]
  show ((k : Nat) : Int) ∈ nextN _ _ _
  have hjl := (List.getElem?_eq_some_iff.1 hy).1
  have hl := tnd_len l
  rw [← next_same (by omega) (by omega) (by omega)]
  unfold nextD
  have hop := branchI_iff.1 hb
  rw [if_neg (by omega)]
  have hs : sec1 (tnd l).length j y = y.a := by unfold sec1; rw [if_pos hop, if_pos ⟨by omega, by omega⟩]
  rw [hs, ← hk]
  unfold outN
  split
  · rw [if_pos (show y.a < ((tnd l).length : Int) by omega)]; exact List.mem_append.2 (.inl (List.mem_singleton.2 rfl))
  · by_cases e : y.a = fst1 (tnd l).length j y
    · rw [← e, if_pos (show y.a < ((tnd l).length : Int) by omega)]; exact List.mem_append.2 (.inl (List.mem_singleton.2 rfl))
    · rw [if_pos (show y.a < ((tnd l).length : Int) ∧ y.a ≠ fst1 (tnd l).length j y from ⟨by omega, e⟩)]; exact List.mem_append.2 (.inr (List.mem_singleton.2 rfl))
theorem tgt_stays {l : List InstrL} (hr : rightC l = true) {k : Nat} (h : tgtB l k = true) : stays l k = true := by
  obtain ⟨j, y, h1, h2, h3, h4⟩ := tgt_iff.1 h
  unfold stays
  rw [tgt_reached hr h1 h2 h3 h4, h]
  simp
/-- A target's place among those that stay. -/
theorem place_get {l : List InstrL} {n k : Nat} (hk : k < n) (h : stays l k = true) : (oldN l n)[place l k]? = some k := by
  induction n with
  | zero => omega
  | succ n ih =>
    by_cases e : k = n
    · subst e
      rw [oldN_yes h]
      unfold place
      simp
    · have h1 := ih (by omega)
      have hlt := (List.getElem?_eq_some_iff.1 h1).1
      cases hs : stays l n with
      | true => rw [oldN_yes hs, List.getElem?_append_left hlt]; exact h1
      | false => rw [oldN_no hs]; exact h1
theorem oldN_inj {l : List InstrL} {n i j k : Nat} (hi : (oldN l n)[i]? = some k) (hj : (oldN l n)[j]? = some k) : i = j := by
  have hn : (oldN l n).Nodup := List.Pairwise.sublist (List.filter_sublist ..) List.nodup_range
  exact (List.getElem?_inj (List.getElem?_eq_some_iff.1 hi).1 hn).1 (hi.trans hj.symm)
end Go.Ab
/- trim.Code. -/
namespace Go.Ab
open Go.Proofs
theorem mix_len {l : List InstrL} {k : Nat} (hk : k ≤ l.length) : ((tnd l).take k ++ l.drop k).length = l.length := by
  rw [List.length_append, List.length_take, List.length_drop, tnd_len]; omega
theorem mix_get {l : List InstrL} {k : Nat} {y : InstrL} (hy : l[k]? = some y) : ((tnd l).take k ++ l.drop k)[k]? = some y := by
  have hk := (List.getElem?_eq_some_iff.1 hy).1
  have hl : ((tnd l).take k).length = k := by rw [List.length_take, tnd_len]; omega
  rw [List.getElem?_append_right (by omega), hl, Nat.sub_self, List.getElem?_drop, Nat.add_zero]
  exact hy
theorem tnd_get {l : List InstrL} {k : Nat} {y : InstrL} (hy : l[k]? = some y) : (tnd l)[k]? = some (tndI l y) := by
  unfold tnd; rw [List.getElem?_map, hy]; rfl
theorem mix_step {l : List InstrL} {k : Nat} {y : InstrL} (hy : l[k]? = some y) : ((tnd l).take k ++ l.drop k).set k (tndI l y) = (tnd l).take (k + 1) ++ l.drop (k + 1) := by
  have hk := (List.getElem?_eq_some_iff.1 hy).1
  have hl : ((tnd l).take k).length = k := by rw [List.length_take, tnd_len]; omega
  rw [List.set_append_right _ _ (by omega), hl, Nat.sub_self, ← take_snoc (tnd_get hy), List.append_assoc]
  congr 1
  have : l.drop k = y :: l.drop (k + 1) := by
    rw [List.drop_eq_getElem_cons hk]
    rw [(List.getElem?_eq_some_iff.1 hy).2]
  rw [this]; rfl
theorem set_same {β : Type} {xs : List β} {k : Nat} {x : β} (h : xs[k]? = some x) : xs.set k x = xs := by
  refine List.ext_getElem? fun i => ?_
  rw [List.getElem?_set]
  by_cases e : k = i
  · subst e
    rw [if_pos rfl, if_pos (List.getElem?_eq_some_iff.1 h).1, h]
  · rw [if_neg e]
theorem build48 {m : Sy} {a : AV} {x : Operand} (ha : a.leaf = true) (hx : evY m x = some a := by rfl) : pureY Tt m (.build 48 #[(5, x)]) = some (.agg [.int .u64 0, .nils, .nils, .int .i64 0, .int .i64 0, a]) := by
  simp only [pureY]
  rw [show Tt 48 = some ⟨.struct [(0, 1, false), (1, 1, false), (2, 1, false), (3, 1, false), (4, 1, false), (5, 1, false)], 6, 96, [.int .u64 0, .nils, .nils, .int .i64 0, .int .i64 0, .nils], false⟩ from rfl]
  simp only [evPartsY, hx, fillA, AV.cells_leaf ha]
  rfl
theorem rep_iC (n : Nat) : List.replicate n [AV.int .i64 0] = (List.replicate n (0 : Int)).map iC := by simp [iC]
theorem rep_inC (n : Nat) : List.replicate n [AV.int .i64 0, AV.int .i64 0] = (List.replicate n (⟨0, 0⟩ : InstrL)).map inC := by simp [inC]
noncomputable def codeL (l : List InstrL) : List InstrL := (oldN l l.length).map fun k => finI l ((tnd l)[k]?.getD ⟨0, 0⟩)
theorem isNop_get {l : List InstrL} {k : Nat} {y : InstrL} (hy : (tnd l)[k]? = some y) : isNop l k = (y.op == 42) := by
  unfold tnd at hy
  rw [List.getElem?_map] at hy
  cases e : l[k]? with
  | none => rw [e] at hy; cases hy
  | some z =>
    rw [e] at hy
    cases hy
    unfold isNop
    rw [e, tndI_op]
set_option maxRecDepth 10000 in
set_option maxHeartbeats 8000000 in
theorem branch_ok {s : St} {y : InstrL} (hok : s.Ok) : CallS Try.prog Tt Kt 56 [.agg (inC y)] s (fun r s' => Keep [] s s' ∧ r = .bool (branchI y)) := by
  refine call_of (fn := Try.f56) (nt := 11) Try.func56 rfl rfl rfl ?_
  repeat refine wc_seq ?_
  have hS := SH.start hok
  refine wc_region ?_
  refine ws_box hS rfl rfl rfl (by rfl) ?_
  rintro p0 z hS hk
  have hS : SH _ [_] z := hS
  have hK := hS.K
  refine w_val rfl rfl (op_pure rfl) ?_
  refine w_nil ?_
  refine then_n ?_
  repeat refine wc_seq ?_
  refine wc_region ?_
  refine w_val rfl rfl (op_fldP rfl rfl rfl rfl (by decide)) ?_
  refine w_val rfl rfl (op_loadC 0 hS rfl rfl rfl (Nat.le_of_ble_eq_true rfl) rfl) ?_
  refine w_val rfl rfl (op_pure rfl) ?_
  refine w_val rfl rfl (op_pure rfl) ?_
  refine w_split (i := 6) rfl (fun h6 => ?_) (fun h6 => ?_)
  · simp only [beq_iff_eq] at h6
    refine w_off rfl rfl ?_
    refine w_off rfl rfl ?_
    refine w_off rfl rfl ?_
    refine w_val rfl rfl (op_pure rfl) ?_
    refine w_val rfl rfl (op_pure rfl) ?_
    refine w_nil ?_
    refine then_n ?_
    refine wc_ret ?_
    repeat first | refine then_r ?_ | refine out_r ?_ | refine round_r ?_ | refine cut_r ?_ | refine sc_r ?_
    exact ⟨_, rfl, hK, by simp [branchI, packA, h6]⟩
  simp only [beq_eq_false_iff_ne, ne_eq] at h6
  refine w_val rfl rfl (op_fldP rfl rfl rfl rfl (by decide)) ?_
  refine w_val rfl rfl (op_loadC 0 hS rfl rfl rfl (Nat.le_of_ble_eq_true rfl) rfl) ?_
  refine w_val rfl rfl (op_pure rfl) ?_
  refine w_val rfl rfl (op_pure rfl) ?_
  refine w_val rfl rfl (op_pure rfl) ?_
  refine w_nil ?_
  refine then_n ?_
  refine wc_ret ?_
  repeat first | refine then_r ?_ | refine out_r ?_ | refine round_r ?_ | refine cut_r ?_ | refine sc_r ?_
  exact ⟨_, rfl, hK, by simp [branchI, packA, h6]⟩
set_option maxRecDepth 10000 in
set_option maxHeartbeats 8000000 in
theorem trimCode_ok {s : St} {v : AV} {l : List InstrL} (hok : s.Ok) (hv : Row s.h 2 v (l.map inC)) (hg : v.gs ≠ []) (hl : l.length ≤ 2097152) :
    CallS Try.prog Tt Kt 18 [v] s (fun r s' => Keep [] s s' ∧ ∃ x o, r = .tup [x, o] ∧ Row s'.h 2 x ((codeO l).map inC) ∧ Row s'.h 1 o ((oldO l).map iC) ∧ (∀ g ∈ x.gs, s.ctr ≤ g) ∧ (∀ g ∈ o.gs, s.ctr ≤ g) ∧ Dis x o ∧ (x.gs = [] → x = .nils) ∧ (o.gs = [] → o = .nils)) := by
  refine call_of (fn := Try.f18) (nt := 137) Try.func18 rfl rfl rfl ?_
  repeat refine wc_seq ?_
  have hS := SH.start hok
  have hK := hS.K
  refine wc_region ?_
  refine w_val rfl rfl (op_pure rfl) ?_
  refine w_val rfl rfl (op_pure rfl) ?_
  refine w_nil ?_
  refine then_n ?_
  repeat refine wc_seq ?_
  refine wc_region ?_
  refine w_val rfl rfl (op_pure rfl) ?_
  refine w_call rfl rfl (op_call rfl rfl rfl rfl) (right_code_ok hK.ok hv hl) ?_
  rintro _ z ⟨hk, rfl⟩
  have hS := hS.mov hk
  have hK := hS.K
  refine w_val rfl rfl (op_pure rfl) ?_
  refine w_nil ?_
  refine then_n ?_
  repeat refine wc_seq ?_
  refine wc_condT rfl (fun h22 => ?_) (fun h22 => ?_)
  · simp only [Bool.not_eq_true'] at h22
    repeat refine wc_seq ?_
    refine wc_region ?_
    refine w_val rfl rfl (op_pure rfl) ?_
    refine w_val rfl rfl (op_pure rfl) ?_
    refine w_nil ?_
    refine then_n ?_
    refine wc_ret ?_
    repeat first | refine then_r ?_ | refine out_r ?_ | refine round_r ?_ | refine cut_r ?_ | refine sc_r ?_
    exact ⟨_, rfl, hK, .nils, .nils, rfl, by unfold codeO; rw [if_neg (by rw [h22]; decide)]; exact row_nils _ _, by unfold oldO; rw [if_neg (by rw [h22]; decide)]; exact row_nils _ _, (fun g hg => by cases hg), (fun g hg => by cases hg), (fun g hg => by cases hg), fun _ => rfl, fun _ => rfl⟩
  simp only [Bool.not_eq_false'] at h22
  refine wc_skip ?_
  refine then_n ?_
  repeat refine wc_seq ?_
  refine wc_region ?_
  refine w_val rfl rfl (op_pure rfl) ?_
  refine w_call rfl rfl (op_call rfl rfl rfl rfl) (cloneCode_ok hK.ok (by rw [List.length_map]; omega) (hv.keep0 hK) hg) ?_
  rintro ov z1 ⟨hk, hr, hb, hn⟩
  have hS := hS.add hk (rowC ov 2 (((tnd l).take 0 ++ l.drop 0).map inC)) ⟨hr, fun e => (hn e).elim⟩ (fun g hg => ⟨hb g hg, hr.lt hk.ok g hg⟩)
  have hS : SH _ [_] z1 := hS
  have hK := hS.K
  have hR := h22
  clear hr hb hn
  refine w_val rfl rfl (op_pure rfl) ?_
  refine w_nil ?_
  refine then_n ?_
  repeat refine wc_seq ?_
  refine wc_region ?_
  refine w_val rfl rfl (op_pure rfl) ?_
  refine w_nil ?_
  refine then_n ?_
  repeat refine wc_seq ?_
  refine wc_region ?_
  refine w_val rfl rfl (op_pure rfl) ?_
  refine w_val rfl rfl (op_len rfl rfl rfl rfl rfl ((hS.row 0 rfl).slenF.trans (congrArg some (mix_len (Nat.zero_le _))))) ?_
  refine w_val rfl rfl (op_pure rfl) ?_
  refine w_nil ?_
  refine then_n ?_
  repeat refine wc_seq ?_
  refine wc_block ?_
  refine wc_loop_at (fun jj m z => ∃ k : Nat, jj = l.length - k ∧ k ≤ l.length ∧ m = [(0, v), (4, ov), (5, .fn 56 []), (25, ov), (26, .int .i64 (l.length : Nat)), (27, .int .i64 (k : Nat))] ∧ SH s [rowC ov 2 (((tnd l).take k ++ l.drop k).map inC)] z) l.length
    [(0, v), (4, ov), (5, .fn 56 []), (25, ov), (26, .int .i64 (l.length : Nat)), (27, .int .i64 ((0 : Nat) : Int))] (Sub.cons rfl (Sub.cons rfl (Sub.cons rfl (Sub.cons rfl (Sub.cons rfl (Sub.cons rfl (Sub.nil _))))))) ⟨0, by simp, by simp, rfl, hS⟩ ?_
  clear hS hK
  rintro jj m z ⟨k, rfl, hk, rfl, hS⟩
  have hK := hS.K
  have hml := mix_len hk
  repeat refine wc_seq ?_
  refine wc_region ?_
  refine w_val rfl rfl (op_pure rfl) ?_
  refine w_nil ?_
  refine then_n ?_
  repeat refine wc_seq ?_
  refine wc_condT rfl (fun h28 => ?_) (fun h28 => ?_)
  · simp only [decide_eq_true_eq] at h28
    refine wc_skip ?_
    refine then_n ?_
    repeat refine wc_seq ?_
    refine wc_block ?_
    repeat refine wc_seq ?_
    obtain ⟨y, hy⟩ : ∃ y, l[k]? = some y := ⟨_, List.getElem?_eq_getElem (by omega)⟩
    have hmid := mix_get hy
    refine wc_region ?_
    refine w_val rfl rfl (op_pure rfl) ?_
    refine w_val rfl rfl (op_idxF rfl rfl (natA_cast _ _) rfl rfl rfl rfl (hS.row 0 rfl) (by omega)) ?_
    refine w_val rfl rfl (op_load rfl rfl (Row.mk_pt (hS.row 0 rfl) (by assumption)) rfl) ?_
    refine ws_alloc hS rfl rfl rfl rfl ?_
    rintro p1 z hS hk
    have hS : SH _ [_, _] z := hS
    have hK := hS.K
    refine w_val rfl rfl (op_pure rfl) ?_
    refine ws_store 1 hS rfl rfl rfl rfl rfl rfl (by rfl) (Nat.le_of_ble_eq_true rfl) ?_
    rintro z hS
    have hS : SH _ [_, _] z := hS
    have hK := hS.K
    refine w_nil ?_
    refine then_n ?_
    repeat refine wc_seq ?_
    refine wc_region ?_
    refine w_val rfl rfl (op_pure rfl) ?_
    refine w_val rfl rfl (op_loadC 1 hS rfl rfl rfl (Nat.le_of_ble_eq_true rfl) rfl) ?_
    refine w_call rfl rfl (op_call rfl rfl rfl rfl) (branch_ok hK.ok) ?_
    rintro _ z ⟨hk2, rfl⟩
    have hS := hS.mov hk2
    have hK := hS.K
    refine w_nil ?_
    refine then_n ?_
    refine wc_condT rfl (fun h34 => ?_) (fun h34 => ?_)
    · obtain ⟨hy0, hyn⟩ := rightC_jump hR (List.mem_of_getElem? hy) (branchI_iff.1 h34)
      obtain ⟨yo, ya⟩ := y
      obtain ⟨a, ha⟩ : ∃ a : Nat, ya = a := ⟨ya.toNat, by simp only at hy0; omega⟩
      subst ha
      have hal : a < l.length := by simp only at hyn; omega
      have hti : tndI l ⟨yo, (a : Int)⟩ = ⟨yo, (comesN l a : Int)⟩ := by unfold tndI; rw [if_pos h34]; simp only; rw [comesF_yes hR hal]
      refine wc_region ?_
      refine w_val rfl rfl (op_pure rfl) ?_
      refine w_val rfl rfl (op_pure rfl) ?_
      refine w_val rfl rfl (op_pure rfl) ?_
      refine w_val rfl rfl (op_fldP rfl rfl rfl rfl (by decide)) ?_
      refine w_val rfl rfl (op_loadC 1 hS rfl rfl rfl (Nat.le_of_ble_eq_true rfl) rfl) ?_
      refine w_call rfl rfl (op_call rfl rfl rfl rfl) (comes_ok hK.ok (hv.keep0 hK) hl hR hal) ?_
      rintro _ z ⟨hk3, rfl⟩
      have hS := hS.mov hk3
      have hK := hS.K
      refine w_val rfl rfl (op_idxF rfl rfl (natA_cast _ _) rfl rfl rfl rfl (hS.row 0 rfl) (by omega)) ?_
      refine w_val rfl rfl (op_fld rfl rfl rfl rfl (by decide) (Row.mk_pt (hS.row 0 rfl) hmid) (Nat.le_of_ble_eq_true rfl)) ?_
      refine ws_storeEF 0 hS rfl rfl rfl rfl rfl rfl (by decide) rfl (by rw [List.getElem?_map, hmid]; rfl) ?_
      rintro z hS
      have hS : SH s [rowC ov 2 (((tnd l).take (k + 1) ++ l.drop (k + 1)).map inC)] z := by
        rw [← mix_step hy, hti, List.map_set]
        exact hS.sel [0] rfl (by decide)
      refine w_nil ?_
      refine out_n ?_
      refine then_n ?_
      refine wc_region ?_
      refine w_val rfl rfl (op_add rfl rfl (by unfold In64; omega)) ?_
      refine w_val rfl rfl (op_pure rfl) ?_
      refine w_nil ?_
      exact round_n _ _ (by omega) (Sub.cons rfl (Sub.cons rfl (Sub.cons rfl (Sub.cons rfl (Sub.cons rfl (Sub.cons rfl (Sub.nil _))))))) ⟨k + 1, rfl, by omega, rfl, hS⟩
    skip
    refine wc_skip ?_
    refine out_n ?_
    refine then_n ?_
    refine wc_region ?_
    refine w_val rfl rfl (op_add rfl rfl (by unfold In64; omega)) ?_
    refine w_val rfl rfl (op_pure rfl) ?_
    refine w_nil ?_
    have hS : SH s [rowC ov 2 (((tnd l).take (k + 1) ++ l.drop (k + 1)).map inC)] z := by
      rw [← mix_step hy, show tndI l y = y by unfold tndI; rw [if_neg (by rw [h34]; decide)], set_same hmid]
      exact hS.sel [0] rfl (by decide)
    exact round_n _ _ (by omega) (Sub.cons rfl (Sub.cons rfl (Sub.cons rfl (Sub.cons rfl (Sub.cons rfl (Sub.cons rfl (Sub.nil _))))))) ⟨k + 1, rfl, by omega, rfl, hS⟩
  simp only [decide_eq_false_iff_not] at h28
  obtain rfl : k = l.length := by omega
  rw [List.drop_length, List.append_nil, List.take_of_length_le (by rw [tnd_len]; exact Nat.le_refl _)] at hS
  have htl := tnd_len l
  clear hml
  refine wc_exit ?_
  repeat first | refine then_x ?_ | refine round_x ?_ | refine cut_x ?_ | refine out_x' (by decide) ?_
  refine out_x ?_
  refine then_n ?_
  repeat refine wc_seq ?_
  refine wc_region ?_
  refine w_val rfl rfl (op_pure rfl) ?_
  refine w_val rfl rfl (op_pure (build48 (hS.row 0 rfl).leaf)) ?_
  refine w_call rfl rfl (op_call rfl rfl rfl rfl) (reach_ok hK.ok (hS.row 0 rfl) (by omega) (by simp only [List.all_cons, List.all_nil, (hS.row 0 rfl).leaf]; rfl)) ?_
  rintro rv z1 ⟨hk, L, hM, hr, hb, hn⟩
  have hS := hS.add hk (rowC rv 1 (L.map bC)) ⟨hr, hn⟩ (fun g hg => ⟨hb g hg, hr.lt hk.ok g hg⟩)
  have hS : SH _ [_, _] z1 := hS
  have hK := hS.K
  have hLl : L.length = l.length + 1 := by rw [hM.1, tnd_len]
  clear hr hb hn
  refine w_val rfl rfl (op_pure rfl) ?_
  refine w_nil ?_
  refine then_n ?_
  repeat refine wc_seq ?_
  refine wc_region ?_
  refine w_val rfl rfl (op_pure rfl) ?_
  refine w_val rfl rfl (op_len rfl rfl rfl rfl rfl ((hS.row 0 rfl).slenF.trans (congrArg some htl))) ?_
  refine ws_mk hS rfl rfl rfl rfl rfl rfl rfl rfl rfl (by decide) rfl (by simp only [maxBytes]; omega) (by omega) ?_
  rintro tv z hS hne hk
  have hS : SH s [rowC ov 2 ((tnd l).map inC), rowC rv 1 (L.map bC), rowC tv 1 ((List.replicate l.length false).map bC)] z := by rw [← rep_bC]; exact hS
  have hK := hS.K
  refine w_val rfl rfl (op_pure rfl) ?_
  refine w_nil ?_
  refine then_n ?_
  repeat refine wc_seq ?_
  refine wc_region ?_
  refine w_val rfl rfl (op_pure rfl) ?_
  refine w_val rfl rfl (op_len rfl rfl rfl rfl rfl ((hS.row 0 rfl).slenF.trans (congrArg some htl))) ?_
  refine w_val rfl rfl (op_pure rfl) ?_
  refine w_nil ?_
  refine then_n ?_
  repeat refine wc_seq ?_
  refine wc_block ?_
  refine wc_loop_at (fun jj m z => ∃ (k : Nat) (TT : List Bool), jj = l.length - k ∧ k ≤ l.length ∧ m = [(4, ov), (5, .fn 56 []), (8, rv), (9, tv), (50, ov), (51, .int .i64 (l.length : Nat)), (52, .int .i64 (k : Nat))] ∧ SH s [rowC ov 2 ((tnd l).map inC), rowC rv 1 (L.map bC), rowC tv 1 (TT.map bC)] z ∧ TT.length = l.length ∧ ∀ c, Tk TT c ↔ ∃ (j : Nat) (y : InstrL), j < k ∧ (tnd l)[j]? = some y ∧ reaB l j = true ∧ branchI y = true ∧ y.a = (c : Int)) l.length
    [(4, ov), (5, .fn 56 []), (8, rv), (9, tv), (50, ov), (51, .int .i64 (l.length : Nat)), (52, .int .i64 ((0 : Nat) : Int))] (Sub.cons rfl (Sub.cons rfl (Sub.cons rfl (Sub.cons rfl (Sub.cons rfl (Sub.cons rfl (Sub.cons rfl (Sub.nil _)))))))) ⟨0, _, by simp, by simp, rfl, hS, by simp, fun c => ⟨fun h => (rep_noTk h).elim, fun ⟨j, y, h, _⟩ => by omega⟩⟩ ?_
  clear hS hK
  rintro jj m z ⟨k, TT, rfl, hk, rfl, hS, hTl, hT⟩
  have hK := hS.K
  repeat refine wc_seq ?_
  refine wc_region ?_
  refine w_val rfl rfl (op_pure rfl) ?_
  refine w_nil ?_
  refine then_n ?_
  repeat refine wc_seq ?_
  refine wc_condT rfl (fun h53 => ?_) (fun h53 => ?_)
  · simp only [decide_eq_true_eq] at h53
    refine wc_skip ?_
    refine then_n ?_
    repeat refine wc_seq ?_
    refine wc_block ?_
    repeat refine wc_seq ?_
    obtain ⟨y, hy⟩ : ∃ y, (tnd l)[k]? = some y := ⟨_, List.getElem?_eq_getElem (by rw [tnd_len]; omega)⟩
    have hLk := hM.reaB (k := k) (by omega)
    refine wc_region ?_
    refine w_val rfl rfl (op_pure rfl) ?_
    refine w_val rfl rfl (op_idxF rfl rfl (natA_cast _ _) rfl rfl rfl rfl (hS.row 0 rfl) (by omega)) ?_
    refine w_val rfl rfl (op_load rfl rfl (Row.mk_pt (hS.row 0 rfl) (by assumption)) rfl) ?_
    refine ws_alloc hS rfl rfl rfl rfl ?_
    rintro p3 z hS hk
    have hS : SH _ [_, _, _, _] z := hS
    have hK := hS.K
    refine w_val rfl rfl (op_pure rfl) ?_
    refine ws_store 3 hS rfl rfl rfl rfl rfl rfl (by rfl) (Nat.le_of_ble_eq_true rfl) ?_
    rintro z hS
    have hS : SH _ [_, _, _, _] z := hS
    have hK := hS.K
    refine w_nil ?_
    refine then_n ?_
    repeat refine wc_seq ?_
    refine wc_region ?_
    refine w_val rfl rfl (op_pure rfl) ?_
    refine w_val rfl rfl (op_pure rfl) ?_
    refine w_val rfl rfl (op_idxF rfl rfl (natA_cast _ _) rfl rfl rfl rfl (hS.row 1 rfl) (by omega)) ?_
    refine w_val rfl rfl (op_load rfl rfl (Row.mk_pt (hS.row 1 rfl) (by assumption)) rfl) ?_
    refine w_val rfl rfl (op_pure rfl) ?_
    refine w_split (i := 61) rfl (fun h61 => ?_) (fun h61 => ?_)
    · skip
      refine w_val rfl rfl (op_pure rfl) ?_
      refine w_val rfl rfl (op_loadC 3 hS rfl rfl rfl (Nat.le_of_ble_eq_true rfl) rfl) ?_
      refine w_call rfl rfl (op_call rfl rfl rfl rfl) (branch_ok hK.ok) ?_
      rintro _ z ⟨hk2, rfl⟩
      have hS := hS.mov hk2
      have hK := hS.K
      refine w_val rfl rfl (op_pure rfl) ?_
      refine w_nil ?_
      refine then_n ?_
      refine wc_condT rfl (fun h65 => ?_) (fun h65 => ?_)
      · obtain ⟨hy0, hyn⟩ := tnd_in hR (List.mem_of_getElem? hy) h65
        obtain ⟨yo, ya⟩ := y
        obtain ⟨b, hb⟩ : ∃ b : Nat, ya = b := ⟨ya.toNat, by simp only at hy0; omega⟩
        subst hb
        have hbl : b < l.length := by simp only at hyn; omega
        refine wc_region ?_
        refine w_val rfl rfl (op_pure rfl) ?_
        refine w_val rfl rfl (op_fldP rfl rfl rfl rfl (by decide)) ?_
        refine w_val rfl rfl (op_loadC 3 hS rfl rfl rfl (Nat.le_of_ble_eq_true rfl) rfl) ?_
        refine w_val rfl rfl (op_idxF rfl rfl (natA_cast _ _) rfl rfl rfl rfl (hS.row 2 rfl) (by omega)) ?_
        refine ws_storeE 2 hS rfl rfl rfl rfl rfl rfl rfl (by rfl) (by (simp; omega)) ?_
        rintro z hS
        have hS : SH _ [_, _, _, _] z := hS
        have hK := hS.K
        refine w_nil ?_
        refine out_n ?_
        refine then_n ?_
        refine wc_region ?_
        refine w_val rfl rfl (op_add rfl rfl (by unfold In64; omega)) ?_
        refine w_val rfl rfl (op_pure rfl) ?_
        refine w_nil ?_
        have hS : SH s [rowC ov 2 ((tnd l).map inC), rowC rv 1 (L.map bC), rowC tv 1 ((TT.set b true).map bC)] z := by rw [List.map_set]; exact hS.sel [0, 1, 2] rfl (by decide)
        exact round_n _ _ (by omega) (Sub.cons rfl (Sub.cons rfl (Sub.cons rfl (Sub.cons rfl (Sub.cons rfl (Sub.cons rfl (Sub.cons rfl (Sub.nil _)))))))) ⟨k + 1, TT.set b true, rfl, by omega, rfl, hS, by rw [List.length_set]; exact hTl, fun c => by
          rw [Tk_set (by omega), hT]
          constructor
          · rintro (rfl | ⟨j, y, h1, h2⟩)
            · exact ⟨k, _, by omega, hy, h61, h65, rfl⟩
            · exact ⟨j, y, by omega, h2⟩
          · rintro ⟨j, y, h1, h2, h3, h4, h5⟩
            rcases Nat.lt_succ_iff_lt_or_eq.1 h1 with h1 | rfl
            · exact .inr ⟨j, y, h1, h2, h3, h4, h5⟩
            · rw [hy] at h2; cases h2
              have h5 : (b : Int) = (c : Int) := h5
              exact .inl (by omega)⟩
      skip
      refine wc_skip ?_
      refine out_n ?_
      refine then_n ?_
      refine wc_region ?_
      refine w_val rfl rfl (op_add rfl rfl (by unfold In64; omega)) ?_
      refine w_val rfl rfl (op_pure rfl) ?_
      refine w_nil ?_
      exact round_n _ _ (by omega) (Sub.cons rfl (Sub.cons rfl (Sub.cons rfl (Sub.cons rfl (Sub.cons rfl (Sub.cons rfl (Sub.cons rfl (Sub.nil _)))))))) ⟨k + 1, TT, rfl, by omega, rfl, hS.sel [0, 1, 2] rfl (by decide), hTl, fun c => by
        rw [hT]
        constructor
        · rintro ⟨j, y, h1, h2⟩
          exact ⟨j, y, by omega, h2⟩
        · rintro ⟨j, y, h1, h2, h3, h4, h5⟩
          rcases Nat.lt_succ_iff_lt_or_eq.1 h1 with h1 | rfl
          · exact ⟨j, y, h1, h2, h3, h4, h5⟩
          · rw [hy] at h2; cases h2; rw [h65] at h4; cases h4⟩
    skip
    refine w_off rfl rfl ?_
    refine w_off rfl rfl ?_
    refine w_off rfl rfl ?_
    refine w_val rfl rfl (op_pure rfl) ?_
    refine w_nil ?_
    refine then_n ?_
    refine wc_cond_f rfl ?_
    refine wc_skip ?_
    refine out_n ?_
    refine then_n ?_
    refine wc_region ?_
    refine w_val rfl rfl (op_add rfl rfl (by unfold In64; omega)) ?_
    refine w_val rfl rfl (op_pure rfl) ?_
    refine w_nil ?_
    exact round_n _ _ (by omega) (Sub.cons rfl (Sub.cons rfl (Sub.cons rfl (Sub.cons rfl (Sub.cons rfl (Sub.cons rfl (Sub.cons rfl (Sub.nil _)))))))) ⟨k + 1, TT, rfl, by omega, rfl, hS.sel [0, 1, 2] rfl (by decide), hTl, fun c => by
      rw [hT]
      constructor
      · rintro ⟨j, y, h1, h2⟩
        exact ⟨j, y, by omega, h2⟩
      · rintro ⟨j, y, h1, h2, h3, h4, h5⟩
        rcases Nat.lt_succ_iff_lt_or_eq.1 h1 with h1 | rfl
        · exact ⟨j, y, h1, h2, h3, h4, h5⟩
        · rw [h61] at h3; cases h3⟩
  simp only [decide_eq_false_iff_not] at h53
  obtain rfl : k = l.length := by omega
  have hTG : ∀ c, c < l.length → TT[c]? = some (tgtB l c) := fun c hc => by
    obtain ⟨b, hb⟩ : ∃ b, TT[c]? = some b := ⟨_, List.getElem?_eq_getElem (by omega)⟩
    rw [hb]
    congr 1
    rw [Bool.eq_iff_iff, tgt_iff]
    have := hT c
    unfold Tk at this
    rw [hb] at this
    constructor
    · intro e
      subst e
      obtain ⟨j, y, h1, h2⟩ := this.1 rfl
      exact ⟨j, y, h2⟩
    · rintro ⟨j, y, h1, h2⟩
      exact Option.some.inj (this.2 ⟨j, y, by have := (List.getElem?_eq_some_iff.1 h1).1; rw [tnd_len] at this; exact this, h1, h2⟩)
  refine wc_exit ?_
  repeat first | refine then_x ?_ | refine round_x ?_ | refine cut_x ?_ | refine out_x' (by decide) ?_
  refine out_x ?_
  refine then_n ?_
  repeat refine wc_seq ?_
  refine wc_region ?_
  refine w_val rfl rfl (op_pure rfl) ?_
  refine w_val rfl rfl (op_len rfl rfl rfl rfl rfl ((hS.row 0 rfl).slenF.trans (congrArg some htl))) ?_
  refine ws_mk hS rfl rfl rfl rfl rfl rfl rfl rfl rfl (by decide) rfl (by simp only [maxBytes]; omega) (by omega) ?_
  rintro pv z hS hne hk
  have hS : SH s [rowC ov 2 ((tnd l).map inC), rowC rv 1 (L.map bC), rowC tv 1 (TT.map bC), rowC pv 1 ((List.replicate l.length (0 : Int)).map iC)] z := by rw [← rep_iC]; exact hS
  have hK := hS.K
  refine w_val rfl rfl (op_pure rfl) ?_
  refine w_nil ?_
  refine then_n ?_
  repeat refine wc_seq ?_
  refine wc_region ?_
  refine w_val rfl rfl (op_pure rfl) ?_
  refine w_nil ?_
  refine then_n ?_
  repeat refine wc_seq ?_
  have hS : SH s [rowC ov 2 ((tnd l).map inC), rowC rv 1 (L.map bC), rowC tv 1 (TT.map bC), rowC pv 1 ((List.replicate l.length (0 : Int)).map iC), rowC .nils 1 ((tI (oldN l 0)).map iC)] z := hS.nil 1
  refine wc_region ?_
  refine w_val rfl rfl (op_pure rfl) ?_
  refine w_val rfl rfl (op_len rfl rfl rfl rfl rfl ((hS.row 0 rfl).slenF.trans (congrArg some htl))) ?_
  refine w_val rfl rfl (op_pure rfl) ?_
  refine w_nil ?_
  refine then_n ?_
  repeat refine wc_seq ?_
  refine wc_block ?_
  refine wc_loop_at (fun jj m z => ∃ (k : Nat) (Pl : List Int) (o : AV), jj = l.length - k ∧ k ≤ l.length ∧ m = [(4, ov), (5, .fn 56 []), (8, rv), (9, tv), (12, pv), (13, o), (74, ov), (75, .int .i64 (l.length : Nat)), (76, .int .i64 (k : Nat))] ∧ SH s [rowC ov 2 ((tnd l).map inC), rowC rv 1 (L.map bC), rowC tv 1 (TT.map bC), rowC pv 1 (Pl.map iC), rowC o 1 ((tI (oldN l k)).map iC)] z ∧ Pl.length = l.length ∧ ∀ c, c < k → Pl[c]? = some (place l c : Int)) l.length
    [(4, ov), (5, .fn 56 []), (8, rv), (9, tv), (12, pv), (13, .nils), (74, ov), (75, .int .i64 (l.length : Nat)), (76, .int .i64 ((0 : Nat) : Int))] (Sub.cons rfl (Sub.cons rfl (Sub.cons rfl (Sub.cons rfl (Sub.cons rfl (Sub.cons rfl (Sub.cons rfl (Sub.cons rfl (Sub.cons rfl (Sub.nil _)))))))))) ⟨0, _, .nils, by simp, by simp, rfl, hS, by simp, fun c h => by omega⟩ ?_
  clear hS hK
  rintro jj m z ⟨k, Pl, o, rfl, hk, rfl, hS, hPl, hP⟩
  have hK := hS.K
  have hol := oldN_len l k
  have hotl := tI_len (oldN l k)
  repeat refine wc_seq ?_
  refine wc_region ?_
  refine w_val rfl rfl (op_pure rfl) ?_
  refine w_nil ?_
  refine then_n ?_
  repeat refine wc_seq ?_
  refine wc_condT rfl (fun h77 => ?_) (fun h77 => ?_)
  · simp only [decide_eq_true_eq] at h77
    refine wc_skip ?_
    refine then_n ?_
    repeat refine wc_seq ?_
    refine wc_block ?_
    repeat refine wc_seq ?_
    obtain ⟨y, hy⟩ : ∃ y, (tnd l)[k]? = some y := ⟨_, List.getElem?_eq_getElem (by rw [tnd_len]; omega)⟩
    have hLk := hM.reaB (k := k) (by omega)
    have hTk := hTG k (by omega)
    have hnp := isNop_get hy
    refine wc_region ?_
    refine w_val rfl rfl (op_pure rfl) ?_
    refine w_val rfl rfl (op_idxF rfl rfl (natA_cast _ _) rfl rfl rfl rfl (hS.row 0 rfl) (by omega)) ?_
    refine w_val rfl rfl (op_load rfl rfl (Row.mk_pt (hS.row 0 rfl) (by assumption)) rfl) ?_
    refine ws_alloc hS rfl rfl rfl rfl ?_
    rintro p5 z hS hk
    have hS : SH _ [_, _, _, _, _, _] z := hS
    have hK := hS.K
    refine w_val rfl rfl (op_pure rfl) ?_
    refine ws_store 5 hS rfl rfl rfl rfl rfl rfl (by rfl) (Nat.le_of_ble_eq_true rfl) ?_
    rintro z hS
    have hS : SH _ [_, _, _, _, _, _] z := hS
    have hK := hS.K
    refine w_nil ?_
    refine then_n ?_
    repeat refine wc_seq ?_
    refine wc_region ?_
    refine w_val rfl rfl (op_pure rfl) ?_
    refine w_val rfl rfl (op_pure rfl) ?_
    refine w_val rfl rfl (op_pure rfl) ?_
    refine w_val rfl rfl (op_len rfl rfl rfl rfl rfl (hS.row 4 rfl).slenF) ?_
    refine w_val rfl rfl (op_idxF rfl rfl (natA_cast _ _) rfl rfl rfl rfl (hS.row 3 rfl) (by omega)) ?_
    refine ws_storeE 3 hS rfl rfl rfl rfl rfl rfl rfl (by rfl) (by (simp; omega)) ?_
    rintro z hS
    have hS : SH _ [_, _, _, _, _, _] z := hS
    have hK := hS.K
    refine w_nil ?_
    have hS : SH s [rowC ov 2 ((tnd l).map inC), rowC rv 1 (L.map bC), rowC tv 1 (TT.map bC), rowC pv 1 ((Pl.set k (place l k : Int)).map iC), rowC o 1 ((tI (oldN l k)).map iC), ptC (.ptr p5 0 0) (inC y)] z := by
      have e : (place l k : Int) = ((tI (oldN l k)).length : Int) := by unfold place; rw [tI_len]
      rw [List.map_set, e]; exact hS
    have hP2 : ∀ c, c < k + 1 → (Pl.set k (place l k : Int))[c]? = some (place l c : Int) := fun c hc => by
      rw [List.getElem?_set]
      by_cases e : k = c
      · subst e; rw [if_pos rfl, if_pos (by omega)]
      · rw [if_neg e]; exact hP c (by omega)
    have hPl2 : (Pl.set k (place l k : Int)).length = l.length := by rw [List.length_set]; exact hPl
    refine then_n ?_
    repeat refine wc_seq ?_
    refine wc_region ?_
    refine w_val rfl rfl (op_pure rfl) ?_
    refine w_val rfl rfl (op_pure rfl) ?_
    refine w_val rfl rfl (op_idxF rfl rfl (natA_cast _ _) rfl rfl rfl rfl (hS.row 1 rfl) (by omega)) ?_
    refine w_val rfl rfl (op_load rfl rfl (Row.mk_pt (hS.row 1 rfl) (by assumption)) rfl) ?_
    refine w_val rfl rfl (op_pure rfl) ?_
    refine w_split (i := 90) rfl (fun h90 => ?_) (fun h90 => ?_)
    · skip
      refine w_val rfl rfl (op_fldP rfl rfl rfl rfl (by decide)) ?_
      refine w_val rfl rfl (op_loadC 5 hS rfl rfl rfl (Nat.le_of_ble_eq_true rfl) rfl) ?_
      refine w_val rfl rfl (op_pure rfl) ?_
      refine w_val rfl rfl (op_pure rfl) ?_
      refine w_split (i := 94) rfl (fun h94 => ?_) (fun h94 => ?_)
      · simp only [ne_eq, bne_iff_ne] at h94
        refine w_off rfl rfl ?_
        refine w_off rfl rfl ?_
        refine w_off rfl rfl ?_
        refine w_off rfl rfl ?_
        refine w_val rfl rfl (op_pure rfl) ?_
        refine w_val rfl rfl (op_pure rfl) ?_
        refine w_nil ?_
        refine then_n ?_
        refine wc_cond_t rfl ?_
        refine wc_region ?_
        refine w_val rfl rfl (op_pure rfl) ?_
        refine w_val rfl rfl (op_pure rfl) ?_
        refine ws_lit1 hS rfl rfl rfl rfl rfl rfl rfl rfl (by decide) (by decide) rfl (by rfl) rfl ?_
        rintro lt103 z hS hk hlt103
        have hK := hS.K
        refine ws_append 4 hS rfl rfl rfl rfl rfl rfl rfl rfl rfl rfl rfl (by decide) (hlt103) (by (simp only [List.length_map, List.length_nil, List.length_cons, maxBytes]; omega)) (by (simp only [List.length_map, List.length_nil, List.length_cons, maxBytes]; omega)) ?_
        rintro at104 z hS
        have hS : SH _ [_, _, _, _, _, _] z := hS
        have hK := hS.K
        refine w_val rfl rfl (op_pure rfl) ?_
        refine w_nil ?_
        refine out_n ?_
        refine then_n ?_
        refine wc_region ?_
        refine w_val rfl rfl (op_add rfl rfl (by unfold In64; omega)) ?_
        refine w_val rfl rfl (op_pure rfl) ?_
        refine w_nil ?_
        have hst : stays l k = true := by unfold stays; rw [hnp]; simp [h90, h94]
        have hS : SH s [rowC ov 2 ((tnd l).map inC), rowC rv 1 (L.map bC), rowC tv 1 (TT.map bC), rowC pv 1 ((Pl.set k (place l k : Int)).map iC), rowC at104 1 ((tI (oldN l (k + 1))).map iC)] z := by rw [oldN_yes hst, tI_app, List.map_append]; exact hS.sel [0, 1, 2, 3, 4] rfl (by decide)
        exact round_n _ _ (by omega) (Sub.cons rfl (Sub.cons rfl (Sub.cons rfl (Sub.cons rfl (Sub.cons rfl (Sub.cons rfl (Sub.cons rfl (Sub.cons rfl (Sub.cons rfl (Sub.nil _)))))))))) ⟨k + 1, _, at104, rfl, by omega, rfl, hS, hPl2, hP2⟩
      simp only [bne_eq_false_iff_eq] at h94
      refine w_val rfl rfl (op_pure rfl) ?_
      refine w_val rfl rfl (op_pure rfl) ?_
      refine w_val rfl rfl (op_idxF rfl rfl (natA_cast _ _) rfl rfl rfl rfl (hS.row 2 rfl) (by omega)) ?_
      refine w_val rfl rfl (op_load rfl rfl (Row.mk_pt (hS.row 2 rfl) (by assumption)) rfl) ?_
      refine w_val rfl rfl (op_pure rfl) ?_
      refine w_val rfl rfl (op_pure rfl) ?_
      refine w_nil ?_
      refine then_n ?_
      refine wc_condT rfl (fun h100 => ?_) (fun h100 => ?_)
      · skip
        refine wc_region ?_
        refine w_val rfl rfl (op_pure rfl) ?_
        refine w_val rfl rfl (op_pure rfl) ?_
        refine ws_lit1 hS rfl rfl rfl rfl rfl rfl rfl rfl (by decide) (by decide) rfl (by rfl) rfl ?_
        rintro lt103 z hS hk hlt103
        have hK := hS.K
        refine ws_append 4 hS rfl rfl rfl rfl rfl rfl rfl rfl rfl rfl rfl (by decide) (hlt103) (by (simp only [List.length_map, List.length_nil, List.length_cons, maxBytes]; omega)) (by (simp only [List.length_map, List.length_nil, List.length_cons, maxBytes]; omega)) ?_
        rintro at104 z hS
        have hS : SH _ [_, _, _, _, _, _] z := hS
        have hK := hS.K
        refine w_val rfl rfl (op_pure rfl) ?_
        refine w_nil ?_
        refine out_n ?_
        refine then_n ?_
        refine wc_region ?_
        refine w_val rfl rfl (op_add rfl rfl (by unfold In64; omega)) ?_
        refine w_val rfl rfl (op_pure rfl) ?_
        refine w_nil ?_
        have hst : stays l k = true := by unfold stays; rw [hnp]; simp [h90, h100]
        have hS : SH s [rowC ov 2 ((tnd l).map inC), rowC rv 1 (L.map bC), rowC tv 1 (TT.map bC), rowC pv 1 ((Pl.set k (place l k : Int)).map iC), rowC at104 1 ((tI (oldN l (k + 1))).map iC)] z := by rw [oldN_yes hst, tI_app, List.map_append]; exact hS.sel [0, 1, 2, 3, 4] rfl (by decide)
        exact round_n _ _ (by omega) (Sub.cons rfl (Sub.cons rfl (Sub.cons rfl (Sub.cons rfl (Sub.cons rfl (Sub.cons rfl (Sub.cons rfl (Sub.cons rfl (Sub.cons rfl (Sub.nil _)))))))))) ⟨k + 1, _, at104, rfl, by omega, rfl, hS, hPl2, hP2⟩
      skip
      refine wc_skip ?_
      refine out_n ?_
      refine then_n ?_
      refine wc_region ?_
      refine w_val rfl rfl (op_add rfl rfl (by unfold In64; omega)) ?_
      refine w_val rfl rfl (op_pure rfl) ?_
      refine w_nil ?_
      have hst : stays l k = false := by unfold stays; rw [hnp]; simp [h94, h100]
      have hS : SH s [rowC ov 2 ((tnd l).map inC), rowC rv 1 (L.map bC), rowC tv 1 (TT.map bC), rowC pv 1 ((Pl.set k (place l k : Int)).map iC), rowC o 1 ((tI (oldN l (k + 1))).map iC)] z := by rw [oldN_no hst]; exact hS.sel [0, 1, 2, 3, 4] rfl (by decide)
      exact round_n _ _ (by omega) (Sub.cons rfl (Sub.cons rfl (Sub.cons rfl (Sub.cons rfl (Sub.cons rfl (Sub.cons rfl (Sub.cons rfl (Sub.cons rfl (Sub.cons rfl (Sub.nil _)))))))))) ⟨k + 1, _, o, rfl, by omega, rfl, hS, hPl2, hP2⟩
    skip
    refine w_off rfl rfl ?_
    refine w_off rfl rfl ?_
    refine w_off rfl rfl ?_
    refine w_off rfl rfl ?_
    refine w_off rfl rfl ?_
    refine w_off rfl rfl ?_
    refine w_off rfl rfl ?_
    refine w_off rfl rfl ?_
    refine w_off rfl rfl ?_
    refine w_val rfl rfl (op_pure rfl) ?_
    refine w_nil ?_
    refine then_n ?_
    refine wc_cond_f rfl ?_
    refine wc_skip ?_
    refine out_n ?_
    refine then_n ?_
    refine wc_region ?_
    refine w_val rfl rfl (op_add rfl rfl (by unfold In64; omega)) ?_
    refine w_val rfl rfl (op_pure rfl) ?_
    refine w_nil ?_
    have hst : stays l k = false := by unfold stays; rw [hnp]; simp [h90]
    have hS : SH s [rowC ov 2 ((tnd l).map inC), rowC rv 1 (L.map bC), rowC tv 1 (TT.map bC), rowC pv 1 ((Pl.set k (place l k : Int)).map iC), rowC o 1 ((tI (oldN l (k + 1))).map iC)] z := by rw [oldN_no hst]; exact hS.sel [0, 1, 2, 3, 4] rfl (by decide)
    exact round_n _ _ (by omega) (Sub.cons rfl (Sub.cons rfl (Sub.cons rfl (Sub.cons rfl (Sub.cons rfl (Sub.cons rfl (Sub.cons rfl (Sub.cons rfl (Sub.cons rfl (Sub.nil _)))))))))) ⟨k + 1, _, o, rfl, by omega, rfl, hS, hPl2, hP2⟩
  simp only [decide_eq_false_iff_not] at h77
  obtain rfl : k = l.length := by omega
  refine wc_exit ?_
  repeat first | refine then_x ?_ | refine round_x ?_ | refine cut_x ?_ | refine out_x' (by decide) ?_
  refine out_x ?_
  refine then_n ?_
  repeat refine wc_seq ?_
  refine wc_region ?_
  refine w_val rfl rfl (op_pure rfl) ?_
  refine w_val rfl rfl (op_len rfl rfl rfl rfl rfl (hS.row 4 rfl).slenF) ?_
  refine ws_mk (n := (tI (oldN l l.length)).length) hS rfl rfl rfl rfl rfl rfl rfl rfl rfl (by decide) rfl (by simp only [maxBytes]; omega) (by omega) ?_
  rintro xv z hS hne hk
  have hS : SH s [rowC ov 2 ((tnd l).map inC), rowC rv 1 (L.map bC), rowC tv 1 (TT.map bC), rowC pv 1 (Pl.map iC), rowC o 1 ((tI (oldN l l.length)).map iC), rowC xv 2 ((List.replicate (tI (oldN l l.length)).length (⟨0, 0⟩ : InstrL)).map inC)] z := by rw [← rep_inC]; exact hS.sel [0, 1, 2, 3, 4, 5] rfl (by decide)
  have hK := hS.K
  refine w_val rfl rfl (op_pure rfl) ?_
  refine w_nil ?_
  refine then_n ?_
  repeat refine wc_seq ?_
  refine wc_region ?_
  refine w_val rfl rfl (op_pure rfl) ?_
  refine w_val rfl rfl (op_len rfl rfl rfl rfl rfl (hS.row 4 rfl).slenF) ?_
  refine w_val rfl rfl (op_pure rfl) ?_
  refine w_nil ?_
  refine then_n ?_
  repeat refine wc_seq ?_
  refine wc_block ?_
  refine wc_loop_at (fun jj m z => ∃ (k : Nat) (X : List InstrL), jj = (tI (oldN l l.length)).length - k ∧ k ≤ (tI (oldN l l.length)).length ∧ m = [(4, ov), (5, .fn 56 []), (12, pv), (13, o), (16, xv), (109, o), (110, .int .i64 ((tI (oldN l l.length)).length : Nat)), (111, .int .i64 (k : Nat))] ∧ SH s [rowC ov 2 ((tnd l).map inC), rowC rv 1 (L.map bC), rowC tv 1 (TT.map bC), rowC pv 1 (Pl.map iC), rowC o 1 ((tI (oldN l l.length)).map iC), rowC xv 2 (X.map inC)] z ∧ X.length = (tI (oldN l l.length)).length ∧ ∀ c, c < k → X[c]? = (codeL l)[c]?) (tI (oldN l l.length)).length
    [(4, ov), (5, .fn 56 []), (12, pv), (13, o), (16, xv), (109, o), (110, .int .i64 ((tI (oldN l l.length)).length : Nat)), (111, .int .i64 ((0 : Nat) : Int))] (Sub.cons rfl (Sub.cons rfl (Sub.cons rfl (Sub.cons rfl (Sub.cons rfl (Sub.cons rfl (Sub.cons rfl (Sub.cons rfl (Sub.nil _))))))))) ⟨0, _, by simp, by simp, rfl, hS, by simp, fun c h => by omega⟩ ?_
  clear hS hK
  rintro jj m z ⟨k, X, rfl, hk, rfl, hS, hXl, hX⟩
  have hK := hS.K
  repeat refine wc_seq ?_
  refine wc_region ?_
  refine w_val rfl rfl (op_pure rfl) ?_
  refine w_nil ?_
  refine then_n ?_
  repeat refine wc_seq ?_
  refine wc_condT rfl (fun h112 => ?_) (fun h112 => ?_)
  · simp only [decide_eq_true_eq] at h112
    refine wc_skip ?_
    refine then_n ?_
    repeat refine wc_seq ?_
    refine wc_block ?_
    repeat refine wc_seq ?_
    obtain ⟨a, ha⟩ : ∃ a, (oldN l l.length)[k]? = some a := ⟨_, List.getElem?_eq_getElem (by rw [← tI_len]; omega)⟩
    have hta := tI_get ha
    have hal := (oldN_mem (List.mem_of_getElem? ha)).1
    obtain ⟨y, hy⟩ : ∃ y, (tnd l)[a]? = some y := ⟨_, List.getElem?_eq_getElem (by rw [tnd_len]; omega)⟩
    have hck : (codeL l)[k]? = some (finI l y) := by unfold codeL; rw [List.getElem?_map, ha, Option.map_some, hy, Option.getD_some]
    refine wc_region ?_
    refine w_val rfl rfl (op_pure rfl) ?_
    refine w_val rfl rfl (op_idxF rfl rfl (natA_cast _ _) rfl rfl rfl rfl (hS.row 4 rfl) (by omega)) ?_
    refine w_val rfl rfl (op_load rfl rfl (Row.mk_pt (hS.row 4 rfl) (by assumption)) rfl) ?_
    refine w_val rfl rfl (op_pure rfl) ?_
    refine w_val rfl rfl (op_pure rfl) ?_
    refine w_nil ?_
    refine then_n ?_
    repeat refine wc_seq ?_
    refine wc_region ?_
    refine w_val rfl rfl (op_pure rfl) ?_
    refine w_val rfl rfl (op_pure rfl) ?_
    refine w_val rfl rfl (op_idxF rfl rfl (natA_cast _ _) rfl rfl rfl rfl (hS.row 0 rfl) (by omega)) ?_
    refine w_val rfl rfl (op_load rfl rfl (Row.mk_pt (hS.row 0 rfl) (by assumption)) rfl) ?_
    refine ws_alloc hS rfl rfl rfl rfl ?_
    rintro p6 z hS hk
    have hS : SH _ [_, _, _, _, _, _, _] z := hS
    have hK := hS.K
    refine ws_store 6 hS rfl rfl rfl rfl rfl rfl (by rfl) (Nat.le_of_ble_eq_true rfl) ?_
    rintro z hS
    have hS : SH _ [_, _, _, _, _, _, _] z := hS
    have hK := hS.K
    refine w_nil ?_
    refine then_n ?_
    repeat refine wc_seq ?_
    refine wc_region ?_
    refine w_val rfl rfl (op_pure rfl) ?_
    refine w_val rfl rfl (op_loadC 6 hS rfl rfl rfl (Nat.le_of_ble_eq_true rfl) rfl) ?_
    refine w_call rfl rfl (op_call rfl rfl rfl rfl) (branch_ok hK.ok) ?_
    rintro _ z ⟨hk2, rfl⟩
    have hS := hS.mov hk2
    have hK := hS.K
    refine w_nil ?_
    refine then_n ?_
    repeat refine wc_seq ?_
    refine wc_condT rfl (fun h122 => ?_) (fun h122 => ?_)
    · obtain ⟨hy0, hyn⟩ := tnd_in hR (List.mem_of_getElem? hy) h122
      obtain ⟨yo, ya⟩ := y
      obtain ⟨b, hb⟩ : ∃ b : Nat, ya = b := ⟨ya.toNat, by simp only at hy0; omega⟩
      subst hb
      have hbl : b < l.length := by simp only at hyn; omega
      have hPb := hP b hbl
      have hfi : finI l ⟨yo, (b : Int)⟩ = ⟨yo, (place l b : Int)⟩ := by unfold finI; rw [if_pos h122]; simp only; rw [Int.toNat_natCast]
      refine wc_region ?_
      refine w_val rfl rfl (op_pure rfl) ?_
      refine w_val rfl rfl (op_fldP rfl rfl rfl rfl (by decide)) ?_
      refine w_val rfl rfl (op_loadC 6 hS rfl rfl rfl (Nat.le_of_ble_eq_true rfl) rfl) ?_
      refine w_val rfl rfl (op_idxF rfl rfl (natA_cast _ _) rfl rfl rfl rfl (hS.row 3 rfl) (by omega)) ?_
      refine w_val rfl rfl (op_load rfl rfl (Row.mk_pt (hS.row 3 rfl) (by assumption)) rfl) ?_
      refine w_val rfl rfl (op_fldP rfl rfl rfl rfl (by decide)) ?_
      refine ws_storeL 6 hS rfl rfl rfl rfl rfl rfl (by rfl) (Nat.le_of_ble_eq_true rfl) ?_
      rintro z hS
      have hS : SH _ [_, _, _, _, _, _, _] z := hS
      have hK := hS.K
      refine w_nil ?_
      refine then_n ?_
      refine wc_region ?_
      refine w_val rfl rfl (op_pure rfl) ?_
      refine w_val rfl rfl (op_pure rfl) ?_
      refine w_val rfl rfl (op_loadC 6 hS rfl rfl rfl (Nat.le_of_ble_eq_true rfl) rfl) ?_
      refine w_val rfl rfl (op_idxF rfl rfl (natA_cast _ _) rfl rfl rfl rfl (hS.row 5 rfl) (by omega)) ?_
      refine ws_storeE 5 hS rfl rfl rfl rfl rfl rfl rfl (by rfl) (by (simp; omega)) ?_
      rintro z hS
      have hS : SH _ [_, _, _, _, _, _, _] z := hS
      have hK := hS.K
      refine w_nil ?_
      refine out_n ?_
      refine then_n ?_
      refine wc_region ?_
      refine w_val rfl rfl (op_add rfl rfl (by unfold In64; omega)) ?_
      refine w_val rfl rfl (op_pure rfl) ?_
      refine w_nil ?_
      have hS : SH s [rowC ov 2 ((tnd l).map inC), rowC rv 1 (L.map bC), rowC tv 1 (TT.map bC), rowC pv 1 (Pl.map iC), rowC o 1 ((tI (oldN l l.length)).map iC), rowC xv 2 ((X.set k ⟨yo, (place l b : Int)⟩).map inC)] z := by
        rw [List.map_set]; exact hS.sel [0, 1, 2, 3, 4, 5] rfl (by decide)
      exact round_n _ _ (by omega) (Sub.cons rfl (Sub.cons rfl (Sub.cons rfl (Sub.cons rfl (Sub.cons rfl (Sub.cons rfl (Sub.cons rfl (Sub.cons rfl (Sub.nil _))))))))) ⟨k + 1, _, rfl, by omega, rfl, hS, by rw [List.length_set]; exact hXl, fun c hc => by
        rw [List.getElem?_set]
        by_cases e : k = c
        · subst e; rw [if_pos rfl, if_pos (by omega), hck, hfi]
        · rw [if_neg e]; exact hX c (by omega)⟩
    have hfi : finI l y = y := by unfold finI; rw [if_neg (by rw [h122]; decide)]
    refine wc_skip ?_
    refine then_n ?_
    refine wc_region ?_
    refine w_val rfl rfl (op_pure rfl) ?_
    refine w_val rfl rfl (op_pure rfl) ?_
    refine w_val rfl rfl (op_loadC 6 hS rfl rfl rfl (Nat.le_of_ble_eq_true rfl) rfl) ?_
    refine w_val rfl rfl (op_idxF rfl rfl (natA_cast _ _) rfl rfl rfl rfl (hS.row 5 rfl) (by omega)) ?_
    refine ws_storeE 5 hS rfl rfl rfl rfl rfl rfl rfl (by rfl) (by (simp; omega)) ?_
    rintro z hS
    have hS : SH _ [_, _, _, _, _, _, _] z := hS
    have hK := hS.K
    refine w_nil ?_
    refine out_n ?_
    refine then_n ?_
    refine wc_region ?_
    refine w_val rfl rfl (op_add rfl rfl (by unfold In64; omega)) ?_
    refine w_val rfl rfl (op_pure rfl) ?_
    refine w_nil ?_
    have hS : SH s [rowC ov 2 ((tnd l).map inC), rowC rv 1 (L.map bC), rowC tv 1 (TT.map bC), rowC pv 1 (Pl.map iC), rowC o 1 ((tI (oldN l l.length)).map iC), rowC xv 2 ((X.set k y).map inC)] z := by
      rw [List.map_set]; exact hS.sel [0, 1, 2, 3, 4, 5] rfl (by decide)
    exact round_n _ _ (by omega) (Sub.cons rfl (Sub.cons rfl (Sub.cons rfl (Sub.cons rfl (Sub.cons rfl (Sub.cons rfl (Sub.cons rfl (Sub.cons rfl (Sub.nil _))))))))) ⟨k + 1, _, rfl, by omega, rfl, hS, by rw [List.length_set]; exact hXl, fun c hc => by
      rw [List.getElem?_set]
      by_cases e : k = c
      · subst e; rw [if_pos rfl, if_pos (by omega), hck, hfi]
      · rw [if_neg e]; exact hX c (by omega)⟩
  simp only [decide_eq_false_iff_not] at h112
  obtain rfl : k = (tI (oldN l l.length)).length := by omega
  have hXe : X = codeL l := by
    refine List.ext_getElem? fun c => ?_
    by_cases hc : c < (tI (oldN l l.length)).length
    · exact hX c hc
    · rw [List.getElem?_eq_none (by omega), List.getElem?_eq_none (by unfold codeL; rw [List.length_map, ← tI_len]; omega)]
  rw [hXe] at hS
  refine wc_exit ?_
  repeat first | refine then_x ?_ | refine round_x ?_ | refine cut_x ?_ | refine out_x' (by decide) ?_
  refine out_x ?_
  refine then_n ?_
  repeat refine wc_seq ?_
  refine wc_region ?_
  refine w_val rfl rfl (op_pure rfl) ?_
  refine w_val rfl rfl (op_pure rfl) ?_
  refine w_call rfl rfl (op_call rfl rfl rfl rfl) (clipInts_ok (hS.row 4 rfl) (hS.nls 4 rfl)) ?_
  rintro _ _ ⟨rfl, rfl⟩
  refine w_val rfl rfl (op_pure rfl) ?_
  refine w_val rfl rfl (op_pure rfl) ?_
  refine w_nil ?_
  refine then_n ?_
  refine wc_ret ?_
  repeat first | refine then_r ?_ | refine out_r ?_ | refine round_r ?_ | refine cut_r ?_ | refine sc_r ?_
  exact ⟨_, rfl, hK, xv, clipA o, rfl, by unfold codeO; rw [if_pos hR]; exact hS.row 5 rfl, by unfold oldO; rw [if_pos hR]; exact (hS.row 4 rfl).clip, (fun g hg => (hS.bd 5 rfl g hg).1), (fun g hg => (hS.bd 4 rfl g (show g ∈ o.gs by rw [← clipA_gs]; exact hg)).1),
    (fun g hg h => hS.dis 5 4 _ _ (by decide) rfl rfl g hg (show g ∈ o.gs by rw [← clipA_gs]; exact h)), hS.nls 5 rfl, fun e => by rw [clipA_gs] at e; rw [hS.nls 4 rfl e]; rfl⟩
end Go.Ab
/- The document's Code. -/
namespace Go.Ab
open Go.Proofs
theorem codeL_take {l : List InstrL} {k a : Nat} {y : InstrL} (ha : (oldN l l.length)[k]? = some a) (hy : (tnd l)[a]? = some y) : ((codeL l).take (k + 1)).map inC = ((codeL l).take k).map inC ++ [inC (finI l y)] := by
  refine snoc_map1 ?_ inC
  unfold codeL
  rw [List.getElem?_map, ha, Option.map_some, hy, Option.getD_some]
theorem branch43 {y : InstrL} (h : y.op = 43) : branchI y = true := branchI_iff.2 (.inl h)
theorem branch44 {y : InstrL} (h : y.op = 44) : branchI y = true := branchI_iff.2 (.inr h)
theorem branch_no {y : InstrL} (h : ¬ y.op = 43) (h2 : ¬ y.op = 44) : branchI y = false := by
  cases e : branchI y with
  | false => rfl
  | true => rcases branchI_iff.1 e with k | k; exact (h k).elim; exact (h2 k).elim
set_option maxRecDepth 10000 in
set_option maxHeartbeats 8000000 in
theorem trimCode_ref_ok {s : St} {v : AV} {l : List InstrL} (hok : s.Ok) (hv : Row s.h 2 v (l.map inC)) (hl : l.length ≤ 2097152) :
    CallS Try.prog Tt Kt 19 [v] s (fun r s' => Keep [] s s' ∧ ∃ x o, r = .tup [x, o] ∧ Row s'.h 2 x ((codeO l).map inC) ∧ Row s'.h 1 o ((oldO l).map iC) ∧ (∀ g ∈ x.gs, s.ctr ≤ g) ∧ ∀ g ∈ o.gs, s.ctr ≤ g) := by
  refine call_of (fn := Try.f19) (nt := 157) Try.func19 rfl rfl rfl ?_
  repeat refine wc_seq ?_
  have hS := SH.start hok
  have hK := hS.K
  refine wc_region ?_
  refine w_val rfl rfl (op_pure rfl) ?_
  refine w_val rfl rfl (op_pure rfl) ?_
  refine w_nil ?_
  refine then_n ?_
  repeat refine wc_seq ?_
  refine wc_region ?_
  refine w_val rfl rfl (op_pure rfl) ?_
  refine w_call rfl rfl (op_call rfl rfl rfl rfl) (right_ref_code_ok hK.ok hv hl) ?_
  rintro _ z ⟨hk, rfl⟩
  have hS := hS.mov hk
  have hK := hS.K
  refine w_val rfl rfl (op_pure rfl) ?_
  refine w_nil ?_
  refine then_n ?_
  repeat refine wc_seq ?_
  refine wc_condT rfl (fun h21 => ?_) (fun h21 => ?_)
  · simp only [Bool.not_eq_true'] at h21
    repeat refine wc_seq ?_
    refine wc_region ?_
    refine w_val rfl rfl (op_pure rfl) ?_
    refine w_val rfl rfl (op_pure rfl) ?_
    refine w_nil ?_
    refine then_n ?_
    refine wc_ret ?_
    repeat first | refine then_r ?_ | refine out_r ?_ | refine round_r ?_ | refine cut_r ?_ | refine sc_r ?_
    exact ⟨_, rfl, hK, .nils, .nils, rfl, by unfold codeO; rw [if_neg (by rw [h21]; decide)]; exact row_nils _ _, by unfold oldO; rw [if_neg (by rw [h21]; decide)]; exact row_nils _ _, (fun g hg => by cases hg), fun g hg => by cases hg⟩
  simp only [Bool.not_eq_false'] at h21
  refine wc_skip ?_
  refine then_n ?_
  repeat refine wc_seq ?_
  refine wc_region ?_
  refine w_val rfl rfl (op_pure rfl) ?_
  refine w_val rfl rfl (op_len rfl rfl rfl rfl rfl hv.slenF) ?_
  refine w_val rfl rfl (op_pure rfl) ?_
  refine w_nil ?_
  refine then_n ?_
  repeat refine wc_seq ?_
  refine wc_region ?_
  refine w_val rfl rfl (op_pure rfl) ?_
  refine w_nil ?_
  refine then_n ?_
  repeat refine wc_seq ?_
  have hR := h21
  have hS : SH s [rowC .nils 2 (((tnd l).take 0).map inC)] z := hS.nil 2
  have htl := tnd_len l
  refine wc_region ?_
  refine w_val rfl rfl (op_pure rfl) ?_
  refine w_nil ?_
  refine then_n ?_
  repeat refine wc_seq ?_
  refine wc_block ?_
  refine wc_loop_at (fun jj m z => ∃ (k : Nat) (ov : AV), jj = l.length - k ∧ k ≤ l.length ∧ m = [(0, v), (4, .int .i64 (l.length : Nat)), (5, ov), (6, .int .i64 (k : Nat))] ∧ SH s [rowC ov 2 (((tnd l).take k).map inC)] z) l.length
    [(0, v), (4, .int .i64 (l.length : Nat)), (5, .nils), (6, .int .i64 ((0 : Nat) : Int))] (Sub.cons rfl (Sub.cons rfl (Sub.cons rfl (Sub.cons rfl (Sub.nil _))))) ⟨0, .nils, by simp, by simp, rfl, hS⟩ ?_
  clear hS hK
  rintro jj m z ⟨k, ov, rfl, hk, rfl, hS⟩
  have hK := hS.K
  repeat refine wc_seq ?_
  refine wc_region ?_
  refine w_val rfl rfl (op_pure rfl) ?_
  refine w_val rfl rfl (op_pure rfl) ?_
  refine w_val rfl rfl (op_pure rfl) ?_
  refine w_nil ?_
  refine then_n ?_
  repeat refine wc_seq ?_
  refine wc_condT rfl (fun h26 => ?_) (fun h26 => ?_)
  · simp only [decide_eq_true_eq] at h26
    refine wc_skip ?_
    refine then_n ?_
    repeat refine wc_seq ?_
    refine wc_block ?_
    repeat refine wc_seq ?_
    obtain ⟨y, hy⟩ : ∃ y, l[k]? = some y := ⟨_, List.getElem?_eq_getElem (by omega)⟩
    have hvz := hv.keep0 hK
    have hty := tnd_get hy
    have hlt : ((tnd l).take k).length ≤ 2097152 := by rw [List.length_take]; omega
    refine wc_region ?_
    refine w_val rfl rfl (op_pure rfl) ?_
    refine w_val rfl rfl (op_pure rfl) ?_
    refine w_val rfl rfl (op_idxF rfl rfl (natA_cast _ _) rfl rfl rfl rfl hvz (by omega)) ?_
    refine w_val rfl rfl (op_load (v := .agg (inC y)) rfl rfl (Row.mk_pt hvz hy) rfl) ?_
    refine ws_alloc hS rfl rfl rfl rfl ?_
    rintro p1 z hS hk
    have hS : SH _ [_, _] z := hS
    have hK := hS.K
    refine ws_store 1 hS rfl rfl rfl rfl rfl rfl (by rfl) (Nat.le_of_ble_eq_true rfl) ?_
    rintro z hS
    have hS : SH _ [_, _] z := hS
    have hK := hS.K
    refine w_nil ?_
    refine then_n ?_
    repeat refine wc_seq ?_
    refine wc_region ?_
    refine w_val rfl rfl (op_fldP rfl rfl rfl rfl (by decide)) ?_
    refine w_val rfl rfl (op_loadC 1 hS rfl rfl rfl (Nat.le_of_ble_eq_true rfl) rfl) ?_
    refine w_val rfl rfl (op_pure rfl) ?_
    refine w_val rfl rfl (op_pure rfl) ?_
    refine w_split (i := 36) rfl (fun h36 => ?_) (fun h36 => ?_)
    · simp only [beq_iff_eq] at h36
      refine w_off rfl rfl ?_
      refine w_off rfl rfl ?_
      refine w_off rfl rfl ?_
      refine w_val rfl rfl (op_pure rfl) ?_
      refine w_nil ?_
      refine then_n ?_
      repeat refine wc_seq ?_
      refine wc_cond_t rfl ?_
      refine wc_region ?_
      refine w_val rfl rfl (op_pure rfl) ?_
      refine w_val rfl rfl (op_fldP rfl rfl rfl rfl (by decide)) ?_
      refine w_val rfl rfl (op_loadC 1 hS rfl rfl rfl (Nat.le_of_ble_eq_true rfl) rfl) ?_
      refine w_call rfl rfl (op_call rfl rfl rfl rfl) (comes_ref_ok hK.ok (hv.keep0 hK) hl) ?_
      rintro _ z ⟨hk2, rfl⟩
      have hS := hS.mov hk2
      have hK := hS.K
      refine w_val rfl rfl (op_fldP rfl rfl rfl rfl (by decide)) ?_
      refine ws_storeL 1 hS rfl rfl rfl rfl rfl rfl (by rfl) (Nat.le_of_ble_eq_true rfl) ?_
      rintro z hS
      have hS : SH _ [_, _] z := hS
      have hK := hS.K
      refine w_nil ?_
      refine then_n ?_
      refine wc_region ?_
      refine w_val rfl rfl (op_pure rfl) ?_
      refine w_val rfl rfl (op_loadC 1 hS rfl rfl rfl (Nat.le_of_ble_eq_true rfl) rfl) ?_
      refine ws_lit1 hS rfl rfl rfl rfl rfl rfl rfl rfl (by decide) (by decide) rfl (by rfl) rfl ?_
      rintro lt48 z hS hk hlt48
      have hK := hS.K
      refine ws_append 0 hS rfl rfl rfl rfl rfl rfl rfl rfl rfl rfl rfl (by decide) (hlt48) (by (simp only [List.length_map, List.length_nil, List.length_cons, List.length_take, maxBytes]; omega)) (by (simp only [List.length_map, List.length_nil, List.length_cons, List.length_take, maxBytes]; omega)) ?_
      rintro at49 z hS
      have hS : SH _ [_, _] z := hS
      have hK := hS.K
      refine w_val rfl rfl (op_pure rfl) ?_
      refine w_nil ?_
      refine out_n ?_
      refine then_n ?_
      refine wc_region ?_
      refine w_val rfl rfl (op_pure rfl) ?_
      refine w_val rfl rfl (op_add rfl rfl (by unfold In64; omega)) ?_
      refine w_val rfl rfl (op_pure rfl) ?_
      refine w_nil ?_
      have hti : tndI l y = ⟨y.op, comesF l y.a⟩ := by unfold tndI; rw [if_pos (branch43 h36)]
      have hS : SH s [rowC at49 2 (((tnd l).take (k + 1)).map inC)] z := by
        rw [snoc_map1 hty, hti]; exact hS.sel [0] rfl (by decide)
      exact round_n _ _ (by omega) (Sub.cons rfl (Sub.cons rfl (Sub.cons rfl (Sub.cons rfl (Sub.nil _))))) ⟨k + 1, at49, rfl, by omega, rfl, hS⟩
    simp only [beq_eq_false_iff_ne, ne_eq] at h36
    refine w_val rfl rfl (op_fldP rfl rfl rfl rfl (by decide)) ?_
    refine w_val rfl rfl (op_loadC 1 hS rfl rfl rfl (Nat.le_of_ble_eq_true rfl) rfl) ?_
    refine w_val rfl rfl (op_pure rfl) ?_
    refine w_val rfl rfl (op_pure rfl) ?_
    refine w_nil ?_
    refine then_n ?_
    repeat refine wc_seq ?_
    refine wc_condT rfl (fun h40 => ?_) (fun h40 => ?_)
    · simp only [beq_iff_eq] at h40
      refine wc_region ?_
      refine w_val rfl rfl (op_pure rfl) ?_
      refine w_val rfl rfl (op_fldP rfl rfl rfl rfl (by decide)) ?_
      refine w_val rfl rfl (op_loadC 1 hS rfl rfl rfl (Nat.le_of_ble_eq_true rfl) rfl) ?_
      refine w_call rfl rfl (op_call rfl rfl rfl rfl) (comes_ref_ok hK.ok (hv.keep0 hK) hl) ?_
      rintro _ z ⟨hk2, rfl⟩
      have hS := hS.mov hk2
      have hK := hS.K
      refine w_val rfl rfl (op_fldP rfl rfl rfl rfl (by decide)) ?_
      refine ws_storeL 1 hS rfl rfl rfl rfl rfl rfl (by rfl) (Nat.le_of_ble_eq_true rfl) ?_
      rintro z hS
      have hS : SH _ [_, _] z := hS
      have hK := hS.K
      refine w_nil ?_
      refine then_n ?_
      refine wc_region ?_
      refine w_val rfl rfl (op_pure rfl) ?_
      refine w_val rfl rfl (op_loadC 1 hS rfl rfl rfl (Nat.le_of_ble_eq_true rfl) rfl) ?_
      refine ws_lit1 hS rfl rfl rfl rfl rfl rfl rfl rfl (by decide) (by decide) rfl (by rfl) rfl ?_
      rintro lt48 z hS hk hlt48
      have hK := hS.K
      refine ws_append 0 hS rfl rfl rfl rfl rfl rfl rfl rfl rfl rfl rfl (by decide) (hlt48) (by (simp only [List.length_map, List.length_nil, List.length_cons, List.length_take, maxBytes]; omega)) (by (simp only [List.length_map, List.length_nil, List.length_cons, List.length_take, maxBytes]; omega)) ?_
      rintro at49 z hS
      have hS : SH _ [_, _] z := hS
      have hK := hS.K
      refine w_val rfl rfl (op_pure rfl) ?_
      refine w_nil ?_
      refine out_n ?_
      refine then_n ?_
      refine wc_region ?_
      refine w_val rfl rfl (op_pure rfl) ?_
      refine w_val rfl rfl (op_add rfl rfl (by unfold In64; omega)) ?_
      refine w_val rfl rfl (op_pure rfl) ?_
      refine w_nil ?_
      have hti : tndI l y = ⟨y.op, comesF l y.a⟩ := by unfold tndI; rw [if_pos (branch44 h40)]
      have hS : SH s [rowC at49 2 (((tnd l).take (k + 1)).map inC)] z := by
        rw [snoc_map1 hty, hti]; exact hS.sel [0] rfl (by decide)
      exact round_n _ _ (by omega) (Sub.cons rfl (Sub.cons rfl (Sub.cons rfl (Sub.cons rfl (Sub.nil _))))) ⟨k + 1, at49, rfl, by omega, rfl, hS⟩
    simp only [beq_eq_false_iff_ne, ne_eq] at h40
    refine wc_skip ?_
    refine then_n ?_
    refine wc_region ?_
    refine w_val rfl rfl (op_pure rfl) ?_
    refine w_val rfl rfl (op_loadC 1 hS rfl rfl rfl (Nat.le_of_ble_eq_true rfl) rfl) ?_
    refine ws_lit1 hS rfl rfl rfl rfl rfl rfl rfl rfl (by decide) (by decide) rfl (by rfl) rfl ?_
    rintro lt48 z hS hk hlt48
    have hK := hS.K
    refine ws_append 0 hS rfl rfl rfl rfl rfl rfl rfl rfl rfl rfl rfl (by decide) (hlt48) (by (simp only [List.length_map, List.length_nil, List.length_cons, List.length_take, maxBytes]; omega)) (by (simp only [List.length_map, List.length_nil, List.length_cons, List.length_take, maxBytes]; omega)) ?_
    rintro at49 z hS
    have hS : SH _ [_, _] z := hS
    have hK := hS.K
    refine w_val rfl rfl (op_pure rfl) ?_
    refine w_nil ?_
    refine out_n ?_
    refine then_n ?_
    refine wc_region ?_
    refine w_val rfl rfl (op_pure rfl) ?_
    refine w_val rfl rfl (op_add rfl rfl (by unfold In64; omega)) ?_
    refine w_val rfl rfl (op_pure rfl) ?_
    refine w_nil ?_
    have hti : tndI l y = y := by unfold tndI; rw [if_neg (by rw [branch_no h36 h40]; decide)]
    have hS : SH s [rowC at49 2 (((tnd l).take (k + 1)).map inC)] z := by
      rw [snoc_map1 hty, hti]; exact hS.sel [0] rfl (by decide)
    exact round_n _ _ (by omega) (Sub.cons rfl (Sub.cons rfl (Sub.cons rfl (Sub.cons rfl (Sub.nil _))))) ⟨k + 1, at49, rfl, by omega, rfl, hS⟩
  simp only [decide_eq_false_iff_not] at h26
  obtain rfl : k = l.length := by omega
  rw [List.take_of_length_le (by omega)] at hS
  refine wc_exit ?_
  repeat first | refine then_x ?_ | refine round_x ?_ | refine cut_x ?_ | refine out_x' (by decide) ?_
  refine out_x ?_
  refine then_n ?_
  repeat refine wc_seq ?_
  refine wc_region ?_
  refine w_val rfl rfl (op_pure rfl) ?_
  refine w_val rfl rfl (op_pure (build48 (hS.row 0 rfl).leaf)) ?_
  refine w_call rfl rfl (op_call rfl rfl rfl rfl) (reach_ref_ok hK.ok (hS.row 0 rfl) (by omega) (by simp only [List.all_cons, List.all_nil, (hS.row 0 rfl).leaf]; rfl)) ?_
  rintro rv z1 ⟨hk, L, hM, hr, hb, hn⟩
  have hS := hS.add hk (rowC rv 1 (L.map bC)) ⟨hr, hn⟩ (fun g hg => ⟨hb g hg, hr.lt hk.ok g hg⟩)
  have hS : SH _ [_, _] z1 := hS
  have hK := hS.K
  have hLl : L.length = l.length + 1 := by rw [hM.1, tnd_len]
  clear hr hb hn
  refine w_val rfl rfl (op_pure rfl) ?_
  refine w_nil ?_
  refine then_n ?_
  repeat refine wc_seq ?_
  refine wc_region ?_
  refine w_val rfl rfl (op_pure rfl) ?_
  refine ws_mk hS rfl rfl rfl rfl rfl rfl rfl rfl rfl (by decide) rfl (by simp only [maxBytes]; omega) (by omega) ?_
  rintro tv z hS hne hk
  have hS : SH s [rowC ov 2 ((tnd l).map inC), rowC rv 1 (L.map bC), rowC tv 1 ((List.replicate l.length false).map bC)] z := by rw [← rep_bC]; exact hS
  have hK := hS.K
  refine w_val rfl rfl (op_pure rfl) ?_
  refine w_nil ?_
  refine then_n ?_
  repeat refine wc_seq ?_
  refine wc_region ?_
  refine w_val rfl rfl (op_pure rfl) ?_
  refine w_nil ?_
  refine then_n ?_
  repeat refine wc_seq ?_
  refine wc_block ?_
  refine wc_loop_at (fun jj m z => ∃ (k : Nat) (TT : List Bool), jj = l.length - k ∧ k ≤ l.length ∧ m = [(4, .int .i64 (l.length : Nat)), (5, ov), (8, rv), (9, tv), (10, .int .i64 (k : Nat))] ∧ SH s [rowC ov 2 ((tnd l).map inC), rowC rv 1 (L.map bC), rowC tv 1 (TT.map bC)] z ∧ TT.length = l.length ∧ ∀ c, c < k → TT[c]? = some (reaB l c && !isNop l c)) l.length
    [(4, .int .i64 (l.length : Nat)), (5, ov), (8, rv), (9, tv), (10, .int .i64 ((0 : Nat) : Int))] (Sub.cons rfl (Sub.cons rfl (Sub.cons rfl (Sub.cons rfl (Sub.cons rfl (Sub.nil _)))))) ⟨0, _, by simp, by simp, rfl, hS, by simp, fun c h => by omega⟩ ?_
  clear hS hK
  rintro jj m z ⟨k, TT, rfl, hk, rfl, hS, hTl, hT⟩
  have hK := hS.K
  repeat refine wc_seq ?_
  refine wc_region ?_
  refine w_val rfl rfl (op_pure rfl) ?_
  refine w_val rfl rfl (op_pure rfl) ?_
  refine w_val rfl rfl (op_pure rfl) ?_
  refine w_nil ?_
  refine then_n ?_
  repeat refine wc_seq ?_
  refine wc_condT rfl (fun h57 => ?_) (fun h57 => ?_)
  · simp only [decide_eq_true_eq] at h57
    refine wc_skip ?_
    refine then_n ?_
    repeat refine wc_seq ?_
    refine wc_block ?_
    obtain ⟨y, hy⟩ : ∃ y, (tnd l)[k]? = some y := ⟨_, List.getElem?_eq_getElem (by rw [tnd_len]; omega)⟩
    have hLk := hM.reaB (k := k) (by omega)
    have hnp := isNop_get hy
    refine wc_region ?_
    refine w_val rfl rfl (op_pure rfl) ?_
    refine w_val rfl rfl (op_pure rfl) ?_
    refine w_val rfl rfl (op_pure rfl) ?_
    refine w_val rfl rfl (op_pure rfl) ?_
    refine w_val rfl rfl (op_idxF rfl rfl (natA_cast _ _) rfl rfl rfl rfl (hS.row 1 rfl) (by omega)) ?_
    refine w_val rfl rfl (op_load rfl rfl (Row.mk_pt (hS.row 1 rfl) (by assumption)) rfl) ?_
    refine w_val rfl rfl (op_pure rfl) ?_
    refine w_split (i := 66) rfl (fun h66 => ?_) (fun h66 => ?_)
    · skip
      refine w_val rfl rfl (op_pure rfl) ?_
      refine w_val rfl rfl (op_pure rfl) ?_
      refine w_val rfl rfl (op_idxF rfl rfl (natA_cast _ _) rfl rfl rfl rfl (hS.row 0 rfl) (by omega)) ?_
      refine w_val rfl rfl (op_fld rfl rfl rfl rfl (by decide) (Row.mk_pt (hS.row 0 rfl) hy) (Nat.le_of_ble_eq_true rfl)) ?_
      refine w_val rfl rfl (op_load rfl rfl ((Row.mk_pt (hS.row 0 rfl) hy).fld _ (Nat.le_of_ble_eq_true rfl)) rfl) ?_
      refine w_val rfl rfl (op_pure rfl) ?_
      refine w_val rfl rfl (op_pure rfl) ?_
      refine w_val rfl rfl (op_idxF rfl rfl (natA_cast _ _) rfl rfl rfl rfl (hS.row 2 rfl) (by omega)) ?_
      refine ws_storeE 2 hS rfl rfl rfl rfl rfl rfl rfl (by rfl) (by (simp; omega)) ?_
      rintro z hS
      have hS : SH _ [_, _, _] z := hS
      have hK := hS.K
      refine w_nil ?_
      refine out_n ?_
      refine then_n ?_
      refine wc_region ?_
      refine w_val rfl rfl (op_pure rfl) ?_
      refine w_val rfl rfl (op_add rfl rfl (by unfold In64; omega)) ?_
      refine w_val rfl rfl (op_pure rfl) ?_
      refine w_nil ?_
      have hS : SH s [rowC ov 2 ((tnd l).map inC), rowC rv 1 (L.map bC), rowC tv 1 ((TT.set k (y.op != 42)).map bC)] z := by rw [List.map_set]; exact hS
      exact round_n _ _ (by omega) (Sub.cons rfl (Sub.cons rfl (Sub.cons rfl (Sub.cons rfl (Sub.cons rfl (Sub.nil _)))))) ⟨k + 1, _, rfl, by omega, rfl, hS, by rw [List.length_set]; exact hTl, fun c hc => by
        rw [List.getElem?_set]
        by_cases e : k = c
        · subst e; rw [if_pos rfl, if_pos (by omega), hnp, h66, Bool.true_and] <;> rfl
        · rw [if_neg e]; exact hT c (by omega)⟩
    skip
    refine w_off rfl rfl ?_
    refine w_off rfl rfl ?_
    refine w_off rfl rfl ?_
    refine w_off rfl rfl ?_
    refine w_off rfl rfl ?_
    refine w_off rfl rfl ?_
    refine w_val rfl rfl (op_pure rfl) ?_
    refine w_val rfl rfl (op_idxF rfl rfl (natA_cast _ _) rfl rfl rfl rfl (hS.row 2 rfl) (by omega)) ?_
    refine ws_storeE 2 hS rfl rfl rfl rfl rfl rfl rfl (by rfl) (by (simp; omega)) ?_
    rintro z hS
    have hS : SH _ [_, _, _] z := hS
    have hK := hS.K
    refine w_nil ?_
    refine out_n ?_
    refine then_n ?_
    refine wc_region ?_
    refine w_val rfl rfl (op_pure rfl) ?_
    refine w_val rfl rfl (op_add rfl rfl (by unfold In64; omega)) ?_
    refine w_val rfl rfl (op_pure rfl) ?_
    refine w_nil ?_
    have hS : SH s [rowC ov 2 ((tnd l).map inC), rowC rv 1 (L.map bC), rowC tv 1 ((TT.set k false).map bC)] z := by rw [List.map_set]; exact hS
    exact round_n _ _ (by omega) (Sub.cons rfl (Sub.cons rfl (Sub.cons rfl (Sub.cons rfl (Sub.cons rfl (Sub.nil _)))))) ⟨k + 1, _, rfl, by omega, rfl, hS, by rw [List.length_set]; exact hTl, fun c hc => by
      rw [List.getElem?_set]
      by_cases e : k = c
      · subst e; rw [if_pos rfl, if_pos (by omega), hnp, h66, Bool.false_and] <;> rfl
      · rw [if_neg e]; exact hT c (by omega)⟩
  simp only [decide_eq_false_iff_not] at h57
  obtain rfl : k = l.length := by omega
  have hT0 : ∀ c, Tk TT c ↔ (c < l.length ∧ reaB l c = true ∧ isNop l c = false) ∨ ∃ (j : Nat) (y : InstrL), j < 0 ∧ (tnd l)[j]? = some y ∧ reaB l j = true ∧ branchI y = true ∧ y.a = (c : Int) := fun c => by
    unfold Tk
    constructor
    · intro h
      have hc := (List.getElem?_eq_some_iff.1 h).1
      have := hT c (by omega)
      rw [h] at this
      have := (Option.some.inj this).symm
      simp only [Bool.and_eq_true, Bool.not_eq_true'] at this
      exact .inl ⟨by omega, this⟩
    · rintro (⟨h1, h2, h3⟩ | ⟨j, y, h, _⟩)
      · rw [hT c h1, h2, h3]; rfl
      · omega
  refine wc_exit ?_
  repeat first | refine then_x ?_ | refine round_x ?_ | refine cut_x ?_ | refine out_x' (by decide) ?_
  refine out_x ?_
  refine then_n ?_
  repeat refine wc_seq ?_
  refine wc_region ?_
  refine w_val rfl rfl (op_pure rfl) ?_
  refine w_nil ?_
  refine then_n ?_
  repeat refine wc_seq ?_
  refine wc_block ?_
  refine wc_loop_at (fun jj m z => ∃ (k : Nat) (TT : List Bool), jj = l.length - k ∧ k ≤ l.length ∧ m = [(4, .int .i64 (l.length : Nat)), (5, ov), (8, rv), (9, tv), (11, .int .i64 (k : Nat))] ∧ SH s [rowC ov 2 ((tnd l).map inC), rowC rv 1 (L.map bC), rowC tv 1 (TT.map bC)] z ∧ TT.length = l.length ∧ ∀ c, Tk TT c ↔ (c < l.length ∧ reaB l c = true ∧ isNop l c = false) ∨ ∃ (j : Nat) (y : InstrL), j < k ∧ (tnd l)[j]? = some y ∧ reaB l j = true ∧ branchI y = true ∧ y.a = (c : Int)) l.length
    [(4, .int .i64 (l.length : Nat)), (5, ov), (8, rv), (9, tv), (11, .int .i64 ((0 : Nat) : Int))] (Sub.cons rfl (Sub.cons rfl (Sub.cons rfl (Sub.cons rfl (Sub.cons rfl (Sub.nil _)))))) ⟨0, TT, by simp, by simp, rfl, hS, hTl, hT0⟩ ?_
  clear hS hK
  rintro jj m z ⟨k, TT, rfl, hk, rfl, hS, hTl, hT⟩
  have hK := hS.K
  repeat refine wc_seq ?_
  refine wc_region ?_
  refine w_val rfl rfl (op_pure rfl) ?_
  refine w_val rfl rfl (op_pure rfl) ?_
  refine w_val rfl rfl (op_pure rfl) ?_
  refine w_nil ?_
  refine then_n ?_
  repeat refine wc_seq ?_
  refine wc_condT rfl (fun h77 => ?_) (fun h77 => ?_)
  · simp only [decide_eq_true_eq] at h77
    refine wc_skip ?_
    refine then_n ?_
    repeat refine wc_seq ?_
    refine wc_block ?_
    repeat refine wc_seq ?_
    obtain ⟨y, hy⟩ : ∃ y, (tnd l)[k]? = some y := ⟨_, List.getElem?_eq_getElem (by rw [tnd_len]; omega)⟩
    have hnp := isNop_get hy
    obtain ⟨tb, htb⟩ : ∃ b, TT[k]? = some b := ⟨_, List.getElem?_eq_getElem (by omega)⟩
    have hre : tb = true → reaB l k = true := fun e => by
      subst e
      rcases (hT k).1 htb with ⟨-, h2, -⟩ | ⟨j, y, h2, h3, h4, h5, h6⟩
      · exact h2
      · exact tgt_reached hR h3 h4 h5 h6
    have hno : tb = false → branchI y = true → reaB l k = false := fun e hb => by
      subst e
      cases er : reaB l k with
      | false => rfl
      | true =>
        have hn : isNop l k = false := by rw [hnp]; rcases branchI_iff.1 hb with e | e <;> rw [e] <;> rfl
        exact (not_Tk htb ((hT k).2 (.inl ⟨by omega, er, hn⟩))).elim
    refine wc_region ?_
    refine w_val rfl rfl (op_pure rfl) ?_
    refine w_val rfl rfl (op_pure rfl) ?_
    refine w_val rfl rfl (op_idxF rfl rfl (natA_cast _ _) rfl rfl rfl rfl (hS.row 0 rfl) (by omega)) ?_
    refine w_val rfl rfl (op_load rfl rfl (Row.mk_pt (hS.row 0 rfl) (by assumption)) rfl) ?_
    refine ws_alloc hS rfl rfl rfl rfl ?_
    rintro p3 z hS hk
    have hS : SH _ [_, _, _, _] z := hS
    have hK := hS.K
    refine ws_store 3 hS rfl rfl rfl rfl rfl rfl (by rfl) (Nat.le_of_ble_eq_true rfl) ?_
    rintro z hS
    have hS : SH _ [_, _, _, _] z := hS
    have hK := hS.K
    refine w_nil ?_
    refine then_n ?_
    repeat refine wc_seq ?_
    refine wc_region ?_
    refine w_val rfl rfl (op_pure rfl) ?_
    refine w_val rfl rfl (op_pure rfl) ?_
    refine w_val rfl rfl (op_idxF rfl rfl (natA_cast _ _) rfl rfl rfl rfl (hS.row 2 rfl) (by omega)) ?_
    refine w_val rfl rfl (op_load rfl rfl (Row.mk_pt (hS.row 2 rfl) (by assumption)) rfl) ?_
    refine w_val rfl rfl (op_pure rfl) ?_
    refine w_split (i := 88) rfl (fun h88 => ?_) (fun h88 => ?_)
    · skip
      refine w_val rfl rfl (op_fldP rfl rfl rfl rfl (by decide)) ?_
      refine w_val rfl rfl (op_loadC 3 hS rfl rfl rfl (Nat.le_of_ble_eq_true rfl) rfl) ?_
      refine w_val rfl rfl (op_pure rfl) ?_
      refine w_val rfl rfl (op_pure rfl) ?_
      refine w_split (i := 92) rfl (fun h92 => ?_) (fun h92 => ?_)
      · simp only [beq_iff_eq] at h92
        refine w_off rfl rfl ?_
        refine w_off rfl rfl ?_
        refine w_off rfl rfl ?_
        refine w_val rfl rfl (op_pure rfl) ?_
        refine w_val rfl rfl (op_pure rfl) ?_
        refine w_nil ?_
        refine then_n ?_
        refine wc_cond_t rfl ?_
        have hbr : branchI y = true := by first | exact branch43 (by assumption) | exact branch44 (by assumption)
        obtain ⟨hy0, hyn⟩ := tnd_in hR (List.mem_of_getElem? hy) hbr
        obtain ⟨b, hb⟩ : ∃ b : Nat, y.a = b := ⟨y.a.toNat, by omega⟩
        have hbl : b < l.length := by omega
        refine wc_region ?_
        refine w_val rfl rfl (op_pure rfl) ?_
        refine w_val rfl rfl (op_fldP rfl rfl rfl rfl (by decide)) ?_
        refine w_val rfl rfl (op_loadC (v := .int .i64 (b : Nat)) 3 hS rfl rfl rfl (Nat.le_of_ble_eq_true rfl) (by rw [← hb]; rfl)) ?_
        refine w_val rfl rfl (op_idxF rfl rfl (natA_cast _ _) rfl rfl rfl rfl (hS.row 2 rfl) (by omega)) ?_
        refine ws_storeE 2 hS rfl rfl rfl rfl rfl rfl rfl (by rfl) (by (simp; omega)) ?_
        rintro z hS
        have hS : SH _ [_, _, _, _] z := hS
        have hK := hS.K
        refine w_nil ?_
        refine out_n ?_
        refine then_n ?_
        refine wc_region ?_
        refine w_val rfl rfl (op_pure rfl) ?_
        refine w_val rfl rfl (op_add rfl rfl (by unfold In64; omega)) ?_
        refine w_val rfl rfl (op_pure rfl) ?_
        refine w_nil ?_
        have hS : SH s [rowC ov 2 ((tnd l).map inC), rowC rv 1 (L.map bC), rowC tv 1 ((TT.set b true).map bC)] z := by rw [List.map_set]; exact hS.sel [0, 1, 2] rfl (by decide)
        exact round_n _ _ (by omega) (Sub.cons rfl (Sub.cons rfl (Sub.cons rfl (Sub.cons rfl (Sub.cons rfl (Sub.nil _)))))) ⟨k + 1, TT.set b true, rfl, by omega, rfl, hS, by rw [List.length_set]; exact hTl, fun c => by
          rw [Tk_set (by omega), hT]
          constructor
          · rintro (rfl | h | ⟨j, y, h1, h2⟩)
            · exact .inr ⟨k, y, by omega, hy, hre h88, hbr, hb⟩
            · exact .inl h
            · exact .inr ⟨j, y, by omega, h2⟩
          · rintro (h | ⟨j, y', h1, h2, h3, h4, h5⟩)
            · exact .inr (.inl h)
            · rcases Nat.lt_succ_iff_lt_or_eq.1 h1 with h1 | rfl
              · exact .inr (.inr ⟨j, y', h1, h2, h3, h4, h5⟩)
              · rw [hy] at h2; cases h2
                exact .inl (by omega)⟩
      simp only [beq_eq_false_iff_ne, ne_eq] at h92
      refine w_val rfl rfl (op_fldP rfl rfl rfl rfl (by decide)) ?_
      refine w_val rfl rfl (op_loadC 3 hS rfl rfl rfl (Nat.le_of_ble_eq_true rfl) rfl) ?_
      refine w_val rfl rfl (op_pure rfl) ?_
      refine w_val rfl rfl (op_pure rfl) ?_
      refine w_val rfl rfl (op_pure rfl) ?_
      refine w_nil ?_
      refine then_n ?_
      refine wc_condT rfl (fun h97 => ?_) (fun h97 => ?_)
      · simp only [beq_iff_eq] at h97
        have hbr : branchI y = true := by first | exact branch43 (by assumption) | exact branch44 (by assumption)
        obtain ⟨hy0, hyn⟩ := tnd_in hR (List.mem_of_getElem? hy) hbr
        obtain ⟨b, hb⟩ : ∃ b : Nat, y.a = b := ⟨y.a.toNat, by omega⟩
        have hbl : b < l.length := by omega
        refine wc_region ?_
        refine w_val rfl rfl (op_pure rfl) ?_
        refine w_val rfl rfl (op_fldP rfl rfl rfl rfl (by decide)) ?_
        refine w_val rfl rfl (op_loadC (v := .int .i64 (b : Nat)) 3 hS rfl rfl rfl (Nat.le_of_ble_eq_true rfl) (by rw [← hb]; rfl)) ?_
        refine w_val rfl rfl (op_idxF rfl rfl (natA_cast _ _) rfl rfl rfl rfl (hS.row 2 rfl) (by omega)) ?_
        refine ws_storeE 2 hS rfl rfl rfl rfl rfl rfl rfl (by rfl) (by (simp; omega)) ?_
        rintro z hS
        have hS : SH _ [_, _, _, _] z := hS
        have hK := hS.K
        refine w_nil ?_
        refine out_n ?_
        refine then_n ?_
        refine wc_region ?_
        refine w_val rfl rfl (op_pure rfl) ?_
        refine w_val rfl rfl (op_add rfl rfl (by unfold In64; omega)) ?_
        refine w_val rfl rfl (op_pure rfl) ?_
        refine w_nil ?_
        have hS : SH s [rowC ov 2 ((tnd l).map inC), rowC rv 1 (L.map bC), rowC tv 1 ((TT.set b true).map bC)] z := by rw [List.map_set]; exact hS.sel [0, 1, 2] rfl (by decide)
        exact round_n _ _ (by omega) (Sub.cons rfl (Sub.cons rfl (Sub.cons rfl (Sub.cons rfl (Sub.cons rfl (Sub.nil _)))))) ⟨k + 1, TT.set b true, rfl, by omega, rfl, hS, by rw [List.length_set]; exact hTl, fun c => by
          rw [Tk_set (by omega), hT]
          constructor
          · rintro (rfl | h | ⟨j, y, h1, h2⟩)
            · exact .inr ⟨k, y, by omega, hy, hre h88, hbr, hb⟩
            · exact .inl h
            · exact .inr ⟨j, y, by omega, h2⟩
          · rintro (h | ⟨j, y', h1, h2, h3, h4, h5⟩)
            · exact .inr (.inl h)
            · rcases Nat.lt_succ_iff_lt_or_eq.1 h1 with h1 | rfl
              · exact .inr (.inr ⟨j, y', h1, h2, h3, h4, h5⟩)
              · rw [hy] at h2; cases h2
                exact .inl (by omega)⟩
      simp only [beq_eq_false_iff_ne, ne_eq] at h97
      refine wc_skip ?_
      refine out_n ?_
      refine then_n ?_
      refine wc_region ?_
      refine w_val rfl rfl (op_pure rfl) ?_
      refine w_val rfl rfl (op_add rfl rfl (by unfold In64; omega)) ?_
      refine w_val rfl rfl (op_pure rfl) ?_
      refine w_nil ?_
      exact round_n _ _ (by omega) (Sub.cons rfl (Sub.cons rfl (Sub.cons rfl (Sub.cons rfl (Sub.cons rfl (Sub.nil _)))))) ⟨k + 1, TT, rfl, by omega, rfl, hS.sel [0, 1, 2] rfl (by decide), hTl, fun c => by
        rw [hT]
        constructor
        · rintro (h | ⟨j, y, h1, h2⟩)
          · exact .inl h
          · exact .inr ⟨j, y, by omega, h2⟩
        · rintro (h | ⟨j, y', h1, h2, h3, h4, h5⟩)
          · exact .inl h
          · rcases Nat.lt_succ_iff_lt_or_eq.1 h1 with h1 | rfl
            · exact .inr ⟨j, y', h1, h2, h3, h4, h5⟩
            · rw [hy] at h2; cases h2
              rw [branch_no h92 h97] at h4; cases h4⟩
    skip
    refine w_off rfl rfl ?_
    refine w_off rfl rfl ?_
    refine w_off rfl rfl ?_
    refine w_off rfl rfl ?_
    refine w_off rfl rfl ?_
    refine w_off rfl rfl ?_
    refine w_off rfl rfl ?_
    refine w_off rfl rfl ?_
    refine w_val rfl rfl (op_pure rfl) ?_
    refine w_nil ?_
    refine then_n ?_
    refine wc_cond_f rfl ?_
    refine wc_skip ?_
    refine out_n ?_
    refine then_n ?_
    refine wc_region ?_
    refine w_val rfl rfl (op_pure rfl) ?_
    refine w_val rfl rfl (op_add rfl rfl (by unfold In64; omega)) ?_
    refine w_val rfl rfl (op_pure rfl) ?_
    refine w_nil ?_
    exact round_n _ _ (by omega) (Sub.cons rfl (Sub.cons rfl (Sub.cons rfl (Sub.cons rfl (Sub.cons rfl (Sub.nil _)))))) ⟨k + 1, TT, rfl, by omega, rfl, hS.sel [0, 1, 2] rfl (by decide), hTl, fun c => by
      rw [hT]
      constructor
      · rintro (h | ⟨j, y, h1, h2⟩)
        · exact .inl h
        · exact .inr ⟨j, y, by omega, h2⟩
      · rintro (h | ⟨j, y', h1, h2, h3, h4, h5⟩)
        · exact .inl h
        · rcases Nat.lt_succ_iff_lt_or_eq.1 h1 with h1 | rfl
          · exact .inr ⟨j, y', h1, h2, h3, h4, h5⟩
          · rw [hy] at h2; cases h2
            rw [hno h88 h4] at h3; cases h3⟩
  simp only [decide_eq_false_iff_not] at h77
  obtain rfl : k = l.length := by omega
  have hTS : ∀ c, c < l.length → TT[c]? = some (stays l c) := fun c hc => by
    obtain ⟨b, hb⟩ : ∃ b, TT[c]? = some b := ⟨_, List.getElem?_eq_getElem (by omega)⟩
    rw [hb]
    congr 1
    have h1 := hT c
    unfold Tk at h1
    rw [hb] at h1
    rw [Bool.eq_iff_iff]
    unfold stays
    simp only [Bool.and_eq_true, Bool.or_eq_true, Bool.not_eq_true']
    constructor
    · intro e
      subst e
      rcases h1.1 rfl with ⟨-, h2, h3⟩ | ⟨j, y, h2, h3, h4, h5, h6⟩
      · exact ⟨h2, .inl h3⟩
      · exact ⟨tgt_reached hR h3 h4 h5 h6, .inr (tgt_iff.2 ⟨j, y, h3, h4, h5, h6⟩)⟩
    · rintro ⟨h2, h3 | h3⟩
      · exact Option.some.inj (h1.2 (.inl ⟨hc, h2, h3⟩))
      · obtain ⟨j, y, h4, h5, h6, h7⟩ := tgt_iff.1 h3
        exact Option.some.inj (h1.2 (.inr ⟨j, y, by have := (List.getElem?_eq_some_iff.1 h4).1; omega, h4, h5, h6, h7⟩))
  refine wc_exit ?_
  repeat first | refine then_x ?_ | refine round_x ?_ | refine cut_x ?_ | refine out_x' (by decide) ?_
  refine out_x ?_
  refine then_n ?_
  repeat refine wc_seq ?_
  refine wc_region ?_
  refine w_val rfl rfl (op_pure rfl) ?_
  refine w_nil ?_
  refine then_n ?_
  repeat refine wc_seq ?_
  have hS : SH s [rowC ov 2 ((tnd l).map inC), rowC rv 1 (L.map bC), rowC tv 1 (TT.map bC), rowC .nils 1 ((tI (oldN l 0)).map iC)] z := hS.nil 1
  refine wc_region ?_
  refine w_val rfl rfl (op_pure rfl) ?_
  refine w_nil ?_
  refine then_n ?_
  repeat refine wc_seq ?_
  refine wc_block ?_
  refine wc_loop_at (fun jj m z => ∃ (k : Nat) (o : AV), jj = l.length - k ∧ k ≤ l.length ∧ m = [(4, .int .i64 (l.length : Nat)), (5, ov), (8, rv), (9, tv), (13, o), (14, .int .i64 (k : Nat))] ∧ SH s [rowC ov 2 ((tnd l).map inC), rowC rv 1 (L.map bC), rowC tv 1 (TT.map bC), rowC o 1 ((tI (oldN l k)).map iC)] z) l.length
    [(4, .int .i64 (l.length : Nat)), (5, ov), (8, rv), (9, tv), (13, .nils), (14, .int .i64 ((0 : Nat) : Int))] (Sub.cons rfl (Sub.cons rfl (Sub.cons rfl (Sub.cons rfl (Sub.cons rfl (Sub.cons rfl (Sub.nil _))))))) ⟨0, .nils, by simp, by simp, rfl, hS⟩ ?_
  clear hS hK
  rintro jj m z ⟨k, o, rfl, hk, rfl, hS⟩
  have hK := hS.K
  have hol := oldN_len l k
  have hotl := tI_len (oldN l k)
  repeat refine wc_seq ?_
  refine wc_region ?_
  refine w_val rfl rfl (op_pure rfl) ?_
  refine w_val rfl rfl (op_pure rfl) ?_
  refine w_val rfl rfl (op_pure rfl) ?_
  refine w_nil ?_
  refine then_n ?_
  repeat refine wc_seq ?_
  refine wc_condT rfl (fun h104 => ?_) (fun h104 => ?_)
  · simp only [decide_eq_true_eq] at h104
    refine wc_skip ?_
    refine then_n ?_
    repeat refine wc_seq ?_
    refine wc_block ?_
    repeat refine wc_seq ?_
    have hSk := hTS k (by omega)
    refine wc_region ?_
    refine w_val rfl rfl (op_pure rfl) ?_
    refine w_val rfl rfl (op_pure rfl) ?_
    refine w_val rfl rfl (op_idxF rfl rfl (natA_cast _ _) rfl rfl rfl rfl (hS.row 2 rfl) (by omega)) ?_
    refine w_val rfl rfl (op_load rfl rfl (Row.mk_pt (hS.row 2 rfl) (by assumption)) rfl) ?_
    refine w_nil ?_
    refine then_n ?_
    refine wc_condT rfl (fun h110 => ?_) (fun h110 => ?_)
    · skip
      refine wc_region ?_
      refine w_val rfl rfl (op_pure rfl) ?_
      refine w_val rfl rfl (op_pure rfl) ?_
      refine ws_lit1 hS rfl rfl rfl rfl rfl rfl rfl rfl (by decide) (by decide) rfl (by rfl) rfl ?_
      rintro lt113 z hS hk hlt113
      have hK := hS.K
      refine ws_append 3 hS rfl rfl rfl rfl rfl rfl rfl rfl rfl rfl rfl (by decide) (hlt113) (by (simp only [List.length_map, List.length_nil, List.length_cons, maxBytes]; omega)) (by (simp only [List.length_map, List.length_nil, List.length_cons, maxBytes]; omega)) ?_
      rintro at114 z hS
      have hS : SH _ [_, _, _, _] z := hS
      have hK := hS.K
      refine w_val rfl rfl (op_pure rfl) ?_
      refine w_nil ?_
      refine out_n ?_
      refine then_n ?_
      refine wc_region ?_
      refine w_val rfl rfl (op_pure rfl) ?_
      refine w_val rfl rfl (op_add rfl rfl (by unfold In64; omega)) ?_
      refine w_val rfl rfl (op_pure rfl) ?_
      refine w_nil ?_
      have hS : SH s [rowC ov 2 ((tnd l).map inC), rowC rv 1 (L.map bC), rowC tv 1 (TT.map bC), rowC at114 1 ((tI (oldN l (k + 1))).map iC)] z := by rw [oldN_yes h110, tI_app, List.map_append]; exact hS
      exact round_n _ _ (by omega) (Sub.cons rfl (Sub.cons rfl (Sub.cons rfl (Sub.cons rfl (Sub.cons rfl (Sub.cons rfl (Sub.nil _))))))) ⟨k + 1, at114, rfl, by omega, rfl, hS⟩
    skip
    refine wc_skip ?_
    refine out_n ?_
    refine then_n ?_
    refine wc_region ?_
    refine w_val rfl rfl (op_pure rfl) ?_
    refine w_val rfl rfl (op_add rfl rfl (by unfold In64; omega)) ?_
    refine w_val rfl rfl (op_pure rfl) ?_
    refine w_nil ?_
    have hS : SH s [rowC ov 2 ((tnd l).map inC), rowC rv 1 (L.map bC), rowC tv 1 (TT.map bC), rowC o 1 ((tI (oldN l (k + 1))).map iC)] z := by rw [oldN_no h110]; exact hS
    exact round_n _ _ (by omega) (Sub.cons rfl (Sub.cons rfl (Sub.cons rfl (Sub.cons rfl (Sub.cons rfl (Sub.cons rfl (Sub.nil _))))))) ⟨k + 1, o, rfl, by omega, rfl, hS⟩
  simp only [decide_eq_false_iff_not] at h104
  obtain rfl : k = l.length := by omega
  refine wc_exit ?_
  repeat first | refine then_x ?_ | refine round_x ?_ | refine cut_x ?_ | refine out_x' (by decide) ?_
  refine out_x ?_
  refine then_n ?_
  repeat refine wc_seq ?_
  refine wc_region ?_
  refine w_val rfl rfl (op_pure rfl) ?_
  refine w_nil ?_
  refine then_n ?_
  repeat refine wc_seq ?_
  have hS : SH s [rowC ov 2 ((tnd l).map inC), rowC rv 1 (L.map bC), rowC tv 1 (TT.map bC), rowC o 1 ((tI (oldN l l.length)).map iC), rowC .nils 2 (((codeL l).take 0).map inC)] z := hS.nil 2
  refine wc_region ?_
  refine w_val rfl rfl (op_pure rfl) ?_
  refine w_nil ?_
  refine then_n ?_
  repeat refine wc_seq ?_
  refine wc_block ?_
  refine wc_loop_at (fun jj m z => ∃ (k : Nat) (xv : AV), jj = (tI (oldN l l.length)).length - k ∧ k ≤ (tI (oldN l l.length)).length ∧ m = [(5, ov), (13, o), (15, xv), (16, .int .i64 (k : Nat))] ∧ SH s [rowC ov 2 ((tnd l).map inC), rowC rv 1 (L.map bC), rowC tv 1 (TT.map bC), rowC o 1 ((tI (oldN l l.length)).map iC), rowC xv 2 (((codeL l).take k).map inC)] z) (tI (oldN l l.length)).length
    [(5, ov), (13, o), (15, .nils), (16, .int .i64 ((0 : Nat) : Int))] (Sub.cons rfl (Sub.cons rfl (Sub.cons rfl (Sub.cons rfl (Sub.nil _))))) ⟨0, .nils, by simp, by simp, rfl, hS⟩ ?_
  clear hS hK
  rintro jj m z ⟨k, xv, rfl, hk, rfl, hS⟩
  have hK := hS.K
  have hcl : ((codeL l).take k).length ≤ 2097152 := by rw [List.length_take]; omega
  repeat refine wc_seq ?_
  refine wc_region ?_
  refine w_val rfl rfl (op_pure rfl) ?_
  refine w_val rfl rfl (op_pure rfl) ?_
  refine w_val rfl rfl (op_len rfl rfl rfl rfl rfl (hS.row 3 rfl).slenF) ?_
  refine w_val rfl rfl (op_pure rfl) ?_
  refine w_nil ?_
  refine then_n ?_
  repeat refine wc_seq ?_
  refine wc_condT rfl (fun h118 => ?_) (fun h118 => ?_)
  · simp only [decide_eq_true_eq] at h118
    refine wc_skip ?_
    refine then_n ?_
    repeat refine wc_seq ?_
    refine wc_block ?_
    repeat refine wc_seq ?_
    obtain ⟨a, ha⟩ : ∃ a, (oldN l l.length)[k]? = some a := ⟨_, List.getElem?_eq_getElem (by rw [← tI_len]; omega)⟩
    have hta := tI_get ha
    obtain ⟨hal, hst⟩ := oldN_mem (List.mem_of_getElem? ha)
    have hre : reaB l a = true := by unfold stays at hst; rw [Bool.and_eq_true] at hst; exact hst.1
    obtain ⟨y, hy⟩ : ∃ y, (tnd l)[a]? = some y := ⟨_, List.getElem?_eq_getElem (by rw [tnd_len]; omega)⟩
    refine wc_region ?_
    refine w_val rfl rfl (op_pure rfl) ?_
    refine w_val rfl rfl (op_pure rfl) ?_
    refine w_val rfl rfl (op_pure rfl) ?_
    refine w_val rfl rfl (op_idxF rfl rfl (natA_cast _ _) rfl rfl rfl rfl (hS.row 3 rfl) (by omega)) ?_
    refine w_val rfl rfl (op_load rfl rfl (Row.mk_pt (hS.row 3 rfl) (by assumption)) rfl) ?_
    refine w_val rfl rfl (op_idxF rfl rfl (natA_cast _ _) rfl rfl rfl rfl (hS.row 0 rfl) (by omega)) ?_
    refine w_val rfl rfl (op_load rfl rfl (Row.mk_pt (hS.row 0 rfl) (by assumption)) rfl) ?_
    refine ws_alloc hS rfl rfl rfl rfl ?_
    rintro p5 z hS hk
    have hS : SH _ [_, _, _, _, _, _] z := hS
    have hK := hS.K
    refine ws_store 5 hS rfl rfl rfl rfl rfl rfl (by rfl) (Nat.le_of_ble_eq_true rfl) ?_
    rintro z hS
    have hS : SH _ [_, _, _, _, _, _] z := hS
    have hK := hS.K
    refine w_nil ?_
    refine then_n ?_
    repeat refine wc_seq ?_
    refine wc_region ?_
    refine w_val rfl rfl (op_fldP rfl rfl rfl rfl (by decide)) ?_
    refine w_val rfl rfl (op_loadC 5 hS rfl rfl rfl (Nat.le_of_ble_eq_true rfl) rfl) ?_
    refine w_val rfl rfl (op_pure rfl) ?_
    refine w_val rfl rfl (op_pure rfl) ?_
    refine w_split (i := 131) rfl (fun h131 => ?_) (fun h131 => ?_)
    · simp only [beq_iff_eq] at h131
      refine w_off rfl rfl ?_
      refine w_off rfl rfl ?_
      refine w_off rfl rfl ?_
      refine w_val rfl rfl (op_pure rfl) ?_
      refine w_nil ?_
      refine then_n ?_
      repeat refine wc_seq ?_
      refine wc_cond_t rfl ?_
      repeat refine wc_seq ?_
      have hbr : branchI y = true := by first | exact branch43 (by assumption) | exact branch44 (by assumption)
      obtain ⟨hy0, hyn⟩ := tnd_in hR (List.mem_of_getElem? hy) hbr
      obtain ⟨b, hb⟩ : ∃ b : Nat, y.a = b := ⟨y.a.toNat, by omega⟩
      have hbl : b < l.length := by omega
      have hpg := place_get hbl (tgt_stays hR (tgt_iff.2 ⟨a, y, hy, hre, hbr, hb⟩))
      have hpl := (List.getElem?_eq_some_iff.1 hpg).1
      have hfi : finI l y = ⟨y.op, (place l b : Int)⟩ := by unfold finI; rw [if_pos hbr, hb, Int.toNat_natCast]
      refine wc_region ?_
      refine w_val rfl rfl (op_pure rfl) ?_
      refine w_nil ?_
      refine then_n ?_
      refine wc_block ?_
      have hS : SH s [rowC ov 2 ((tnd l).map inC), rowC rv 1 (L.map bC), rowC tv 1 (TT.map bC), rowC o 1 ((tI (oldN l l.length)).map iC), rowC xv 2 (((codeL l).take k).map inC), ptC (.ptr p5 0 0) [.int .i64 y.op, .int .i64 y.a]] z := hS
      refine wc_loop_at (fun jj m z' => ∃ c : Nat, jj = (tI (oldN l l.length)).length - c ∧ c ≤ (tI (oldN l l.length)).length ∧ m = [(5, ov), (13, o), (15, xv), (16, .int .i64 (k : Nat)), (17, .ptr p5 0 0), (18, .int .i64 (c : Nat))] ∧ z = z' ∧ ∀ c', c' < c → (oldN l l.length)[c']? ≠ some b) (tI (oldN l l.length)).length
        [(5, ov), (13, o), (15, xv), (16, .int .i64 (k : Nat)), (17, .ptr p5 0 0), (18, .int .i64 ((0 : Nat) : Int))] (Sub.cons rfl (Sub.cons rfl (Sub.cons rfl (Sub.cons rfl (Sub.cons rfl (Sub.cons rfl (Sub.nil _))))))) ⟨0, by simp, by simp, rfl, rfl, fun c' h => by omega⟩ ?_
      rintro j5 m5 _ ⟨c, rfl, hc, rfl, rfl, hN⟩
      repeat refine wc_seq ?_
      refine wc_region ?_
      refine w_val rfl rfl (op_pure rfl) ?_
      refine w_val rfl rfl (op_pure rfl) ?_
      refine w_val rfl rfl (op_len rfl rfl rfl rfl rfl (hS.row 3 rfl).slenF) ?_
      refine w_val rfl rfl (op_pure rfl) ?_
      refine w_nil ?_
      refine then_n ?_
      repeat refine wc_seq ?_
      refine wc_condT rfl (fun h139 => ?_) (fun h139 => ?_)
      · simp only [decide_eq_true_eq] at h139
        refine wc_skip ?_
        refine then_n ?_
        repeat refine wc_seq ?_
        refine wc_block ?_
        repeat refine wc_seq ?_
        obtain ⟨d, hd⟩ : ∃ d, (oldN l l.length)[c]? = some d := ⟨_, List.getElem?_eq_getElem (by rw [← tI_len]; omega)⟩
        have htd := tI_get hd
        refine wc_draw (fun _ => True) (by kernel_rfl) rfl ?_
        refine wd_val (fun _ => trivial) rfl rfl (op_pure rfl) ?_
        refine wd_val (fun _ => trivial) rfl rfl (op_pure rfl) ?_
        refine wd_val (fun _ => trivial) rfl rfl (op_idxF rfl rfl (natA_cast _ _) rfl rfl rfl rfl (Row.bare (hS.row 3 rfl)) (by omega)) ?_
        refine wd_val (fun _ => trivial) rfl rfl (op_load rfl rfl (Pt.bare (Row.mk_pt (hS.row 3 rfl) htd)) rfl) ?_
        refine wd_val (fun _ => trivial) rfl rfl (op_fldP rfl rfl rfl rfl (by decide)) ?_
        refine wd_val (fun _ => trivial) rfl rfl (op_load rfl rfl (Pt.bare ((hS.pt 5 rfl).at (Nat.le_of_ble_eq_true rfl))) rfl) ?_
        refine wd_val (fun _ => trivial) rfl rfl (op_pure rfl) ?_
        refine wd_nil ?_
        refine then_n ?_
        refine wc_condT rfl (fun h148 => ?_) (fun h148 => ?_)
        · simp only [beq_iff_eq] at h148
          obtain rfl : d = b := by rw [hb] at h148; omega
          obtain rfl : c = place l d := oldN_inj hd hpg
          repeat refine wc_seq ?_
          refine wc_region ?_
          refine w_val rfl rfl (op_pure rfl) ?_
          refine w_val rfl rfl (op_fldP rfl rfl rfl rfl (by decide)) ?_
          refine ws_storeL 5 hS rfl rfl rfl rfl rfl rfl (by rfl) (Nat.le_of_ble_eq_true rfl) ?_
          rintro z hS
          have hS : SH _ [_, _, _, _, _, _] z := hS
          have hK := hS.K
          refine w_nil ?_
          refine then_n ?_
          refine wc_exit ?_
          repeat first | refine then_x ?_ | refine round_x ?_ | refine cut_x ?_ | refine out_x' (by decide) ?_
          refine out_x ?_
          refine then_n ?_
          have hcl : ((codeL l).take k).length ≤ 2097152 := by rw [List.length_take]; omega
          refine wc_region ?_
          refine w_val rfl rfl (op_pure rfl) ?_
          refine w_val rfl rfl (op_loadC 5 hS rfl rfl rfl (Nat.le_of_ble_eq_true rfl) rfl) ?_
          refine ws_lit1 hS rfl rfl rfl rfl rfl rfl rfl rfl (by decide) (by decide) rfl (by rfl) rfl ?_
          rintro lt153 z hS hk hlt153
          have hK := hS.K
          refine ws_append 4 hS rfl rfl rfl rfl rfl rfl rfl rfl rfl rfl rfl (by decide) (hlt153) (by (simp only [List.length_map, List.length_nil, List.length_cons, List.length_take, maxBytes]; omega)) (by (simp only [List.length_map, List.length_nil, List.length_cons, List.length_take, maxBytes]; omega)) ?_
          rintro at154 z hS
          have hS : SH _ [_, _, _, _, _, _] z := hS
          have hK := hS.K
          refine w_val rfl rfl (op_pure rfl) ?_
          refine w_nil ?_
          refine out_n ?_
          refine then_n ?_
          refine wc_region ?_
          refine w_val rfl rfl (op_pure rfl) ?_
          refine w_val rfl rfl (op_add rfl rfl (by unfold In64; omega)) ?_
          refine w_val rfl rfl (op_pure rfl) ?_
          refine w_nil ?_
          have hfin : inC (finI l y) = _ := congrArg inC hfi
          have hS : SH s [rowC ov 2 ((tnd l).map inC), rowC rv 1 (L.map bC), rowC tv 1 (TT.map bC), rowC o 1 ((tI (oldN l l.length)).map iC), rowC at154 2 (((codeL l).take (k + 1)).map inC)] z := by rw [codeL_take ha hy, hfin]; exact hS.sel [0, 1, 2, 3, 4] rfl (by decide)
          exact round_n _ _ (by omega) (Sub.cons rfl (Sub.cons rfl (Sub.cons rfl (Sub.cons rfl (Sub.nil _))))) ⟨k + 1, at154, rfl, by omega, rfl, hS⟩
        simp only [beq_eq_false_iff_ne, ne_eq] at h148
        refine wc_skip ?_
        refine out_n ?_
        refine then_n ?_
        refine wc_region ?_
        refine w_val rfl rfl (op_pure rfl) ?_
        refine w_val rfl rfl (op_add rfl rfl (by unfold In64; omega)) ?_
        refine w_val rfl rfl (op_pure rfl) ?_
        refine w_nil ?_
        exact round_n _ _ (by omega) (Sub.cons rfl (Sub.cons rfl (Sub.cons rfl (Sub.cons rfl (Sub.cons rfl (Sub.cons rfl (Sub.nil _))))))) ⟨c + 1, rfl, by omega, rfl, rfl, fun c' h => (Nat.lt_succ_iff_lt_or_eq.1 h).elim (hN c') (fun e => by subst e; rw [hd]; intro e; cases e; exact h148 hb.symm)⟩
      simp only [decide_eq_false_iff_not] at h139
      exact (hN (place l b) (by have := tI_len (oldN l l.length); omega) hpg).elim
    simp only [beq_eq_false_iff_ne, ne_eq] at h131
    refine w_val rfl rfl (op_fldP rfl rfl rfl rfl (by decide)) ?_
    refine w_val rfl rfl (op_loadC 5 hS rfl rfl rfl (Nat.le_of_ble_eq_true rfl) rfl) ?_
    refine w_val rfl rfl (op_pure rfl) ?_
    refine w_val rfl rfl (op_pure rfl) ?_
    refine w_nil ?_
    refine then_n ?_
    repeat refine wc_seq ?_
    refine wc_condT rfl (fun h135 => ?_) (fun h135 => ?_)
    · simp only [beq_iff_eq] at h135
      repeat refine wc_seq ?_
      have hbr : branchI y = true := by first | exact branch43 (by assumption) | exact branch44 (by assumption)
      obtain ⟨hy0, hyn⟩ := tnd_in hR (List.mem_of_getElem? hy) hbr
      obtain ⟨b, hb⟩ : ∃ b : Nat, y.a = b := ⟨y.a.toNat, by omega⟩
      have hbl : b < l.length := by omega
      have hpg := place_get hbl (tgt_stays hR (tgt_iff.2 ⟨a, y, hy, hre, hbr, hb⟩))
      have hpl := (List.getElem?_eq_some_iff.1 hpg).1
      have hfi : finI l y = ⟨y.op, (place l b : Int)⟩ := by unfold finI; rw [if_pos hbr, hb, Int.toNat_natCast]
      refine wc_region ?_
      refine w_val rfl rfl (op_pure rfl) ?_
      refine w_nil ?_
      refine then_n ?_
      refine wc_block ?_
      have hS : SH s [rowC ov 2 ((tnd l).map inC), rowC rv 1 (L.map bC), rowC tv 1 (TT.map bC), rowC o 1 ((tI (oldN l l.length)).map iC), rowC xv 2 (((codeL l).take k).map inC), ptC (.ptr p5 0 0) [.int .i64 y.op, .int .i64 y.a]] z := hS
      refine wc_loop_at (fun jj m z' => ∃ c : Nat, jj = (tI (oldN l l.length)).length - c ∧ c ≤ (tI (oldN l l.length)).length ∧ m = [(5, ov), (13, o), (15, xv), (16, .int .i64 (k : Nat)), (17, .ptr p5 0 0), (18, .int .i64 (c : Nat))] ∧ z = z' ∧ ∀ c', c' < c → (oldN l l.length)[c']? ≠ some b) (tI (oldN l l.length)).length
        [(5, ov), (13, o), (15, xv), (16, .int .i64 (k : Nat)), (17, .ptr p5 0 0), (18, .int .i64 ((0 : Nat) : Int))] (Sub.cons rfl (Sub.cons rfl (Sub.cons rfl (Sub.cons rfl (Sub.cons rfl (Sub.cons rfl (Sub.nil _))))))) ⟨0, by simp, by simp, rfl, rfl, fun c' h => by omega⟩ ?_
      rintro j5 m5 _ ⟨c, rfl, hc, rfl, rfl, hN⟩
      repeat refine wc_seq ?_
      refine wc_region ?_
      refine w_val rfl rfl (op_pure rfl) ?_
      refine w_val rfl rfl (op_pure rfl) ?_
      refine w_val rfl rfl (op_len rfl rfl rfl rfl rfl (hS.row 3 rfl).slenF) ?_
      refine w_val rfl rfl (op_pure rfl) ?_
      refine w_nil ?_
      refine then_n ?_
      repeat refine wc_seq ?_
      refine wc_condT rfl (fun h139 => ?_) (fun h139 => ?_)
      · simp only [decide_eq_true_eq] at h139
        refine wc_skip ?_
        refine then_n ?_
        repeat refine wc_seq ?_
        refine wc_block ?_
        repeat refine wc_seq ?_
        obtain ⟨d, hd⟩ : ∃ d, (oldN l l.length)[c]? = some d := ⟨_, List.getElem?_eq_getElem (by rw [← tI_len]; omega)⟩
        have htd := tI_get hd
        refine wc_draw (fun _ => True) (by kernel_rfl) rfl ?_
        refine wd_val (fun _ => trivial) rfl rfl (op_pure rfl) ?_
        refine wd_val (fun _ => trivial) rfl rfl (op_pure rfl) ?_
        refine wd_val (fun _ => trivial) rfl rfl (op_idxF rfl rfl (natA_cast _ _) rfl rfl rfl rfl (Row.bare (hS.row 3 rfl)) (by omega)) ?_
        refine wd_val (fun _ => trivial) rfl rfl (op_load rfl rfl (Pt.bare (Row.mk_pt (hS.row 3 rfl) htd)) rfl) ?_
        refine wd_val (fun _ => trivial) rfl rfl (op_fldP rfl rfl rfl rfl (by decide)) ?_
        refine wd_val (fun _ => trivial) rfl rfl (op_load rfl rfl (Pt.bare ((hS.pt 5 rfl).at (Nat.le_of_ble_eq_true rfl))) rfl) ?_
        refine wd_val (fun _ => trivial) rfl rfl (op_pure rfl) ?_
        refine wd_nil ?_
        refine then_n ?_
        refine wc_condT rfl (fun h148 => ?_) (fun h148 => ?_)
        · simp only [beq_iff_eq] at h148
          obtain rfl : d = b := by rw [hb] at h148; omega
          obtain rfl : c = place l d := oldN_inj hd hpg
          repeat refine wc_seq ?_
          refine wc_region ?_
          refine w_val rfl rfl (op_pure rfl) ?_
          refine w_val rfl rfl (op_fldP rfl rfl rfl rfl (by decide)) ?_
          refine ws_storeL 5 hS rfl rfl rfl rfl rfl rfl (by rfl) (Nat.le_of_ble_eq_true rfl) ?_
          rintro z hS
          have hS : SH _ [_, _, _, _, _, _] z := hS
          have hK := hS.K
          refine w_nil ?_
          refine then_n ?_
          refine wc_exit ?_
          repeat first | refine then_x ?_ | refine round_x ?_ | refine cut_x ?_ | refine out_x' (by decide) ?_
          refine out_x ?_
          refine then_n ?_
          have hcl : ((codeL l).take k).length ≤ 2097152 := by rw [List.length_take]; omega
          refine wc_region ?_
          refine w_val rfl rfl (op_pure rfl) ?_
          refine w_val rfl rfl (op_loadC 5 hS rfl rfl rfl (Nat.le_of_ble_eq_true rfl) rfl) ?_
          refine ws_lit1 hS rfl rfl rfl rfl rfl rfl rfl rfl (by decide) (by decide) rfl (by rfl) rfl ?_
          rintro lt153 z hS hk hlt153
          have hK := hS.K
          refine ws_append 4 hS rfl rfl rfl rfl rfl rfl rfl rfl rfl rfl rfl (by decide) (hlt153) (by (simp only [List.length_map, List.length_nil, List.length_cons, List.length_take, maxBytes]; omega)) (by (simp only [List.length_map, List.length_nil, List.length_cons, List.length_take, maxBytes]; omega)) ?_
          rintro at154 z hS
          have hS : SH _ [_, _, _, _, _, _] z := hS
          have hK := hS.K
          refine w_val rfl rfl (op_pure rfl) ?_
          refine w_nil ?_
          refine out_n ?_
          refine then_n ?_
          refine wc_region ?_
          refine w_val rfl rfl (op_pure rfl) ?_
          refine w_val rfl rfl (op_add rfl rfl (by unfold In64; omega)) ?_
          refine w_val rfl rfl (op_pure rfl) ?_
          refine w_nil ?_
          have hfin : inC (finI l y) = _ := congrArg inC hfi
          have hS : SH s [rowC ov 2 ((tnd l).map inC), rowC rv 1 (L.map bC), rowC tv 1 (TT.map bC), rowC o 1 ((tI (oldN l l.length)).map iC), rowC at154 2 (((codeL l).take (k + 1)).map inC)] z := by rw [codeL_take ha hy, hfin]; exact hS.sel [0, 1, 2, 3, 4] rfl (by decide)
          exact round_n _ _ (by omega) (Sub.cons rfl (Sub.cons rfl (Sub.cons rfl (Sub.cons rfl (Sub.nil _))))) ⟨k + 1, at154, rfl, by omega, rfl, hS⟩
        simp only [beq_eq_false_iff_ne, ne_eq] at h148
        refine wc_skip ?_
        refine out_n ?_
        refine then_n ?_
        refine wc_region ?_
        refine w_val rfl rfl (op_pure rfl) ?_
        refine w_val rfl rfl (op_add rfl rfl (by unfold In64; omega)) ?_
        refine w_val rfl rfl (op_pure rfl) ?_
        refine w_nil ?_
        exact round_n _ _ (by omega) (Sub.cons rfl (Sub.cons rfl (Sub.cons rfl (Sub.cons rfl (Sub.cons rfl (Sub.cons rfl (Sub.nil _))))))) ⟨c + 1, rfl, by omega, rfl, rfl, fun c' h => (Nat.lt_succ_iff_lt_or_eq.1 h).elim (hN c') (fun e => by subst e; rw [hd]; intro e; cases e; exact h148 hb.symm)⟩
      simp only [decide_eq_false_iff_not] at h139
      exact (hN (place l b) (by have := tI_len (oldN l l.length); omega) hpg).elim
    simp only [beq_eq_false_iff_ne, ne_eq] at h135
    refine wc_skip ?_
    refine then_n ?_
    have hcl : ((codeL l).take k).length ≤ 2097152 := by rw [List.length_take]; omega
    refine wc_region ?_
    refine w_val rfl rfl (op_pure rfl) ?_
    refine w_val rfl rfl (op_loadC 5 hS rfl rfl rfl (Nat.le_of_ble_eq_true rfl) rfl) ?_
    refine ws_lit1 hS rfl rfl rfl rfl rfl rfl rfl rfl (by decide) (by decide) rfl (by rfl) rfl ?_
    rintro lt153 z hS hk hlt153
    have hK := hS.K
    refine ws_append 4 hS rfl rfl rfl rfl rfl rfl rfl rfl rfl rfl rfl (by decide) (hlt153) (by (simp only [List.length_map, List.length_nil, List.length_cons, List.length_take, maxBytes]; omega)) (by (simp only [List.length_map, List.length_nil, List.length_cons, List.length_take, maxBytes]; omega)) ?_
    rintro at154 z hS
    have hS : SH _ [_, _, _, _, _, _] z := hS
    have hK := hS.K
    refine w_val rfl rfl (op_pure rfl) ?_
    refine w_nil ?_
    refine out_n ?_
    refine then_n ?_
    refine wc_region ?_
    refine w_val rfl rfl (op_pure rfl) ?_
    refine w_val rfl rfl (op_add rfl rfl (by unfold In64; omega)) ?_
    refine w_val rfl rfl (op_pure rfl) ?_
    refine w_nil ?_
    have hfin : inC (finI l y) = _ := congrArg inC (show finI l y = y by unfold finI; rw [if_neg (by rw [branch_no h131 h135]; decide)])
    have hS : SH s [rowC ov 2 ((tnd l).map inC), rowC rv 1 (L.map bC), rowC tv 1 (TT.map bC), rowC o 1 ((tI (oldN l l.length)).map iC), rowC at154 2 (((codeL l).take (k + 1)).map inC)] z := by rw [codeL_take ha hy, hfin]; exact hS.sel [0, 1, 2, 3, 4] rfl (by decide)
    exact round_n _ _ (by omega) (Sub.cons rfl (Sub.cons rfl (Sub.cons rfl (Sub.cons rfl (Sub.nil _))))) ⟨k + 1, at154, rfl, by omega, rfl, hS⟩
  simp only [decide_eq_false_iff_not] at h118
  obtain rfl : k = (tI (oldN l l.length)).length := by omega
  rw [List.take_of_length_le (by unfold codeL; rw [List.length_map, tI_len]; exact Nat.le_refl _)] at hS
  refine wc_exit ?_
  repeat first | refine then_x ?_ | refine round_x ?_ | refine cut_x ?_ | refine out_x' (by decide) ?_
  refine out_x ?_
  refine then_n ?_
  repeat refine wc_seq ?_
  refine wc_region ?_
  refine w_val rfl rfl (op_pure rfl) ?_
  refine w_val rfl rfl (op_pure rfl) ?_
  refine w_val rfl rfl (op_pure rfl) ?_
  refine w_val rfl rfl (op_pure rfl) ?_
  refine w_nil ?_
  refine then_n ?_
  refine wc_ret ?_
  repeat first | refine then_r ?_ | refine out_r ?_ | refine round_r ?_ | refine cut_r ?_ | refine sc_r ?_
  exact ⟨_, rfl, hK, xv, o, rfl, by unfold codeO; rw [if_pos hR]; exact hS.row 4 rfl, by unfold oldO; rw [if_pos hR]; exact hS.row 3 rfl, (fun g hg => (hS.bd 4 rfl g hg).1), fun g hg => (hS.bd 3 rfl g hg).1⟩
end Go.Ab
/- louverlaw26.TrimCode. -/
namespace Go.Ab
open Go.Proofs
theorem SH.add2 {s0 s s' : St} {L : List Chunk} (h : SH s0 L s) (k : Keep [] s s') (c d : Chunk) (hP : c.P s'.h) (hQ : d.P s'.h) (hF : ∀ g, c.F g → s.ctr ≤ g ∧ g < s'.ctr) (hG : ∀ g, d.F g → s.ctr ≤ g ∧ g < s'.ctr) (hcd : ∀ g, c.F g → ¬ d.F g) : SH s0 (L ++ [c] ++ [d]) s' := by
  have hm := h.mov k
  have hc := h.K.ctr
  have key : ∀ (i : Nat) (x : Chunk), (L ++ [c] ++ [d])[i]? = some x → (i < L.length ∧ L[i]? = some x) ∨ (i = L.length ∧ x = c) ∨ (i = L.length + 1 ∧ x = d) := by
    intro i x hi
    rw [List.append_assoc] at hi
    by_cases hl : i < L.length
    · rw [List.getElem?_append_left hl] at hi; exact .inl ⟨hl, hi⟩
    · have h1 := (List.getElem?_eq_some_iff.1 hi).1
      simp only [List.length_append, List.length_cons, List.length_nil] at h1
      rw [List.getElem?_append_right (by omega)] at hi
      by_cases e : i = L.length
      · subst e
        rw [Nat.sub_self] at hi
        simp at hi
        exact .inr (.inl ⟨rfl, hi.symm⟩)
      · obtain rfl : i = L.length + 1 := by omega
        rw [Nat.add_sub_cancel_left] at hi
        simp at hi
        exact .inr (.inr ⟨rfl, hi.symm⟩)
  refine ⟨hm.K, fun i x hi => ?_, fun i j x y hij hi hj g hx hy => ?_⟩
  · rcases key i x hi with ⟨-, h1⟩ | ⟨-, rfl⟩ | ⟨-, rfl⟩
    · exact hm.own i x h1
    · exact ⟨hP, fun g hg => ⟨Nat.le_trans hc (hF g hg).1, (hF g hg).2⟩⟩
    · exact ⟨hQ, fun g hg => ⟨Nat.le_trans hc (hG g hg).1, (hG g hg).2⟩⟩
  · rcases key i x hi with ⟨h0, h1⟩ | ⟨h1, rfl⟩ | ⟨h1, rfl⟩ <;> rcases key j y hj with ⟨k0, k1⟩ | ⟨k1, rfl⟩ | ⟨k1, rfl⟩
    · exact h.dis i j x y hij h1 k1 g hx hy
    · have := (h.own i x h1).2 g hx; have := hF g hy; omega
    · have := (h.own i x h1).2 g hx; have := hG g hy; omega
    · have := (h.own j y k1).2 g hy; have := hF g hx; omega
    · omega
    · exact hcd g hx hy
    · have := (h.own j y k1).2 g hy; have := hG g hx; omega
    · exact hcd g hy hx
    · omega
theorem codeO_len (l : List InstrL) : (codeO l).length ≤ l.length := by
  unfold codeO
  split
  · simp only [List.length_map]; exact oldN_len l l.length
  · exact Nat.zero_le _
end Go.Ab
/- Marks that spread by rounds. -/
namespace Go.Ab
open Go.Proofs
/-- All marked ones are reached, and the first one is marked. -/
structure Spr (m : ModL) (f : Nat) (l : List Bool) : Prop where
  len : l.length = m.funcs.length
  here : Tk l f
  sound : ∀ k, Tk l k → Rch m f k
/-- In a round: l0 stood when it began; where nothing was found yet, all is as it was, and what was looked at leads to nothing new. -/
structure Rnd (m : ModL) (f : Nat) (l0 l : List Bool) (more : Bool) (k i : Nat) : Prop where
  spr : Spr m f l
  yes : more = true → cntF l < cntF l0
  no : more = false → l = l0 ∧ (∀ (a : Nat) (x : FuncL) (j : Nat) (y : InstrL) (b : Nat), (a < k ∨ a = k ∧ j < i) → Tk l a → m.funcs[a]? = some x → x.code[j]? = some y → y.op = 45 → y.a = (b : Int) → Tk l b)
end Go.Ab
/- The document's Needs. -/
namespace Go.Ab
open Go.Proofs
end Go.Ab
/- louverlaw27.LinkBinds. -/
namespace Go.Ab
open Go.Proofs
theorem okM_funcs {m : ModL} (h : okM m = true) : m.funcs.length ≤ 1000 := by
  have h1 : (checkF m).1 = 0 := by
    unfold okM at h
    simp only [Bool.and_eq_true, beq_iff_eq] at h
    exact h.1
  unfold checkF at h1
  split at h1
  · cases h1
  · omega
end Go.Ab
/- A function whose code may be nil; a module of such functions. What Trim gives. -/
namespace Go.Ab
open Go.Proofs
/-- A function in memory of its own, with the bounds of its groups. -/
def FuncT : RP (FuncL × Nat × Nat) := fun h F q c => ∃ vp vr vc, c = [.int .u64 q.1.level, vp, vr, .int .i64 q.1.locals, .int .i64 q.1.stack, vc] ∧ Row h 1 vp (q.1.params.map lC) ∧ Row h 1 vr (q.1.results.map lC) ∧ Row h 2 vc (q.1.code.map inC) ∧
  (∀ g ∈ vp.gs, (q.2.1 ≤ g ∧ g < q.2.2) ∧ F g) ∧ (∀ g ∈ vr.gs, (q.2.1 ≤ g ∧ g < q.2.2) ∧ F g) ∧ (∀ g ∈ vc.gs, (q.2.1 ≤ g ∧ g < q.2.2) ∧ F g) ∧ (∀ g ∈ vp.gs, g ∉ vr.gs) ∧ (∀ g ∈ vp.gs, g ∉ vc.gs) ∧ (∀ g ∈ vr.gs, g ∉ vc.gs) ∧ (vp.gs = [] → vp = .nils) ∧ (vr.gs = [] → vr = .nils) ∧ (vc.gs = [] → vc = .nils)
theorem good_t : Good FuncT where
  keep := fun ⟨vp, vr, vc, e, h1, h2, h3, f1, f2, f3, r⟩ h hY => ⟨vp, vr, vc, e, h1.keep h fun g hg hy => hY g hy (f1 g hg).2, h2.keep h fun g hg hy => hY g hy (f2 g hg).2, h3.keep h fun g hg hy => hY g hy (f3 g hg).2, f1, f2, f3, r⟩
  mono := fun ⟨vp, vr, vc, e, h1, h2, h3, f1, f2, f3, r⟩ h => ⟨vp, vr, vc, e, h1, h2, h3, fun g hg => ⟨(f1 g hg).1, h g (f1 g hg).2⟩, fun g hg => ⟨(f2 g hg).1, h g (f2 g hg).2⟩, fun g hg => ⟨(f3 g hg).1, h g (f3 g hg).2⟩, r⟩
theorem modO_of2 {h : Tr Grp} {mm : ModL} {vg va vh vf : AV} {qs : List (FuncL × Nat × Nat)} {css : List (List AV)} {a b : Nat} (hg : Row h 1 vg (mm.globals.map lC)) (ha : Row h 2 va (mm.arrays.map aC)) (hh : Row h 1 vh (mm.channels.map lC)) (hf : Row h 6 vf css)
    (hl : css.length = qs.length) (hx : ∀ (i : Nat) (q : FuncL × Nat × Nat) (c : List AV), qs[i]? = some q → css[i]? = some c → FuncT h (Fr a b vf.gs) q c) (hap : Apart a b qs) (hq : qs.map (·.1) = mm.funcs)
    (dgf : Dis vg vf) (daf : Dis va vf) (dhf : Dis vh vf) (dga : Dis vg va) (dgh : Dis vg vh) (dah : Dis va vh) (lg : ∀ g ∈ vg.gs, g < a ∨ b ≤ g) (la : ∀ g ∈ va.gs, g < a ∨ b ≤ g) (lh : ∀ g ∈ vh.gs, g < a ∨ b ≤ g)
    (ng : vg.gs = [] → vg = .nils) (na : va.gs = [] → va = .nils) (nh : vh.gs = [] → vh = .nils) (nf : vf.gs = [] → vf = .nils) :
    ∃ fs, ModO h mm ⟨vg, va, vh, vf, fs⟩ ∧ ∀ q ∈ fs, ∀ v ∈ [q.2.1, q.2.2.1, q.2.2.2], ∀ g ∈ v.gs, a ≤ g ∧ g < b := by
  obtain ⟨fs, hfl, hfs⟩ := list_choice (P := fun i (f : FM) => ∃ q, qs[i]? = some q ∧ f.1 = q.1 ∧ css[i]? = some (fC f) ∧ Row h 1 f.2.1 (f.1.params.map lC) ∧ Row h 1 f.2.2.1 (f.1.results.map lC) ∧ Row h 2 f.2.2.2 (f.1.code.map inC) ∧
      (∀ v ∈ [f.2.1, f.2.2.1, f.2.2.2], ∀ g ∈ v.gs, (q.2.1 ≤ g ∧ g < q.2.2) ∧ g ∉ vf.gs) ∧ Dis f.2.1 f.2.2.1 ∧ Dis f.2.1 f.2.2.2 ∧ Dis f.2.2.1 f.2.2.2 ∧ (∀ v ∈ [f.2.1, f.2.2.1, f.2.2.2], v.gs = [] → v = .nils)) qs.length (fun i hi => by
    have e1 : qs[i]? = some qs[i] := List.getElem?_eq_getElem hi
    have e2 : css[i]? = some (css[i]'(by omega)) := List.getElem?_eq_getElem (by omega)
    obtain ⟨vp, vr, vc, e, h1, h2, h3, f1, f2, f3, d1, d2, d3, n1, n2, n3⟩ := hx i _ _ e1 e2
    refine ⟨(qs[i].1, vp, vr, vc), qs[i], e1, rfl, ?_, h1, h2, h3, ?_, d1, d2, d3, ?_⟩
    · rw [e2, e]; rfl
    · intro v hv g hg
      simp only [List.mem_cons, List.not_mem_nil, or_false] at hv
      rcases hv with rfl | rfl | rfl
      · exact ⟨(f1 g hg).1, (f1 g hg).2.2.2⟩
      · exact ⟨(f2 g hg).1, (f2 g hg).2.2.2⟩
      · exact ⟨(f3 g hg).1, (f3 g hg).2.2.2⟩
    · intro v hv hn
      simp only [List.mem_cons, List.not_mem_nil, or_false] at hv
      rcases hv with rfl | rfl | rfl
      · exact n1 hn
      · exact n2 hn
      · exact n3 hn)
  have hcss : css = fs.map fC := by
    refine List.ext_getElem? fun i => ?_
    rw [List.getElem?_map]
    cases e : fs[i]? with
    | none =>
      have := List.getElem?_eq_none_iff.1 e
      rw [List.getElem?_eq_none (by omega)]; rfl
    | some f =>
      obtain ⟨q, -, -, e2, -⟩ := hfs i f e
      rw [e2]; rfl
  have hfun : fs.map (·.1) = mm.funcs := by
    rw [← hq]
    refine List.ext_getElem? fun i => ?_
    rw [List.getElem?_map, List.getElem?_map]
    cases e : fs[i]? with
    | none =>
      have := List.getElem?_eq_none_iff.1 e
      rw [List.getElem?_eq_none (by omega)]; rfl
    | some f =>
      obtain ⟨q, e1, e2, -⟩ := hfs i f e
      rw [e1]; simp only [Option.map_some, e2]
  have hmem : ∀ f ∈ fs, ∃ q, q ∈ qs ∧ Row h 1 f.2.1 (f.1.params.map lC) ∧ Row h 1 f.2.2.1 (f.1.results.map lC) ∧ Row h 2 f.2.2.2 (f.1.code.map inC) ∧
      (∀ v ∈ [f.2.1, f.2.2.1, f.2.2.2], ∀ g ∈ v.gs, (q.2.1 ≤ g ∧ g < q.2.2) ∧ g ∉ vf.gs) ∧ Dis f.2.1 f.2.2.1 ∧ Dis f.2.1 f.2.2.2 ∧ Dis f.2.2.1 f.2.2.2 ∧ (∀ v ∈ [f.2.1, f.2.2.1, f.2.2.2], v.gs = [] → v = .nils) := by
    intro f hf
    obtain ⟨i, hi⟩ := List.getElem?_of_mem hf
    obtain ⟨q, e1, -, -, r⟩ := hfs i f hi
    exact ⟨q, List.mem_of_getElem? e1, r⟩
  have hpw : fs.Pairwise fun f f' => ∀ u ∈ [f.2.1, f.2.2.1, f.2.2.2], ∀ w ∈ [f'.2.1, f'.2.2.1, f'.2.2.2], Dis u w := by
    rw [List.pairwise_iff_getElem]
    intro i j hi hj hij u hu w hw g hg hg'
    obtain ⟨q, e1, -, -, -, -, -, r1, -⟩ := hfs i _ (List.getElem?_eq_getElem hi)
    obtain ⟨q', e1', -, -, -, -, -, r1', -⟩ := hfs j _ (List.getElem?_eq_getElem hj)
    have hp := (List.pairwise_iff_getElem.1 hap.pw) i j (List.getElem?_eq_some_iff.1 e1).1 (List.getElem?_eq_some_iff.1 e1').1 hij
    rw [(List.getElem?_eq_some_iff.1 e1).2, (List.getElem?_eq_some_iff.1 e1').2] at hp
    have := r1 u hu g hg
    have := r1' w hw g hg'
    omega
  have hbd : ∀ f ∈ fs, ∀ v ∈ [f.2.1, f.2.2.1, f.2.2.2], ∀ g ∈ v.gs, (a ≤ g ∧ g < b) ∧ g ∉ vf.gs := by
    intro f hf v hv g hg
    obtain ⟨q, hq, -, -, -, r, -⟩ := hmem f hf
    have h1 := r v hv g hg
    have h2 := hap.lo q hq
    exact ⟨by omega, h1.2⟩
  have m1 : ∀ f : FM, f.2.1 ∈ [f.2.1, f.2.2.1, f.2.2.2] := fun f => List.mem_cons_self ..
  have m2 : ∀ f : FM, f.2.2.1 ∈ [f.2.1, f.2.2.1, f.2.2.2] := fun f => List.mem_cons_of_mem _ (List.mem_cons_self ..)
  have m3 : ∀ f : FM, f.2.2.2 ∈ [f.2.1, f.2.2.1, f.2.2.2] := fun f => List.mem_cons_of_mem _ (List.mem_cons_of_mem _ (List.mem_cons_self ..))
  have hin : ∀ v ∈ fs.flatMap (fun q => [q.2.1, q.2.2.1]), ∃ f ∈ fs, v ∈ [f.2.1, f.2.2.1, f.2.2.2] := by
    intro v hv
    obtain ⟨f, hf, hv⟩ := List.mem_flatMap.1 hv
    refine ⟨f, hf, ?_⟩
    rcases List.mem_cons.1 hv with rfl | hv
    · exact m1 f
    · rw [List.mem_singleton.1 hv]; exact m2 f
  have hin2 : ∀ v ∈ fs.map (fun q => q.2.2.2), ∃ f ∈ fs, v ∈ [f.2.1, f.2.2.1, f.2.2.2] := by
    intro v hv
    obtain ⟨f, hf, rfl⟩ := List.mem_map.1 hv
    exact ⟨f, hf, m3 f⟩
  have hin3 : ∀ v ∈ fs.flatMap (fun q => [q.2.1, q.2.2.1]) ++ fs.map (fun q => q.2.2.2), ∃ f ∈ fs, v ∈ [f.2.1, f.2.2.1, f.2.2.2] := by
    intro v hv
    rcases List.mem_append.1 hv with hv | hv
    · exact hin v hv
    · exact hin2 v hv
  have hup : ∀ w : AV, (∀ g ∈ w.gs, (g < a ∨ b ≤ g)) → ∀ v ∈ fs.flatMap (fun q => [q.2.1, q.2.2.1]) ++ fs.map (fun q => q.2.2.2), Dis w v := by
    intro w hw v hv g hg hg'
    obtain ⟨f, hf, hv'⟩ := hin3 v hv
    have := hbd f hf v hv' g hg'
    have := hw g hg
    omega
  refine ⟨fs, ⟨hg, ha, hh, by rw [← hcss]; exact hf, hfun, fun f hf => ?_, ?_, ?_⟩, fun f hf v hv g hg => (hbd f hf v hv g hg).1⟩
  · obtain ⟨q, -, h1, h2, h3, -⟩ := hmem f hf
    exact ⟨h1, h2, h3⟩
  · simp only [MemM.all, MemM.labs, MemM.cods, List.cons_append, List.pairwise_cons]
    refine ⟨fun v hv => ?_, fun v hv => ?_, fun v hv => ?_, fun v hv => hup vh lh v hv, ?_⟩
    · rcases List.mem_cons.1 hv with rfl | hv
      · exact daf
      rcases List.mem_cons.1 hv with rfl | hv
      · exact dga.symm
      rcases List.mem_cons.1 hv with rfl | hv
      · exact dah
      exact hup va la v hv
    · rcases List.mem_cons.1 hv with rfl | hv
      · exact dgf.symm
      rcases List.mem_cons.1 hv with rfl | hv
      · exact dhf.symm
      obtain ⟨f, hf, hv'⟩ := hin3 v hv
      exact Dis.symm fun g hg => (hbd f hf v hv' g hg).2
    · rcases List.mem_cons.1 hv with rfl | hv
      · exact dgh
      exact hup vg lg v hv
    · rw [List.pairwise_append]
      refine ⟨?_, ?_, ?_⟩
      · rw [List.pairwise_flatMap]
        refine ⟨fun f hf => ?_, hpw.imp fun {f f'} h u hu w hw => ?_⟩
        · obtain ⟨q, -, -, -, -, -, d1, -⟩ := hmem f hf
          refine List.pairwise_cons.2 ⟨fun w hw => by rw [List.mem_singleton.1 hw]; exact d1, List.pairwise_singleton _ _⟩
        · refine h u ?_ w ?_
          · rcases List.mem_cons.1 hu with rfl | hu
            · exact m1 f
            · rw [List.mem_singleton.1 hu]; exact m2 f
          · rcases List.mem_cons.1 hw with rfl | hw
            · exact m1 f'
            · rw [List.mem_singleton.1 hw]; exact m2 f'
      · rw [List.pairwise_map]
        exact hpw.imp fun {f f'} h => h _ (m3 f) _ (m3 f')
      · intro u hu w hw
        obtain ⟨f, hf, hu⟩ := List.mem_flatMap.1 hu
        obtain ⟨f', hf', rfl⟩ := List.mem_map.1 hw
        obtain ⟨i, hi⟩ := List.getElem?_of_mem hf
        obtain ⟨j, hj⟩ := List.getElem?_of_mem hf'
        have hu' : u ∈ [f.2.1, f.2.2.1, f.2.2.2] := by
          rcases List.mem_cons.1 hu with rfl | hu
          · exact m1 f
          · rw [List.mem_singleton.1 hu]; exact m2 f
        obtain ⟨hi1, hi2⟩ := List.getElem?_eq_some_iff.1 hi
        obtain ⟨hj1, hj2⟩ := List.getElem?_eq_some_iff.1 hj
        have hpw' := List.pairwise_iff_getElem.1 hpw
        rcases Nat.lt_trichotomy i j with hij | hij | hij
        · have := hpw' i j hi1 hj1 hij
          rw [hi2, hj2] at this
          exact this u hu' _ (m3 f')
        · subst hij
          rw [hi] at hj
          cases hj
          obtain ⟨q, -, -, -, -, -, d1, d2, d3, -⟩ := hmem f hf
          rcases List.mem_cons.1 hu with rfl | hu
          · exact d2
          · rw [List.mem_singleton.1 hu]; exact d3
        · have := hpw' j i hj1 hi1 hij
          rw [hi2, hj2] at this
          exact (this _ (m3 f') u hu').symm
  · intro v hv
    simp only [MemM.all, MemM.labs, MemM.cods, List.cons_append] at hv
    rcases List.mem_cons.1 hv with rfl | hv
    · exact na
    rcases List.mem_cons.1 hv with rfl | hv
    · exact nf
    rcases List.mem_cons.1 hv with rfl | hv
    · exact ng
    rcases List.mem_cons.1 hv with rfl | hv
    · exact nh
    obtain ⟨f, hf, hv'⟩ := hin3 v hv
    obtain ⟨q, -, -, -, -, -, -, -, -, n⟩ := hmem f hf
    exact n v hv'
def trimE (m : ModL) : Int := if okM m = true then 0 else 1
noncomputable def trimF (x : FuncL) : FuncL := { x with code := codeO x.code }
noncomputable def trimM (m : ModL) : ModL := if trimE m = 0 then ⟨m.globals, m.arrays, m.channels, m.funcs.map trimF⟩ else ⟨[], [], [], []⟩
theorem trimE_err {m : ModL} (h : okM m = false) : trimE m = 1 := if_neg (by rw [h]; decide)
theorem trimE_ok {m : ModL} (h : okM m = true) : trimE m = 0 := if_pos h
theorem trimO_err {h : Tr Grp} {m : ModL} (k : ¬ trimE m = 0) : ModO h (trimM m) ⟨.nils, .nils, .nils, .nils, []⟩ := by
  rw [show trimM m = ⟨[], [], [], []⟩ from if_neg k]
  exact ModO.empty h
theorem trimR_err {h : Tr Grp} {m : ModL} (k : ¬ trimE m = 0) : ModR h (trimM m) [.nils, .nils, .nils, .nils] := by
  rw [show trimM m = ⟨[], [], [], []⟩ from if_neg k]
  exact ⟨_, _, _, _, rfl, rfl, rfl, rfl, [], rfl, rfl, fun i x c h => by simp at h⟩
theorem trimM_small {m : ModL} (hm : m.small) : (trimM m).small := by
  by_cases h : trimE m = 0
  · rw [show trimM m = ⟨m.globals, m.arrays, m.channels, m.funcs.map trimF⟩ from if_pos h]
    refine ⟨hm.1, hm.2.1, hm.2.2.1, by rw [List.length_map]; exact hm.2.2.2.1, fun x hx => ?_⟩
    obtain ⟨y, hy, rfl⟩ := List.mem_map.1 hx
    have := hm.2.2.2.2 y hy
    exact ⟨this.1, this.2.1, Nat.le_trans (codeO_len _) this.2.2⟩
  · rw [show trimM m = ⟨[], [], [], []⟩ from if_neg h]
    exact ⟨by simp, by simp, by simp, by simp, fun x hx => by cases hx⟩
end Go.Ab
/- The document's Trim. -/
namespace Go.Ab
open Go.Proofs
def rwC (v : AV) (sz : Nat) (css : List (List AV)) : Chunk := ⟨fun g => g ∈ v.gs, fun h => Row h sz v css, fun k h hY => k.keep h fun g hg hy => hY g hy hg⟩
set_option maxRecDepth 10000 in
set_option maxHeartbeats 8000000 in
theorem trim_ref_ok {s : St} {ca : List AV} {mm : ModL} (hok : s.Ok) (hmm : mm.small) (hva : ModR s.h mm ca) :
    CallS Try.prog Tt Kt 43 [.agg ca] s (fun r s' => Keep [] s s' ∧ ∃ c', r = .tup [.agg c', .int .i64 (trimE mm)] ∧ ModR s'.h (trimM mm) c') := by
  have hza := hva.leaf.2
  obtain ⟨vga, vaa, vha, vfa, rfl, hvg, hvaa, hvh, cssf, hrf, hlf, hFf⟩ := id hva
  have hsf : vfa.slen = some mm.funcs.length := by rw [hrf.slen, hlf]
  obtain ⟨hm1, hm2, hm3, hm4, hsm⟩ := id hmm
  refine call_of (fn := Try.f43) (nt := 43) Try.func43 rfl rfl rfl ?_
  repeat refine wc_seq ?_
  have hS := SH.start hok
  have hK := hS.K
  refine wc_region ?_
  refine ws_box hS rfl rfl rfl hza ?_
  rintro p0 z hS hk
  have hS : SH _ [_] z := hS
  have hK := hS.K
  refine ws_alloc hS rfl rfl rfl rfl ?_
  rintro p1 z hS hk
  have hS : SH _ [_, _] z := hS
  have hK := hS.K
  refine w_val rfl rfl (op_pure rfl) ?_
  refine w_nil ?_
  refine then_n ?_
  repeat refine wc_seq ?_
  refine wc_region ?_
  refine w_val rfl rfl (op_loadC 0 hS rfl rfl rfl (Nat.le_of_ble_eq_true rfl) rfl) ?_
  refine w_call rfl rfl (op_call rfl rfl rfl rfl) (check_ref_ok hK.ok hmm (ModR.keep0 hva hK)) ?_
  rintro _ z ⟨hk, rfl⟩
  have hS := hS.mov hk
  have hK := hS.K
  refine w_val rfl rfl (op_pure rfl) ?_
  refine w_val rfl rfl (op_pure rfl) ?_
  refine w_nil ?_
  refine then_n ?_
  repeat refine wc_seq ?_
  refine wc_condT rfl (fun h12 => ?_) (fun h12 => ?_)
  · have hok0 : okM mm = false := by rw [Bool.not_eq_true'] at h12; exact h12
    repeat refine wc_seq ?_
    refine wc_region ?_
    refine w_val rfl rfl (op_pure rfl) ?_
    refine ws_store 1 hS rfl rfl rfl rfl rfl rfl (by rfl) (Nat.le_of_ble_eq_true rfl) ?_
    rintro z hS
    have hS : SH _ [_, _] z := hS
    have hK := hS.K
    refine w_val rfl rfl (op_pure rfl) ?_
    refine w_nil ?_
    refine then_n ?_
    refine wc_ret ?_
    repeat first | refine then_r ?_ | refine out_r ?_ | refine round_r ?_ | refine cut_r ?_ | refine sc_r ?_
    have hE : trimE mm = 1 := trimE_err hok0
    exact ⟨_, res_cell2 rfl rfl rfl (hS.pt 1 rfl) rfl, hK, _, congrArg (fun e => AV.tup [AV.agg [.nils, .nils, .nils, .nils], .int .i64 e]) hE.symm, trimR_err (by rw [hE]; decide)⟩
  have hok0 : okM mm = true := by rw [Bool.not_eq_false'] at h12; exact h12
  have hE : trimE mm = 0 := trimE_ok hok0
  clear h12
  refine wc_skip ?_
  refine then_n ?_
  repeat refine wc_seq ?_
  refine wc_region ?_
  refine w_val rfl rfl (op_loadC 0 hS rfl rfl rfl (Nat.le_of_ble_eq_true rfl) rfl) ?_
  refine ws_alloc hS rfl rfl rfl rfl ?_
  rintro p2 z hS hk
  have hS : SH _ [_, _, _] z := hS
  have hK := hS.K
  refine ws_store 2 hS rfl rfl rfl rfl rfl rfl hza (Nat.le_of_ble_eq_true rfl) ?_
  rintro z hS
  have hS : SH _ [_, _, _] z := hS
  have hK := hS.K
  refine w_nil ?_
  refine then_n ?_
  repeat refine wc_seq ?_
  refine wc_region ?_
  refine w_val rfl rfl (op_fldP rfl rfl rfl rfl (by decide)) ?_
  refine ws_storeL 2 hS rfl rfl rfl rfl rfl rfl (by rfl) (Nat.le_of_ble_eq_true rfl) ?_
  rintro z hS
  have hS : SH _ [_, _, _] z := hS
  have hK := hS.K
  refine w_nil ?_
  refine then_n ?_
  repeat refine wc_seq ?_
  have hS := hS.nilB (FuncE s) (good_e s) 6
  have hS : SH s [ptC (.ptr p0 0 0) [vga, vaa, vha, vfa], ptC (.ptr p1 0 0) [.nils, .nils, .nils, .nils], ptC (.ptr p2 0 0) [vga, vaa, vha, .nils], bldC (FuncE s) (good_e s) (fun _ => False) 6 .nils ((mm.funcs.take 0).map trimF)] z := hS
  refine wc_region ?_
  refine w_val rfl rfl (op_pure rfl) ?_
  refine w_nil ?_
  refine then_n ?_
  repeat refine wc_seq ?_
  refine wc_block ?_
  refine wc_loop_at (fun jj m z => ∃ (k : Nat) (F : AV) (FS : Nat → Prop), jj = mm.funcs.length - k ∧ k ≤ mm.funcs.length ∧ m = [(1, .ptr p0 0 0), (2, .ptr p1 0 0), (4, .ptr p2 0 0), (5, .int .i64 (k : Nat))] ∧ SH s [ptC (.ptr p0 0 0) [vga, vaa, vha, vfa], ptC (.ptr p1 0 0) [.nils, .nils, .nils, .nils], ptC (.ptr p2 0 0) [vga, vaa, vha, F], bldC (FuncE s) (good_e s) FS 6 F ((mm.funcs.take k).map trimF)] z) mm.funcs.length
    [(1, .ptr p0 0 0), (2, .ptr p1 0 0), (4, .ptr p2 0 0), (5, .int .i64 ((0 : Nat) : Int))] (Sub.cons rfl (Sub.cons rfl (Sub.cons rfl (Sub.cons rfl (Sub.nil _))))) ⟨0, .nils, _, by simp, by simp, rfl, hS⟩ ?_
  clear hS hK
  rintro jj m z ⟨k, F, FS, rfl, hk, rfl, hS⟩
  have hK := hS.K
  repeat refine wc_seq ?_
  refine wc_region ?_
  refine w_val rfl rfl (op_pure rfl) ?_
  refine w_val rfl rfl (op_fldP rfl rfl rfl rfl (by decide)) ?_
  refine w_val rfl rfl (op_loadC 0 hS rfl rfl rfl (Nat.le_of_ble_eq_true rfl) rfl) ?_
  refine w_val rfl rfl (op_len rfl rfl rfl rfl rfl hsf) ?_
  refine w_val rfl rfl (op_pure rfl) ?_
  refine w_nil ?_
  refine then_n ?_
  repeat refine wc_seq ?_
  refine wc_condT rfl (fun h20 => ?_) (fun h20 => ?_)
  · simp only [decide_eq_true_eq] at h20
    refine wc_skip ?_
    refine then_n ?_
    repeat refine wc_seq ?_
    refine wc_block ?_
    repeat refine wc_seq ?_
    obtain ⟨x, hx⟩ : ∃ x, mm.funcs[k]? = some x := ⟨_, List.getElem?_eq_getElem (by omega)⟩
    obtain ⟨cx, hcx⟩ : ∃ c, cssf[k]? = some c := ⟨_, List.getElem?_eq_getElem (by omega)⟩
    have hfx := hFf k x cx hx hcx
    have hzx := hfx.leaf.2
    have hsx := hsm x (List.mem_of_getElem? hx)
    obtain ⟨vxp, vxr, vxc, rfl, hxp, hxr, hxc⟩ := hfx
    have hrz := hrf.keep0 hK
    refine wc_region ?_
    refine w_val rfl rfl (op_fldP rfl rfl rfl rfl (by decide)) ?_
    refine w_val rfl rfl (op_loadC 0 hS rfl rfl rfl (Nat.le_of_ble_eq_true rfl) rfl) ?_
    refine w_val rfl rfl (op_pure rfl) ?_
    refine w_val rfl rfl (op_idx rfl rfl (natA_cast _ _) rfl rfl rfl rfl hrz (by omega)) ?_
    refine w_val rfl rfl (op_load rfl rfl (Row.pt hrz hcx) rfl) ?_
    refine ws_alloc hS rfl rfl rfl rfl ?_
    rintro p4b z hS hk
    have hS : SH _ [_, _, _, _, _] z := hS
    have hK := hS.K
    refine ws_store 4 hS rfl rfl rfl rfl rfl rfl hzx (Nat.le_of_ble_eq_true rfl) ?_
    rintro z hS
    have hS : SH _ [_, _, _, _, _] z := hS
    have hK := hS.K
    refine w_nil ?_
    refine then_n ?_
    repeat refine wc_seq ?_
    refine wc_region ?_
    refine w_val rfl rfl (op_fldP rfl rfl rfl rfl (by decide)) ?_
    refine w_val rfl rfl (op_loadC 4 hS rfl rfl rfl (Nat.le_of_ble_eq_true rfl) rfl) ?_
    refine w_call rfl rfl (op_call rfl rfl rfl rfl) (trimCode_ref_ok hK.ok (hxc.keep0 hK) hsx.2.2) ?_
    rintro _ z1 ⟨hk2, w, wo, rfl, hw, -, hbw, -⟩
    have hS := hS.add hk2 (rwC w 2 ((codeO x.code).map inC)) hw (fun g hg => ⟨hbw g hg, hw.lt hk2.ok g hg⟩)
    have hwl := hw.leaf
    clear hw hbw hk2
    have hS : SH _ [_, _, _, _, _, _] z1 := hS
    have hK := hS.K
    refine w_val rfl rfl (op_pure rfl) ?_
    refine w_val rfl rfl (op_pure rfl) ?_
    refine w_val rfl rfl (op_pure rfl) ?_
    refine w_val rfl rfl (op_pure rfl) ?_
    refine w_val rfl rfl (op_pure rfl) ?_
    refine w_nil ?_
    refine then_n ?_
    repeat refine wc_seq ?_
    refine wc_region ?_
    refine w_val rfl rfl (op_pure rfl) ?_
    refine w_val rfl rfl (op_fldP rfl rfl rfl rfl (by decide)) ?_
    refine ws_storeL 4 hS rfl rfl rfl rfl rfl rfl (by assumption) (Nat.le_of_ble_eq_true rfl) ?_
    rintro z hS
    have hS : SH _ [_, _, _, _, _, _] z := hS
    have hK := hS.K
    refine w_nil ?_
    refine then_n ?_
    have hzw : ([.int .u64 x.level, vxp, vxr, .int .i64 x.locals, .int .i64 x.stack, w] : List AV).all AV.leaf = true := by
      simp only [List.all_cons, List.all_nil, hxp.leaf, hxr.leaf, hwl]; rfl
    refine wc_region ?_
    refine w_val rfl rfl (op_fldP rfl rfl rfl rfl (by decide)) ?_
    refine w_val rfl rfl (op_loadC 2 hS rfl rfl rfl (Nat.le_of_ble_eq_true rfl) rfl) ?_
    refine w_val rfl rfl (op_loadC 4 hS rfl rfl rfl (Nat.le_of_ble_eq_true rfl) rfl) ?_
    refine ws_lit1 hS rfl rfl rfl rfl rfl rfl rfl rfl (by decide) (by decide) rfl hzw rfl ?_
    rintro lt39 z hS hk hlt39
    have hK := hS.K
    refine ws_app_bld (z := trimF x) 3 5 (by decide) hS rfl rfl rfl rfl rfl rfl rfl rfl rfl rfl rfl rfl (by decide) hlt39 ⟨vxp, vxr, w, rfl, hxp, hxr, hS.get 5 rfl, fun g hg => hg⟩ (by simp only [List.length_map, List.length_take, maxBytes]; omega) (by simp only [List.length_map, List.length_take, maxBytes]; omega) ?_
    rintro F2 z FS2 hS
    have hS : SH _ [_, _, _, _, _, _] z := hS
    rw [← snoc_map1 hx] at hS
    have hK := hS.K
    have hF2 := hS.bldLeaf 3 rfl
    refine w_val rfl rfl (op_fldP rfl rfl rfl rfl (by decide)) ?_
    refine ws_storeL 2 hS rfl rfl rfl rfl rfl rfl hF2 (Nat.le_of_ble_eq_true rfl) ?_
    rintro z hS
    have hS : SH _ [_, _, _, _, _, _] z := hS
    have hK := hS.K
    refine w_nil ?_
    refine out_n ?_
    refine then_n ?_
    refine wc_region ?_
    refine w_val rfl rfl (op_pure rfl) ?_
    refine w_val rfl rfl (op_add rfl rfl (by unfold In64; omega)) ?_
    refine w_val rfl rfl (op_pure rfl) ?_
    refine w_nil ?_
    have hS : SH s [ptC (.ptr p0 0 0) [vga, vaa, vha, vfa], ptC (.ptr p1 0 0) [.nils, .nils, .nils, .nils], ptC (.ptr p2 0 0) [vga, vaa, vha, F2], bldC (FuncE s) (good_e s) FS2 6 F2 ((mm.funcs.take (k + 1)).map trimF)] z := hS.sel [0, 1, 2, 3] rfl (by decide)
    exact round_n _ _ (by omega) (Sub.cons rfl (Sub.cons rfl (Sub.cons rfl (Sub.cons rfl (Sub.nil _))))) ⟨k + 1, _, _, rfl, by omega, rfl, hS⟩
  simp only [decide_eq_false_iff_not] at h20
  obtain rfl : k = mm.funcs.length := by omega
  rw [List.take_length] at hS
  refine wc_exit ?_
  repeat first | refine then_x ?_ | refine round_x ?_ | refine cut_x ?_ | refine out_x' (by decide) ?_
  refine out_x ?_
  refine then_n ?_
  repeat refine wc_seq ?_
  have hz24 : ([vga, vaa, vha, F] : List AV).all AV.leaf = true := by simp only [List.all_cons, List.all_nil, hvg.leaf, hvaa.leaf, hvh.leaf, hS.bldLeaf 3 rfl]; rfl
  refine wc_region ?_
  refine w_val rfl rfl (op_loadC 2 hS rfl rfl rfl (Nat.le_of_ble_eq_true rfl) rfl) ?_
  refine ws_store 1 hS rfl rfl rfl rfl rfl rfl hz24 (Nat.le_of_ble_eq_true rfl) ?_
  rintro z hS
  have hS : SH _ [_, _, _, _] z := hS
  have hK := hS.K
  refine w_val rfl rfl (op_pure rfl) ?_
  refine w_nil ?_
  refine then_n ?_
  refine wc_ret ?_
  repeat first | refine then_r ?_ | refine out_r ?_ | refine round_r ?_ | refine cut_r ?_ | refine sc_r ?_
  obtain ⟨css, hr, -, -, hl, hx⟩ := hS.bld 3 rfl
  have hmo : trimM mm = ⟨mm.globals, mm.arrays, mm.channels, mm.funcs.map trimF⟩ := if_pos hE
  refine ⟨_, res_cell2 rfl rfl rfl (hS.pt 1 rfl) rfl, hK, _, congrArg (fun e => AV.tup [AV.agg [vga, vaa, vha, F], .int .i64 e]) hE.symm, ?_⟩
  rw [hmo]
  refine ⟨_, _, _, _, rfl, hvg.keep0 hK, hvaa.keep0 hK, hvh.keep0 hK, css, hr, hl, fun a x c e1 e2 => ?_⟩
  obtain ⟨vp, vr, vc, e, h1, h2, h3, -⟩ := hx a x c e1 e2
  exact ⟨vp, vr, vc, e, h1.keep0 hK, h2.keep0 hK, h3⟩
-- unused hook: ownt39
end Go.Ab
/- A drawn region whose last operations come behind all others: these may write what the others read. -/
namespace Go.Ab
open Go.Proofs
section
variable {P : Program} {T : Tab} {K : FuncId → Option Bool} {nt : Nat} {ops : Array Oper} {rest : List Oper} {m : Sy} {s s0 : St} {Q : Sy → St → Prop} {d ty : Nat} {pos : String} {af : Array Edge} {g : Option (Nat × Bool)} {X : List Nat} {D : Nat → Prop} {v : AV} {op : Op}
theorem evLog_app (call : FuncId → List AV → St → Option (AV × St)) : ∀ (A B : List Oper) (t t1 t2 : TL) (s s1 s2 : St) (e1 e2 : List Entry), evLog T call ops A (A.map fun _ => none) t s = some (t1, s1, e1) → evLog T call ops B (B.map fun _ => none) t1 s1 = some (t2, s2, e2) →
    evLog T call ops (A ++ B) ((A ++ B).map fun _ => none) t s = some (t2, s2, e1 ++ e2) ∧ e1.length = A.length := by
  intro A
  induction A with
  | nil =>
    intro B t t1 t2 s s1 s2 e1 e2 h1 h2
    simp only [evLog] at h1
    cases h1
    exact ⟨h2, rfl⟩
  | cons o A ih =>
    intro B t t1 t2 s s1 s2 e1 e2 h1 h2
    simp only [List.map_cons, evLog] at h1
    split at h1
    · cases h1
    · rename_i tx sx hx
      split at h1
      · cases h1
      · rename_i ty sy ly hy
        cases h1
        obtain ⟨i1, i2⟩ := ih B _ _ _ _ _ _ _ _ hy h2
        refine ⟨?_, by simp only [List.length_cons, i2]⟩
        rw [List.cons_append, List.map_cons, evLog, hx]
        simp only
        rw [i1]
        rfl
/-- Every operation from n on comes behind all that stand before n. -/
def lateB (ops : Array Oper) (n : Nat) : Bool := (List.range ops.size).all fun e => decide (e < n) || (List.range n).all fun i => aheadB (Region.before ops) i e
theorem wc_draw2 {id n : Nat} {R : Ex → Sy → St → Prop} (A B : List Oper) (D : Nat → Prop) (hAB : ops.toList = A ++ B) (hn : A.length = n) (hd : drawOk false ops = true) (hl : noEarly ops.toList = true) (hb : lateB ops n = true)
    (h : WD P T K nt ops A m s D fun m1 s1 => WD P T K nt ops B m1 s1 (fun _ => False) (R .normal)) : WC P T K nt (.region id ops true) m s R := by
  obtain ⟨N, m1, s1, ⟨N', m', s', hq, hn'⟩, hn1⟩ := h
  refine ⟨max N N' + 1, .normal, m', s', hq, fun n2 k hn2 hk t ht => ?_⟩
  obtain ⟨t1, es1, e1, ht1, he1⟩ := hn1 n2 (by omega) t ht
  obtain ⟨t2, es2, e2, ht2, he2⟩ := hn' n2 (by omega) t1 ht1
  obtain ⟨e3, hlen⟩ := evLog_app _ A B _ _ _ _ _ _ _ _ e1 e2
  obtain ⟨k, rfl⟩ : ∃ j, k = j + 1 := ⟨k - 1, by omega⟩
  refine ⟨t2, ?_, ht2⟩
  have hsz : (es1 ++ es2).length = ops.size ∨ True := .inr trivial
  have hlog : logOk (Region.before ops) (es1 ++ es2) = true := by
    unfold logOk
    rw [List.all_eq_true]
    intro i _
    cases hi : (es1 ++ es2)[i]? with
    | none => rfl
    | some x =>
      by_cases hin : i < es1.length
      · rw [List.getElem?_append_left hin] at hi
        obtain ⟨h1, h2, h3⟩ := he1 x (List.mem_of_getElem? hi)
        simp only [h1, Bool.and_true]
        cases hrd : x.rd with
        | none => rfl
        | some g =>
          simp only
          rw [List.all_eq_true]
          intro e _
          cases he : (es1 ++ es2)[e]? with
          | none => simp
          | some y =>
            by_cases hen : e < es1.length
            · rw [List.getElem?_append_left hen] at he
              obtain ⟨-, -, k3⟩ := he1 y (List.mem_of_getElem? he)
              have : y.wr.contains g = false := by
                cases hc : y.wr.contains g with
                | false => rfl
                | true => exact absurd (h2 g hrd) (k3 g (by simpa using hc))
              simp only [this, Bool.not_false, Bool.or_true]
            · have ha : aheadB (Region.before ops) i e = true := by
                have hes : e < ops.size := by
                  have h5 := (List.getElem?_eq_some_iff.1 he).1
                  have h6 := evLog_app _ B [] _ t2 t2 _ s' s' _ [] e2 (by simp only [evLog])
                  have h7 : ops.size = A.length + B.length := by rw [← Array.length_toList, hAB, List.length_append]
                  rw [List.length_append, h6.2] at h5
                  omega
                have h5 := List.all_eq_true.1 hb e (List.mem_range.2 hes)
                simp only [Bool.or_eq_true, decide_eq_true_eq] at h5
                rcases h5 with h5 | h5
                · omega
                · exact List.all_eq_true.1 h5 i (List.mem_range.2 (by omega))
              simp only [ha, Bool.or_true, Bool.true_or]
      · rw [List.getElem?_append_right (by omega)] at hi
        obtain ⟨h1, h2, -⟩ := he2 x (List.mem_of_getElem? hi)
        simp only [h1, Bool.and_true]
        cases hrd : x.rd with
        | none => rfl
        | some g => exact (h2 g hrd).elim
  have : evDraw T (evCallK P T K n2) false [] ops t s = some (t2, s') := by
    unfold evDraw
    rw [hoist_none ops.toList [] s hl]
    rw [hAB] at *
    simp only [e3, hlog, if_true]
  simp only [evCode, hd, if_true, this]
theorem wl_val (hr : ∀ t, readsA t op = none) (hg : guardY ops m g = some true) (hd : Nat.ble (d + 1) nt = true) (h : ∀ t, Has t nt m → evOp T op t s.bare = some (.val v, s.bare)) (k : WD P T K nt ops rest ((d, v) :: m) s D Q) :
    WD P T K nt ops (⟨some d, op, ty, pos, af, g⟩ :: rest) m s D Q := wd_cons (fun t _ g hg => by rw [hr t] at hg; cases hg) (w1_val hg hd h ⟨fun _ h => (by cases h), k⟩)
/-- A variable written in the last operations. -/
theorem wl_store {tt : TypeId} {a x : Operand} {i : TI} {c o : Nat} {u : AV} {old : List AV} (hok : s.Ok) (hg : guardY ops m g = some true) (ha : evY m a = some (.ptr c 0 o)) (hx : evY m x = some u) (hT : T tt = some i) (hl : u.cells.length = i.size)
    (hz : u.cells.all AV.leaf = true) (hp : Pt s.h (.ptr c 0 0) old) (ho : o + u.cells.length ≤ old.length)
    (k : ∀ s', Pt s'.h (.ptr c 0 0) (over old o u.cells) → Keep [c] s s' → s'.ctr = s.ctr → WD P T K nt ops rest m s' (fun _ => False) Q) : WD P T K nt ops (⟨none, .store tt a x, ty, pos, af, g⟩ :: rest) m s (fun _ => False) Q := by
  have hokb : s.bare.Ok := hok
  have hpb : rdH s.bare.h c 0 0 old.length = some old := hp
  obtain ⟨s', e1, e2, e3, e4⟩ := write_over hokb hpb (k := o) (c := u.cells) ho hz
  rw [Nat.zero_add] at e1
  refine wd_cons (fun t _ g hg => by cases hg) (w1_skip (s' := s') hg rfl (fun t ht => ?_) ⟨fun g hg ho => ho.elim, k (s'.join s) ?_ e3.joined e4⟩)
  · have hnl : ¬ (u.cells.length ≠ i.size) := fun h => h hl
    simp only [evOp, hT, evY_ok ht ha, evY_ok ht hx, if_neg hnl, e1]
  · show rdH s'.h c 0 0 (over old o u.cells).length = some (over old o u.cells)
    rw [over_len (by omega), e2]
end
end Go.Ab
/- Rules of the chunk list that tell that the counter grows. -/
namespace Go.Ab
open Go.Proofs
section
variable {s0 s s' : St} {L : List Chunk} {c c' d : Chunk} {i j : Nat} {Y : List Nat}
variable {P : Program} {T : Tab} {K : FuncId → Option Bool} {nt : Nat} {ops : Array Oper} {rest : List Oper} {m : Sy} {s s0 : St} {Q : Sy → St → Prop} {d ty : Nat} {pos : String} {af : Array Edge} {g : Option (Nat × Bool)} {L : List Chunk}
variable {P : Program} {T : Tab} {K : FuncId → Option Bool} {nt : Nat} {ops : Array Oper} {rest : List Oper} {m : Sy} {s s0 : St} {Q : Sy → St → Prop} {d ty : Nat} {pos : String} {af : Array Edge} {g : Option (Nat × Bool)} {L : List Chunk} {α : Type}
theorem ws_storeC {tt : TypeId} {a x : Operand} {i : TI} {u : AV} {c o : Nat} {cs : List AV} (n : Nat) (hS : SH s0 L s) (hn : L[n]? = some (ptC (.ptr c 0 0) cs)) (hg : guardY ops m g = some true) (ha : evY m a = some (.ptr c 0 o)) (hx : evY m x = some u) (hT : T tt = some i) (hl : u.cells.length = i.size)
    (hz : u.cells.all AV.leaf = true) (hlo : o + u.cells.length ≤ cs.length)
    (k : ∀ s', s'.ctr = s.ctr → SH s0 (L.set n (ptC (.ptr c 0 0) (over cs o u.cells))) s' → W P T K nt ops rest m s' Q) : W P T K nt ops (⟨none, .store tt a x, ty, pos, af, g⟩ :: rest) m s Q := by
  refine w_store_fld (o := o) hg (p := .ptr c 0 0) (by rw [ha]; simp only [fldA, Nat.zero_add]) hx hT hl hz hS.ok (hS.pt n hn) (by simp [AV.gs]) hlo fun s' hp hk hc => k s' hc (hS.upd n hn hk (fun g hg => hg) _ hp fun g hg => .inl hg)
theorem ws_storeLC {tt : TypeId} {a x : Operand} {i : TI} {u : AV} {c o : Nat} {cs : List AV} (n : Nat) (hS : SH s0 L s) (hn : L[n]? = some (ptC (.ptr c 0 0) cs)) (hg : guardY ops m g = some true) (ha : evY m a = some (.ptr c 0 o)) (hx : evY m x = some u) (hT : T tt = some i) (h1 : i.size = 1)
    (hu : u.leaf = true) (hlo : o < cs.length)
    (k : ∀ s', s'.ctr = s.ctr → SH s0 (L.set n (ptC (.ptr c 0 0) (cs.set o u))) s' → W P T K nt ops rest m s' Q) : W P T K nt ops (⟨none, .store tt a x, ty, pos, af, g⟩ :: rest) m s Q := by
  have hc : u.cells = [u] := AV.cells_leaf hu
  refine ws_storeC n hS hn hg ha hx hT (by rw [hc, h1]; rfl) (by rw [hc]; simp [hu]) (by rw [hc]; exact hlo) fun s' hq h => k s' hq ?_
  have : over cs o u.cells = cs.set o u := by
    rw [hc]; unfold over
    rw [List.set_eq_take_append_cons_drop, if_pos hlo]
    simp
  rwa [this] at h
theorem ws_app_bldC {R : RP α} {hG : Good R} {F : Nat → Prop} {sz : Nat} {f b : AV} {xs : List α} {z : α} {c : List AV} {dc : Chunk} {tt e : TypeId} {x y : Operand} {args : Array Operand} {tys : Array TypeId} {i ie : TI} (n j : Nat) (hnj : n ≠ j) (hS : SH s0 L s) (hn : L[n]? = some (bldC R hG F sz f xs)) (hj : L[j]? = some dc)
    (hg : guardY ops m g = some true) (hd : Nat.ble (d + 1) nt = true) (h1 : args.toList = [x, y]) (h2 : tys.toList = [tt, tt]) (hx : evY m x = some f) (hy : evY m y = some b) (hT : T tt = some i) (hs : i.sh = .slice e) (he : T e = some ie) (hsz : ie.size = sz) (h0 : sz ≠ 0) (hb : Row s.h sz b [c]) (hc : R s.h dc.F z c)
    (hb1 : (xs.length + 1) * ie.bytes ≤ maxBytes) (hb2 : xs.length + 1 ≤ maxBytes)
    (k : ∀ v s' F', s.ctr ≤ s'.ctr → SH s0 ((L.set j emC).set n (bldC R hG F' sz v (xs ++ [z]))) s' → W P T K nt ops rest ((d, v) :: m) s' Q) :
    W P T K nt ops (⟨some d, .call ⟨.builtin .append, args, tys⟩, ty, pos, af, g⟩ :: rest) m s Q := by
  subst hsz
  obtain ⟨css, hr, hnl, hgF, hl, hX⟩ := hS.bld n hn
  refine w_append hg hd h1 h2 hx hy hT hs he h0 hS.ok hr hnl hb (by rw [hl]; exact hb1) (by rw [hl]; exact hb2) ?_
  intro v s' hv hk hle hvg hvn hne
  have hdis := hS.dis n j _ _ hnj hn hj
  have hbn := hS.bd n hn
  have hbj := hS.bd j hj
  have hvl := hv.lt hk.ok
  let F' : Nat → Prop := fun g => F g ∨ dc.F g ∨ (s.ctr ≤ g ∧ g < s'.ctr)
  have hvF : ∀ g ∈ v.gs, F' g := fun g hg => by
    rcases hvg with h | h
    · exact .inl (hgF g (by rwa [h] at hg))
    · refine .inr (.inr ⟨?_, hvl g hg⟩)
      rw [h] at hg; rw [List.mem_singleton.1 hg]; exact Nat.le_refl _
  have hnv : ∀ g, g < s.ctr → g ∉ f.gs → g ∉ v.gs := fun g hg hf hv' => by
    rcases hvg with h | h
    · exact hf (by rwa [h] at hv')
    · rw [h] at hv'; rw [List.mem_singleton.1 hv'] at hg; omega
  have hP : (bldC R hG F' ie.size v (xs ++ [z])).P s'.h := by
    refine ⟨css ++ [c], hv, hvn, hvF, by simp [hl], fun i x c' h1' h2' => ?_⟩
    by_cases hi : i < xs.length
    · rw [List.getElem?_append_left hi] at h1'
      rw [List.getElem?_append_left (by omega)] at h2'
      exact hG.mono (hG.keep (hX i x c' h1' h2') hk fun g hg hF => hF.2 hg) fun g hF => ⟨.inl hF.1, hnv g (hbn g hF.1).2 hF.2⟩
    · have hlt := (List.getElem?_eq_some_iff.1 h1').1
      rw [List.length_append, List.length_singleton] at hlt
      have e : i = xs.length := by omega
      subst e
      rw [List.getElem?_append_right (Nat.le_refl _)] at h1'
      rw [List.getElem?_append_right (by omega)] at h2'
      simp at h1'
      rw [hl] at h2'
      simp at h2'
      subst h1' h2'
      exact hG.mono (hG.keep hc hk fun g hg hF => hdis g (hgF g hg) hF) fun g hF => ⟨.inr (.inl hF), hnv g (hbj g hF).2 fun hf => hdis g (hgF g hf) hF⟩
  have hm := hS.mrg n j hnj hn hj (anyC fun g => F g ∨ dc.F g) trivial fun g hg => hg
  have hg' : ((L.set j emC).set n (anyC fun g => F g ∨ dc.F g))[n]? = some (anyC fun g => F g ∨ dc.F g) := by
    rw [List.getElem?_set_self]
    rw [List.length_set]
    exact (List.getElem?_eq_some_iff.1 hn).1
  have := hm.upd n hg' hk (fun g hg => .inl (hgF g hg)) (bldC R hG F' ie.size v (xs ++ [z])) hP fun g hg => by
    rcases hg with h | h | h
    · exact .inl (.inl h)
    · exact .inl (.inr h)
    · exact .inr h
  rw [List.set_set] at this
  exact k v s' F' hk.ctr this
end
end Go.Ab
/- trim.Trim. -/
namespace Go.Ab
open Go.Proofs
theorem wc_drawN {P : Program} {T : Tab} {K : FuncId → Option Bool} {nt : Nat} {ops : Array Oper} {m : Sy} {s : St} {id : Nat} {R : Ex → Sy → St → Prop} (n : Nat) (D : Nat → Prop) (hn : (ops.toList.take n).length = n) (hd : drawOk false ops = true) (hl : noEarly ops.toList = true) (hb : lateB ops n = true)
    (h : WD P T K nt ops (ops.toList.take n) m s D fun m1 s1 => WD P T K nt ops (ops.toList.drop n) m1 s1 (fun _ => False) (R .normal)) : WC P T K nt (.region id ops true) m s R :=
  wc_draw2 _ _ D (List.take_append_drop ..).symm hn hd hl hb h
theorem build55t {m : Sy} {a b c : AV} {x y w : Operand} (ha : a.leaf = true) (hb : b.leaf = true) (hc : c.leaf = true) (hx : evY m x = some a := by rfl) (hy : evY m y = some b := by rfl) (hw : evY m w = some c := by rfl) :
    pureY Tt m (.build 55 #[(0, x), (1, y), (2, w)]) = some (.agg [a, b, c, .nils]) := by
  simp only [pureY]
  rw [show Tt 55 = some ⟨.struct [(0, 1, false), (1, 1, false), (2, 1, false), (3, 1, false)], 4, 96, [.nils, .nils, .nils, .nils], false⟩ from rfl]
  simp only [evPartsY, hx, hy, hw, fillA, AV.cells_leaf ha, AV.cells_leaf hb, AV.cells_leaf hc]
  rfl
theorem FuncT.up {h : Tr Grp} {F F' : Nat → Prop} {q : FuncL × Nat × Nat} {c : List AV} (k : FuncT h F q c) (hF : ∀ g, q.2.1 ≤ g → g < q.2.2 → F g → F' g) : FuncT h F' q c := by
  obtain ⟨vp, vr, vc, e, h1, h2, h3, f1, f2, f3, r⟩ := k
  exact ⟨vp, vr, vc, e, h1, h2, h3, fun g hg => ⟨(f1 g hg).1, hF g (f1 g hg).1.1 (f1 g hg).1.2 (f1 g hg).2⟩, fun g hg => ⟨(f2 g hg).1, hF g (f2 g hg).1.1 (f2 g hg).1.2 (f2 g hg).2⟩, fun g hg => ⟨(f3 g hg).1, hF g (f3 g hg).1.1 (f3 g hg).1.2 (f3 g hg).2⟩, r⟩
set_option maxRecDepth 10000 in
set_option maxHeartbeats 8000000 in
theorem trim_ok {s : St} {ca : List AV} {mm : ModL} (hok : s.Ok) (hmm : mm.small) (hva' : ModLR s.h mm ca) :
    CallS Try.prog Tt Kt 42 [.agg ca] s (fun r s' => Keep [] s s' ∧ ∃ M : MemM, r = .tup [.agg M.cells, .int .i64 (trimE mm)] ∧ ModO s'.h (trimM mm) M ∧ ∀ v ∈ M.all, ∀ g ∈ v.gs, s.ctr ≤ g) := by
  have hva := hva'.to
  have hza := hva.leaf.2
  obtain ⟨vga, vaa, vha, vfa, rfl, lga, laa, lha, hfa⟩ := hva'
  have hga := lga.row
  have nghga := lga.ng
  have haa := laa.row
  have nghaa := laa.ng
  have hha := lha.row
  have nghha := lha.ng
  have hfa := hfa.row (R' := FuncLR) fun _ _ h => h
  obtain ⟨cssf, hrf, hlf, hFf⟩ := id hfa
  have hsf : vfa.slen = some mm.funcs.length := by rw [hrf.slen, hlf]
  obtain ⟨hm1, hm2, hm3, hm4, hsm⟩ := id hmm
  refine call_of (fn := Try.f42) (nt := 61) Try.func42 rfl rfl rfl ?_
  repeat refine wc_seq ?_
  have hS := SH.start hok
  have hK := hS.K
  refine wc_region ?_
  refine ws_box hS rfl rfl rfl hza ?_
  rintro p0 z hS hk
  have hS : SH _ [_] z := hS
  have hK := hS.K
  refine ws_alloc hS rfl rfl rfl rfl ?_
  rintro p1 z hS hk
  have hS : SH _ [_, _] z := hS
  have hK := hS.K
  refine w_val rfl rfl (op_pure rfl) ?_
  refine w_nil ?_
  refine then_n ?_
  repeat refine wc_seq ?_
  refine wc_region ?_
  refine w_val rfl rfl (op_loadC 0 hS rfl rfl rfl (Nat.le_of_ble_eq_true rfl) rfl) ?_
  refine w_call rfl rfl (op_call rfl rfl rfl rfl) (check_ok hK.ok hmm (ModR.keep0 hva hK)) ?_
  rintro _ z ⟨hk, rfl⟩
  have hS := hS.mov hk
  have hK := hS.K
  refine w_val rfl rfl (op_pure rfl) ?_
  refine w_val rfl rfl (op_pure rfl) ?_
  refine w_nil ?_
  refine then_n ?_
  repeat refine wc_seq ?_
  refine wc_condT rfl (fun h10 => ?_) (fun h10 => ?_)
  · have hok0 : okM mm = false := by rw [Bool.not_eq_true'] at h10; exact h10
    repeat refine wc_seq ?_
    refine wc_region ?_
    refine w_val rfl rfl (op_pure rfl) ?_
    refine ws_store 1 hS rfl rfl rfl rfl rfl rfl (by rfl) (Nat.le_of_ble_eq_true rfl) ?_
    rintro z hS
    have hS : SH _ [_, _] z := hS
    have hK := hS.K
    refine w_val rfl rfl (op_pure rfl) ?_
    refine w_nil ?_
    refine then_n ?_
    refine wc_ret ?_
    repeat first | refine then_r ?_ | refine out_r ?_ | refine round_r ?_ | refine cut_r ?_ | refine sc_r ?_
    have hE : trimE mm = 1 := trimE_err hok0
    exact ⟨_, res_cell2 rfl rfl rfl (hS.pt 1 rfl) rfl, hK, ⟨.nils, .nils, .nils, .nils, []⟩, congrArg (fun e => AV.tup [AV.agg [.nils, .nils, .nils, .nils], .int .i64 e]) hE.symm, trimO_err (by rw [hE]; decide), fun v hv g hg => by simp [MemM.all, MemM.labs, MemM.cods] at hv; subst hv; cases hg⟩
  have hok0 : okM mm = true := by rw [Bool.not_eq_false'] at h10; exact h10
  have hE : trimE mm = 0 := trimE_ok hok0
  clear h10
  refine wc_skip ?_
  refine then_n ?_
  repeat refine wc_seq ?_
  obtain ⟨p2, hp2⟩ : ∃ p, p = z.ctr := ⟨_, rfl⟩
  have hkN := (newG_keep hK.ok ⟨[⟨[.nils, .nils, .nils, .nils], 0, none⟩]⟩).1
  have hpN : Pt (z.newG ⟨[⟨[.nils, .nils, .nils, .nils], 0, none⟩]⟩).h (.ptr p2 0 0) [.nils, .nils, .nils, .nils] := by rw [hp2]; exact rd_new hK.ok
  have hS := hS.add hkN (ptC (.ptr p2 0 0) [.nils, .nils, .nils, .nils]) hpN (fun g hg => by rw [List.mem_singleton.1 hg, hp2]; exact ⟨Nat.le_refl _, Nat.lt_succ_self _⟩)
  obtain ⟨zN, hzN⟩ : ∃ y, y = z.newG ⟨[⟨[.nils, .nils, .nils, .nils], 0, none⟩]⟩ := ⟨_, rfl⟩
  refine wc_early (s0 := zN) (D := Old zN [p2]) (A := [(13, p2)]) (hs := [none, none, none, none, none, none, none, none, none, none, none, none, none, some (p2, [.nils, .nils, .nils, .nils]), none]) (by kernel_rfl) (by rw [hzN, hp2]; rfl) ?_
  rw [← hzN] at hS
  have hS : SH _ [_, _, _] zN := hS
  have hpl : p2 < zN.ctr := by rw [hzN, hp2]; exact Nat.lt_succ_self _
  clear hkN hpN hzN hp2
  have hK := hS.K
  have hR := Keep.refl hK.ok
  have hS0 := hS
  obtain ⟨lo, hlo⟩ : ∃ a, a = zN.ctr := ⟨_, rfl⟩
  have hx0 : ∀ g ∈ [p0], g ∉ [p2] := fun g hg h => hS0.dis 0 2 _ _ (by decide) rfl rfl g hg h
  refine we_val (fun _ => rfl) rfl rfl (op_fldP rfl rfl rfl rfl (by decide)) ?_
  refine we_load hR rfl rfl ((hS0.pt 0 rfl).at (Nat.le_of_ble_eq_true rfl)) rfl hx0 rfl rfl ?_
  refine we_call hR (fun p hp => by rw [List.mem_singleton.1 hp]; exact hpl) rfl rfl (fun _ => rfl) (op_call rfl rfl rfl rfl) (cloneLabels_ok hR.ok (by rw [List.length_map]; omega) (Row.bare (hga.keep0 hK)) nghga) (fun _ _ h => h.1) ?_
  rintro rg sC ⟨hkC, hrg, hbg, hneg⟩ hR2
  have hk := hkC.joined
  have hrg : Row (sC.join zN).h 1 rg (mm.globals.map lC) := hrg
  have hng : rg.gs = [] → rg = .nils := fun e => (hneg e).elim
  have hlog : ∀ g ∈ rg.gs, lo ≤ g := fun g hg => Nat.le_trans (by rw [hlo]; exact hR.ctr) (hbg g hg)
  have hR := hR.two hR2
  have hS := hS.add hk (rowC rg 1 (mm.globals.map lC)) ⟨hrg, hng⟩ (fun g hg => ⟨hbg g hg, hrg.lt hk.ok g hg⟩)
  have hK := hS.K
  clear hbg hneg hkC hrg
  generalize sC.join zN = z at *
  have hS : SH _ [_, _, _, _] z := hS
  refine we_call hR (fun p hp => by rw [List.mem_singleton.1 hp]; exact hpl) rfl rfl (fun _ => rfl) (op_call rfl rfl rfl rfl) (clipLabels_ok (Row.bare (hS.row 3 rfl)) hng) (fun _ _ h => by rw [h.1]; exact Keep.refl hR.ok) ?_
  rintro _ sC ⟨e1, rfl⟩ hR2
  have hk : Keep [] z (sC.join z) := by rw [e1]; exact (Keep.refl (s := z.bare) hR.ok).joined
  clear e1
  have hR := hR.two hR2
  have hS := hS.mov hk
  have hK := hS.K
  generalize sC.join z = z at *
  refine we_val (fun _ => rfl) rfl rfl (op_fldP rfl rfl rfl rfl (by decide)) ?_
  refine we_load hR rfl rfl ((hS0.pt 0 rfl).at (Nat.le_of_ble_eq_true rfl)) rfl hx0 rfl rfl ?_
  refine we_call hR (fun p hp => by rw [List.mem_singleton.1 hp]; exact hpl) rfl rfl (fun _ => rfl) (op_call rfl rfl rfl rfl) (cloneArrays_ok hR.ok (by rw [List.length_map]; omega) (Row.bare (haa.keep0 hK)) nghaa) (fun _ _ h => h.1) ?_
  rintro ra sC ⟨hkC, hra, hba, hnea⟩ hR2
  have hk := hkC.joined
  have hra : Row (sC.join z).h 2 ra (mm.arrays.map aC) := hra
  have hna : ra.gs = [] → ra = .nils := fun e => (hnea e).elim
  have hloa : ∀ g ∈ ra.gs, lo ≤ g := fun g hg => Nat.le_trans (by rw [hlo]; exact hR.ctr) (hba g hg)
  have hR := hR.two hR2
  have hS := hS.add hk (rowC ra 2 (mm.arrays.map aC)) ⟨hra, hna⟩ (fun g hg => ⟨hba g hg, hra.lt hk.ok g hg⟩)
  have hK := hS.K
  clear hba hnea hkC hra
  generalize sC.join z = z at *
  have hS : SH _ [_, _, _, _, _] z := hS
  refine we_call hR (fun p hp => by rw [List.mem_singleton.1 hp]; exact hpl) rfl rfl (fun _ => rfl) (op_call rfl rfl rfl rfl) (clipArrays_ok (Row.bare (hS.row 4 rfl)) hna) (fun _ _ h => by rw [h.1]; exact Keep.refl hR.ok) ?_
  rintro _ sC ⟨e1, rfl⟩ hR2
  have hk : Keep [] z (sC.join z) := by rw [e1]; exact (Keep.refl (s := z.bare) hR.ok).joined
  clear e1
  have hR := hR.two hR2
  have hS := hS.mov hk
  have hK := hS.K
  generalize sC.join z = z at *
  refine we_val (fun _ => rfl) rfl rfl (op_fldP rfl rfl rfl rfl (by decide)) ?_
  refine we_load hR rfl rfl ((hS0.pt 0 rfl).at (Nat.le_of_ble_eq_true rfl)) rfl hx0 rfl rfl ?_
  refine we_call hR (fun p hp => by rw [List.mem_singleton.1 hp]; exact hpl) rfl rfl (fun _ => rfl) (op_call rfl rfl rfl rfl) (cloneLabels_ok hR.ok (by rw [List.length_map]; omega) (Row.bare (hha.keep0 hK)) nghha) (fun _ _ h => h.1) ?_
  rintro rh sC ⟨hkC, hrh, hbh, hneh⟩ hR2
  have hk := hkC.joined
  have hrh : Row (sC.join z).h 1 rh (mm.channels.map lC) := hrh
  have hnh : rh.gs = [] → rh = .nils := fun e => (hneh e).elim
  have hloh : ∀ g ∈ rh.gs, lo ≤ g := fun g hg => Nat.le_trans (by rw [hlo]; exact hR.ctr) (hbh g hg)
  have hR := hR.two hR2
  have hS := hS.add hk (rowC rh 1 (mm.channels.map lC)) ⟨hrh, hnh⟩ (fun g hg => ⟨hbh g hg, hrh.lt hk.ok g hg⟩)
  have hK := hS.K
  clear hbh hneh hkC hrh
  generalize sC.join z = z at *
  have hS : SH _ [_, _, _, _, _, _] z := hS
  refine we_call hR (fun p hp => by rw [List.mem_singleton.1 hp]; exact hpl) rfl rfl (fun _ => rfl) (op_call rfl rfl rfl rfl) (clipLabels_ok (Row.bare (hS.row 5 rfl)) hnh) (fun _ _ h => by rw [h.1]; exact Keep.refl hR.ok) ?_
  rintro _ sC ⟨e1, rfl⟩ hR2
  have hk : Keep [] z (sC.join z) := by rw [e1]; exact (Keep.refl (s := z.bare) hR.ok).joined
  clear e1
  have hR := hR.two hR2
  have hS := hS.mov hk
  have hK := hS.K
  generalize sC.join z = z at *
  have hlg := (hS.row 3 rfl).clip.leaf
  have hlaa := (hS.row 4 rfl).clip.leaf
  have hlh := (hS.row 5 rfl).clip.leaf
  refine we_val (fun _ => rfl) rfl rfl (op_pure (build55t hlg hlaa hlh)) ?_
  refine we_alloc rfl (List.mem_cons_self ..) ?_
  refine we_store_all (List.mem_cons_self ..) hK.ok (fun p hp _ => by rw [List.mem_singleton.1 hp]; kernel_rfl) rfl rfl rfl rfl rfl (by rfl) (by simp only [AV.cells, List.all_cons, List.all_nil, hlg, hlaa, hlh]; rfl) (hS.pt 2 rfl) ?_
  intro z3 hp hkB hcB
  have hS := hS.upd 2 rfl hkB (fun g hg => hg) (ptC (.ptr p2 0 0) [clipA rg, clipA ra, clipA rh, .nils]) hp (fun g hg => .inl hg)
  have hS : SH _ [_, _, _, _, _, _] z3 := hS
  have hK := hS.K
  clear hpl hcB hkB hp hx0
  refine we_nil ?_
  refine then_n ?_
  repeat refine wc_seq ?_
  refine wc_region ?_
  refine w_val rfl rfl (op_fldP rfl rfl rfl rfl (by decide)) ?_
  refine w_val rfl rfl (op_loadC 0 hS rfl rfl rfl (Nat.le_of_ble_eq_true rfl) rfl) ?_
  refine w_val rfl rfl (op_len rfl rfl rfl rfl rfl hsf) ?_
  refine w_val rfl rfl (op_pure rfl) ?_
  refine w_nil ?_
  refine then_n ?_
  repeat refine wc_seq ?_
  refine wc_block ?_
  have hS := hS.nilB FuncT good_t 6
  have hS : SH s [ptC (.ptr p1 0 0) [.nils, .nils, .nils, .nils], rowC rg 1 (mm.globals.map lC), rowC ra 2 (mm.arrays.map aC), rowC rh 1 (mm.channels.map lC), ptC (.ptr p2 0 0) [clipA rg, clipA ra, clipA rh, .nils], bldC FuncT good_t (fun _ => False) 6 .nils []] z3 := hS.sel [1, 3, 4, 5, 2, 6] rfl (by decide)
  obtain ⟨a0, ha0⟩ : ∃ a, a = z3.ctr := ⟨_, rfl⟩
  have hga0 : ∀ g ∈ rg.gs, g < a0 := fun g hg => by rw [ha0]; exact (hS.bd 1 rfl g hg).2
  have haa0 : ∀ g ∈ ra.gs, g < a0 := fun g hg => by rw [ha0]; exact (hS.bd 2 rfl g hg).2
  have hha0 : ∀ g ∈ rh.gs, g < a0 := fun g hg => by rw [ha0]; exact (hS.bd 3 rfl g hg).2
  have hsa0 : s.ctr ≤ a0 := by rw [ha0]; exact hK.ctr
  refine wc_loop_at (fun jj m z => ∃ (k : Nat) (F : AV) (FS : Nat → Prop) (qs : List (FuncL × Nat × Nat)) (b : Nat), jj = mm.funcs.length - k ∧ k ≤ mm.funcs.length ∧ m = [(2, .ptr p1 0 0), (4, .ptr p2 0 0), (26, vfa), (27, .int .i64 (mm.funcs.length : Nat)), (28, .int .i64 (k : Nat))] ∧ SH s [ptC (.ptr p1 0 0) [.nils, .nils, .nils, .nils], rowC rg 1 (mm.globals.map lC), rowC ra 2 (mm.arrays.map aC), rowC rh 1 (mm.channels.map lC), ptC (.ptr p2 0 0) [clipA rg, clipA ra, clipA rh, F], bldC FuncT good_t FS 6 F qs] z ∧ qs.map (·.1) = (mm.funcs.take k).map trimF ∧ Apart a0 b qs ∧ a0 ≤ b ∧ b ≤ z.ctr) mm.funcs.length
    [(2, .ptr p1 0 0), (4, .ptr p2 0 0), (26, vfa), (27, .int .i64 (mm.funcs.length : Nat)), (28, .int .i64 ((0 : Nat) : Int))] (Sub.cons rfl (Sub.cons rfl (Sub.cons rfl (Sub.cons rfl (Sub.cons rfl (Sub.nil _)))))) ⟨0, .nils, _, [], a0, by simp, by simp, rfl, hS, by simp, Apart.nil _ _, Nat.le_refl _, by omega⟩ ?_
  clear hS hK
  rintro jj m z ⟨k, F, FS, qs, b, rfl, hk, rfl, hS, hqs, hap, hab, hbz⟩
  have hK := hS.K
  repeat refine wc_seq ?_
  refine wc_region ?_
  refine w_val rfl rfl (op_pure rfl) ?_
  refine w_nil ?_
  refine then_n ?_
  repeat refine wc_seq ?_
  refine wc_condT rfl (fun h29 => ?_) (fun h29 => ?_)
  · simp only [decide_eq_true_eq] at h29
    refine wc_skip ?_
    refine then_n ?_
    repeat refine wc_seq ?_
    refine wc_block ?_
    repeat refine wc_seq ?_
    obtain ⟨x, hx⟩ : ∃ x, mm.funcs[k]? = some x := ⟨_, List.getElem?_eq_getElem (by omega)⟩
    obtain ⟨cx, hcx⟩ : ∃ c, cssf[k]? = some c := ⟨_, List.getElem?_eq_getElem (by omega)⟩
    have hfx := hFf k x cx hx hcx
    have hzx := (FuncLR.to x cx hfx).leaf.2
    have hsx := hsm x (List.mem_of_getElem? hx)
    obtain ⟨vxp, vxr, vxc, rfl, lxp, lxr, lxc⟩ := hfx
    have hxp := lxp.row
    have hxr := lxr.row
    have nghxp := lxp.ng
    have nghxr := lxr.ng
    have hx1 := hsx.1
    have hx2 := hsx.2.1
    have hql : qs.length = k := by have := congrArg List.length hqs; rw [List.length_map, List.length_map, List.length_take] at this; omega
    have hrz := hrf.keep0 hK
    refine wc_region ?_
    refine w_val rfl rfl (op_idx rfl rfl (natA_cast _ _) rfl rfl rfl rfl hrz (by omega)) ?_
    refine w_val rfl rfl (op_load rfl rfl (Row.pt hrz hcx) rfl) ?_
    refine w_alloc rfl rfl rfl rfl hK.ok ?_
    intro z2 hp hka hca
    obtain ⟨p6b, hp6⟩ : ∃ p, p = z.ctr := ⟨_, rfl⟩
    have hb6 : b ≤ p6b := by rw [hp6]; exact hbz
    rw [← hp6] at hp ⊢
    have hS := hS.add hka (ptC (.ptr p6b 0 0) [.int .u64 0, .nils, .nils, .int .i64 0, .int .i64 0, .nils]) hp (fun g hg => by rw [List.mem_singleton.1 hg]; omega)
    clear hp hka hca hp6
    have hS : SH _ [_, _, _, _, _, _, _] z2 := hS
    have hK := hS.K
    refine ws_store 6 hS rfl rfl rfl rfl rfl rfl hzx (Nat.le_of_ble_eq_true rfl) ?_
    rintro z hS
    have hS : SH _ [_, _, _, _, _, _, _] z := hS
    have hK := hS.K
    refine w_nil ?_
    refine then_n ?_
    repeat refine wc_seq ?_
    have hS : SH s [ptC (.ptr p1 0 0) [.nils, .nils, .nils, .nils], rowC rg 1 (mm.globals.map lC), rowC ra 2 (mm.arrays.map aC), rowC rh 1 (mm.channels.map lC), ptC (.ptr p2 0 0) [clipA rg, clipA ra, clipA rh, F], bldC FuncT good_t FS 6 F qs, ptC (.ptr p6b 0 0) [.int .u64 x.level, vxp, vxr, .int .i64 x.locals, .int .i64 x.stack, vxc]] z := hS
    have hK := hS.K
    have hR := Keep.refl hK.ok
    have hS0 := hS
    obtain ⟨lo, hlo⟩ : ∃ a, a = z.ctr := ⟨_, rfl⟩
    have hblo : b ≤ lo := by rw [hlo]; have := (hS.bd 6 rfl p6b (List.mem_singleton.2 rfl)).2; omega
    refine wc_drawN 9 (Old z []) rfl (by kernel_rfl) rfl (by kernel_rfl) ?_
    refine wo_val (fun _ => rfl) rfl rfl (op_fldP rfl rfl rfl rfl (by decide)) ?_
    refine wo_load hR rfl rfl ((hS0.pt 6 rfl).at (Nat.le_of_ble_eq_true rfl)) rfl (fun _ _ h => by cases h) rfl rfl ?_
    refine wo_call hR rfl rfl (fun _ => rfl) (op_call rfl rfl rfl rfl) (cloneLabels_ok hR.ok (by rw [List.length_map]; omega) (Row.bare (hxp.keep0 hK)) nghxp) (fun _ _ h => h.1) ?_
    rintro rp sC ⟨hkC, hrp, hbp, hnep⟩ hR2
    have hk := hkC.joined
    have hrp : Row (sC.join z).h 1 rp (x.params.map lC) := hrp
    have hnp : rp.gs = [] → rp = .nils := fun e => (hnep e).elim
    have hlop : ∀ g ∈ rp.gs, lo ≤ g := fun g hg => Nat.le_trans (by rw [hlo]; exact hR.ctr) (hbp g hg)
    have hR := hR2
    have hS := hS.add hk (rowC rp 1 (x.params.map lC)) ⟨hrp, hnp⟩ (fun g hg => ⟨hbp g hg, hrp.lt hk.ok g hg⟩)
    have hK := hS.K
    clear hbp hnep hkC hrp
    generalize sC.join z = z at *
    have hS : SH _ [_, _, _, _, _, _, _, _] z := hS
    refine wo_call hR rfl rfl (fun _ => rfl) (op_call rfl rfl rfl rfl) (clipLabels_ok (Row.bare (hS.row 7 rfl)) hnp) (fun _ _ h => by rw [h.1]; exact Keep.refl hR.ok) ?_
    rintro _ sC ⟨e1, rfl⟩ hR2
    have hk : Keep [] z (sC.join z) := by rw [e1]; exact (Keep.refl (s := z.bare) hR.ok).joined
    clear e1
    have hR := hR2
    have hS := hS.mov hk
    have hK := hS.K
    generalize sC.join z = z at *
    refine wo_val (fun _ => rfl) rfl rfl (op_fldP rfl rfl rfl rfl (by decide)) ?_
    refine wo_load hR rfl rfl ((hS0.pt 6 rfl).at (Nat.le_of_ble_eq_true rfl)) rfl (fun _ _ h => by cases h) rfl rfl ?_
    refine wo_call hR rfl rfl (fun _ => rfl) (op_call rfl rfl rfl rfl) (cloneLabels_ok hR.ok (by rw [List.length_map]; omega) (Row.bare (hxr.keep0 hK)) nghxr) (fun _ _ h => h.1) ?_
    rintro rr sC ⟨hkC, hrr, hbr, hner⟩ hR2
    have hk := hkC.joined
    have hrr : Row (sC.join z).h 1 rr (x.results.map lC) := hrr
    have hnr : rr.gs = [] → rr = .nils := fun e => (hner e).elim
    have hlor : ∀ g ∈ rr.gs, lo ≤ g := fun g hg => Nat.le_trans (by rw [hlo]; exact hR.ctr) (hbr g hg)
    have hR := hR2
    have hS := hS.add hk (rowC rr 1 (x.results.map lC)) ⟨hrr, hnr⟩ (fun g hg => ⟨hbr g hg, hrr.lt hk.ok g hg⟩)
    have hK := hS.K
    clear hbr hner hkC hrr
    generalize sC.join z = z at *
    have hS : SH _ [_, _, _, _, _, _, _, _, _] z := hS
    refine wo_call hR rfl rfl (fun _ => rfl) (op_call rfl rfl rfl rfl) (clipLabels_ok (Row.bare (hS.row 8 rfl)) hnr) (fun _ _ h => by rw [h.1]; exact Keep.refl hR.ok) ?_
    rintro _ sC ⟨e1, rfl⟩ hR2
    have hk : Keep [] z (sC.join z) := by rw [e1]; exact (Keep.refl (s := z.bare) hR.ok).joined
    clear e1
    have hR := hR2
    have hS := hS.mov hk
    have hK := hS.K
    generalize sC.join z = z at *
    have hlp := (hS.row 7 rfl).clip.leaf
    have hlr := (hS.row 8 rfl).clip.leaf
    refine wo_val (fun _ => rfl) rfl rfl (op_fldP rfl rfl rfl rfl (by decide)) ?_
    refine wd_nil ?_
    refine wl_store hK.ok rfl rfl rfl rfl (by rw [AV.cells_leaf hlp]; rfl) (by rw [AV.cells_leaf hlp]; simp only [List.all_cons, List.all_nil, hlp]; rfl) (hS.pt 6 rfl) (by rw [AV.cells_leaf hlp]; exact (Nat.le_of_ble_eq_true rfl)) ?_
    intro z3 hp hkB hcB
    rw [AV.cells_leaf hlp] at hp
    have hS := hS.upd 6 rfl hkB (fun g hg => hg) (ptC (.ptr p6b 0 0) [.int .u64 x.level, clipA rp, vxr, .int .i64 x.locals, .int .i64 x.stack, vxc]) hp (fun g hg => .inl hg)
    have hS : SH _ [_, _, _, _, _, _, _, _, _] z3 := hS
    have hK := hS.K
    clear hp hkB
    refine wl_val (fun _ => rfl) rfl rfl (op_fldP rfl rfl rfl rfl (by decide)) ?_
    refine wl_store hK.ok rfl rfl rfl rfl (by rw [AV.cells_leaf hlr]; rfl) (by rw [AV.cells_leaf hlr]; simp only [List.all_cons, List.all_nil, hlr]; rfl) (hS.pt 6 rfl) (by rw [AV.cells_leaf hlr]; exact (Nat.le_of_ble_eq_true rfl)) ?_
    intro z4 hp hkB hcB
    rw [AV.cells_leaf hlr] at hp
    have hS := hS.upd 6 rfl hkB (fun g hg => hg) (ptC (.ptr p6b 0 0) [.int .u64 x.level, clipA rp, clipA rr, .int .i64 x.locals, .int .i64 x.stack, vxc]) hp (fun g hg => .inl hg)
    have hS : SH _ [_, _, _, _, _, _, _, _, _] z4 := hS
    have hK := hS.K
    clear hp hkB
    have hloz : lo ≤ z4.ctr := by rw [hlo]; exact Nat.le_trans hR.ctr (by omega)
    clear hR
    refine wd_nil ?_
    refine then_n ?_
    repeat refine wc_seq ?_
    refine wc_region ?_
    refine w_val rfl rfl (op_fldP rfl rfl rfl rfl (by decide)) ?_
    refine w_val rfl rfl (op_loadC 6 hS rfl rfl rfl (Nat.le_of_ble_eq_true rfl) rfl) ?_
    refine w_call rfl rfl (op_call rfl rfl rfl rfl) (trimCode_ok hK.ok (lxc.row.keep0 hK) lxc.ng hsx.2.2) ?_
    rintro _ z1 ⟨hk2, w, o, rfl, hw, ho, hbw, hbo, hdd, hnw, hno⟩
    have hS := hS.add2 hk2 (rowC w 2 ((codeO x.code).map inC)) (rowC o 1 ((oldO x.code).map iC)) ⟨hw, hnw⟩ ⟨ho, hno⟩ (fun g hg => ⟨hbw g hg, hw.lt hk2.ok g hg⟩) (fun g hg => ⟨hbo g hg, ho.lt hk2.ok g hg⟩) (fun g hg hg' => hdd g hg hg')
    have hwl := hw.leaf
    have hlow : ∀ g ∈ w.gs, lo ≤ g := fun g hg => Nat.le_trans hloz (hbw g hg)
    have hloz2 : lo ≤ z1.ctr := Nat.le_trans hloz hk2.ctr
    clear hw ho hbo hdd hbw hk2
    have hS : SH _ [_, _, _, _, _, _, _, _, _, _, _] z1 := hS
    have hK := hS.K
    refine w_val rfl rfl (op_pure rfl) ?_
    refine w_val rfl rfl (op_pure rfl) ?_
    refine w_val rfl rfl (op_pure rfl) ?_
    refine w_val rfl rfl (op_fldP rfl rfl rfl rfl (by decide)) ?_
    refine ws_storeLC 6 hS rfl rfl rfl rfl rfl rfl hwl (Nat.le_of_ble_eq_true rfl) ?_
    rintro z7 hcc7 hS
    have hS : SH _ [_, _, _, _, _, _, _, _, _, _, _] z7 := hS
    have hK := hS.K
    have hloz2 : lo ≤ z7.ctr := by omega
    refine w_nil ?_
    refine then_n ?_
    have hS : SH s [ptC (.ptr p1 0 0) [.nils, .nils, .nils, .nils], rowC rg 1 (mm.globals.map lC), rowC ra 2 (mm.arrays.map aC), rowC rh 1 (mm.channels.map lC), ptC (.ptr p2 0 0) [clipA rg, clipA ra, clipA rh, F], bldC FuncT good_t FS 6 F qs, ptC (.ptr p6b 0 0) [.int .u64 x.level, clipA rp, clipA rr, .int .i64 x.locals, .int .i64 x.stack, w], rowC rp 1 (x.params.map lC), rowC rr 1 (x.results.map lC), rowC w 2 ((codeO x.code).map inC), rowC o 1 ((oldO x.code).map iC)] z7 := hS
    have hrp := (hS.row 7 rfl).clip
    have hrr := (hS.row 8 rfl).clip
    have hzw : ([.int .u64 x.level, clipA rp, clipA rr, .int .i64 x.locals, .int .i64 x.stack, w] : List AV).all AV.leaf = true := by
      simp only [List.all_cons, List.all_nil, hrp.leaf, hrr.leaf, hwl]; rfl
    obtain ⟨hi, hhi⟩ : ∃ a, a = z7.ctr := ⟨_, rfl⟩
    have hb7 : ∀ g ∈ rp.gs, g < hi := fun g hg => by rw [hhi]; exact (hS.bd 7 rfl g hg).2
    have hb8 : ∀ g ∈ rr.gs, g < hi := fun g hg => by rw [hhi]; exact (hS.bd 8 rfl g hg).2
    have hb9 : ∀ g ∈ w.gs, g < hi := fun g hg => by rw [hhi]; exact (hS.bd 9 rfl g hg).2
    have hp6l := (hS.bd 6 rfl p6b (List.mem_singleton.2 rfl)).2
    have hlh : lo ≤ hi := by rw [hhi]; exact hloz2
    have hnl : ∀ {w : AV}, (w.gs = [] → w = .nils) → (clipA w).gs = [] → clipA w = .nils := fun h e => by rw [clipA_gs] at e; rw [h e]; rfl
    have hFT : FuncT z7.h (fun g => g ∈ rp.gs ∨ g ∈ rr.gs ∨ g ∈ w.gs) (trimF x, lo, hi) [.int .u64 x.level, clipA rp, clipA rr, .int .i64 x.locals, .int .i64 x.stack, w] := ⟨clipA rp, clipA rr, w, rfl, hrp, hrr, hS.row 9 rfl,
      fun g hg => by rw [clipA_gs] at hg; exact ⟨⟨hlop g hg, hb7 g hg⟩, .inl hg⟩, fun g hg => by rw [clipA_gs] at hg; exact ⟨⟨hlor g hg, hb8 g hg⟩, .inr (.inl hg)⟩, fun g hg => ⟨⟨hlow g hg, hb9 g hg⟩, .inr (.inr hg)⟩,
      dis_clip2 (fun g hg h => hS.dis 7 8 _ _ (by decide) rfl rfl g hg h), dis_clip (fun g hg h => hS.dis 7 9 _ _ (by decide) rfl rfl g hg h), dis_clip (fun g hg h => hS.dis 8 9 _ _ (by decide) rfl rfl g hg h), hnl hnp, hnl hnr, hS.nls 9 rfl⟩
    have hS := hS.mrg 7 8 (by decide) rfl rfl (anyC fun g => g ∈ rp.gs ∨ g ∈ rr.gs) trivial (fun g h => h)
    have hS := hS.mrg 7 9 (by decide) rfl rfl (gC FuncT good_t (fun g => g ∈ rp.gs ∨ g ∈ rr.gs ∨ g ∈ w.gs) (trimF x, lo, hi) [.int .u64 x.level, clipA rp, clipA rr, .int .i64 x.locals, .int .i64 x.stack, w]) hFT (fun g h => by rcases h with h | h | h; exact .inl (.inl h); exact .inl (.inr h); exact .inr h)
    have hS : SH s [ptC (.ptr p1 0 0) [.nils, .nils, .nils, .nils], rowC rg 1 (mm.globals.map lC), rowC ra 2 (mm.arrays.map aC), rowC rh 1 (mm.channels.map lC), ptC (.ptr p2 0 0) [clipA rg, clipA ra, clipA rh, F], bldC FuncT good_t FS 6 F qs, ptC (.ptr p6b 0 0) [.int .u64 x.level, clipA rp, clipA rr, .int .i64 x.locals, .int .i64 x.stack, w], gC FuncT good_t (fun g => g ∈ rp.gs ∨ g ∈ rr.gs ∨ g ∈ w.gs) (trimF x, lo, hi) [.int .u64 x.level, clipA rp, clipA rr, .int .i64 x.locals, .int .i64 x.stack, w]] z7 := hS.sel [0, 1, 2, 3, 4, 5, 6, 7] rfl (by decide)
    clear hrp hrr hFT hb7 hb8 hb9 hlop hlor hlow
    obtain ⟨zz, hzz⟩ : ∃ y : Nat, y = z7.ctr := ⟨_, rfl⟩
    refine wc_region ?_
    refine w_val rfl rfl (op_fldP rfl rfl rfl rfl (by decide)) ?_
    refine w_val rfl rfl (op_loadC 4 hS rfl rfl rfl (Nat.le_of_ble_eq_true rfl) rfl) ?_
    refine w_val rfl rfl (op_loadC 6 hS rfl rfl rfl (Nat.le_of_ble_eq_true rfl) rfl) ?_
    refine ws_lit1 hS rfl rfl rfl rfl rfl rfl rfl rfl (by decide) (by decide) rfl hzw rfl ?_
    rintro lt52 z hS hk hlt52
    have hK := hS.K
    have hcl52 := hk.ctr
    refine ws_app_bldC (z := (trimF x, lo, hi)) 5 7 (by decide) hS rfl rfl rfl rfl rfl rfl rfl rfl rfl rfl rfl rfl (by decide) hlt52 (hS.get 7 rfl) (by rw [hql]; simp only [maxBytes]; omega) (by rw [hql]; simp only [maxBytes]; omega) ?_
    rintro F2 z5 FS2 hcc5 hS
    have hS : SH _ [_, _, _, _, _, _, _, _] z5 := hS
    have hK := hS.K
    have hF2 := hS.bldLeaf 5 rfl
    refine w_val rfl rfl (op_fldP rfl rfl rfl rfl (by decide)) ?_
    refine ws_storeLC 4 hS rfl rfl rfl rfl rfl rfl hF2 (Nat.le_of_ble_eq_true rfl) ?_
    rintro z6 hcc6 hS
    have hS : SH _ [_, _, _, _, _, _, _, _] z6 := hS
    have hK := hS.K
    refine w_nil ?_
    refine out_n ?_
    refine then_n ?_
    refine wc_region ?_
    refine w_val rfl rfl (op_add rfl rfl (by unfold In64; omega)) ?_
    refine w_val rfl rfl (op_pure rfl) ?_
    refine w_nil ?_
    have hS : SH s [ptC (.ptr p1 0 0) [.nils, .nils, .nils, .nils], rowC rg 1 (mm.globals.map lC), rowC ra 2 (mm.arrays.map aC), rowC rh 1 (mm.channels.map lC), ptC (.ptr p2 0 0) [clipA rg, clipA ra, clipA rh, F2], bldC FuncT good_t FS2 6 F2 (qs ++ [(trimF x, lo, hi)])] z6 := hS.sel [0, 1, 2, 3, 4, 5] rfl (by decide)
    have hqs2 : (qs ++ [(trimF x, lo, hi)]).map (·.1) = (mm.funcs.take (k + 1)).map trimF := by rw [List.map_append, hqs, snoc_map1 hx]; rfl
    have hap2 : Apart a0 hi (qs ++ [(trimF x, lo, hi)]) := hap.snoc hblo (Nat.le_refl _) ⟨by omega, by omega⟩
    exact round_n _ _ (by omega) (Sub.cons rfl (Sub.cons rfl (Sub.cons rfl (Sub.cons rfl (Sub.cons rfl (Sub.nil _)))))) ⟨k + 1, F2, FS2, _, hi, rfl, by omega, rfl, hS, hqs2, hap2, by omega, by omega⟩
  simp only [decide_eq_false_iff_not] at h29
  obtain rfl : k = mm.funcs.length := by omega
  rw [List.take_length] at hqs
  obtain ⟨css, hr, hn, hgF, hl, hx⟩ := hS.bld 5 rfl
  refine wc_exit ?_
  repeat first | refine then_x ?_ | refine round_x ?_ | refine cut_x ?_ | refine out_x' (by decide) ?_
  refine out_x ?_
  refine then_n ?_
  repeat refine wc_seq ?_
  refine wc_region ?_
  refine w_val rfl rfl (op_fldP rfl rfl rfl rfl (by decide)) ?_
  refine w_val rfl rfl (op_loadC 4 hS rfl rfl rfl (Nat.le_of_ble_eq_true rfl) rfl) ?_
  refine w_call rfl rfl (op_call rfl rfl rfl rfl) (clipFuncs_ok hr hn) ?_
  rintro _ _ ⟨rfl, rfl⟩
  have hFl := hr.clip.leaf
  refine w_val rfl rfl (op_fldP rfl rfl rfl rfl (by decide)) ?_
  refine ws_storeL 4 hS rfl rfl rfl rfl rfl rfl (by assumption) (Nat.le_of_ble_eq_true rfl) ?_
  rintro z hS
  have hS : SH _ [_, _, _, _, _, _] z := hS
  have hK := hS.K
  refine w_nil ?_
  refine then_n ?_
  repeat refine wc_seq ?_
  have hz12 : ([clipA rg, clipA ra, clipA rh, clipA F] : List AV).all AV.leaf = true := by simp only [List.all_cons, List.all_nil, (hS.row 1 rfl).clip.leaf, (hS.row 2 rfl).clip.leaf, (hS.row 3 rfl).clip.leaf, hFl]; rfl
  refine wc_region ?_
  refine w_val rfl rfl (op_loadC 4 hS rfl rfl rfl (Nat.le_of_ble_eq_true rfl) rfl) ?_
  refine ws_store 0 hS rfl rfl rfl rfl rfl rfl hz12 (Nat.le_of_ble_eq_true rfl) ?_
  rintro z hS
  have hS : SH _ [_, _, _, _, _, _] z := hS
  have hK := hS.K
  refine w_val rfl rfl (op_pure rfl) ?_
  refine w_nil ?_
  refine then_n ?_
  refine wc_ret ?_
  repeat first | refine then_r ?_ | refine out_r ?_ | refine round_r ?_ | refine cut_r ?_ | refine sc_r ?_
  have hmo : trimM mm = ⟨mm.globals, mm.arrays, mm.channels, mm.funcs.map trimF⟩ := if_pos hE
  obtain ⟨css6, hr6, hn6, hg6, hl6, hx6⟩ := hS.bld 5 rfl
  have hgr := (hS.row 1 rfl).clip
  have har := (hS.row 2 rfl).clip
  have hhr := (hS.row 3 rfl).clip
  have dg : Dis rg F := fun g hg h => hS.dis 1 5 _ _ (by decide) rfl rfl g hg (hg6 g h)
  have da : Dis ra F := fun g hg h => hS.dis 2 5 _ _ (by decide) rfl rfl g hg (hg6 g h)
  have dh : Dis rh F := fun g hg h => hS.dis 3 5 _ _ (by decide) rfl rfl g hg (hg6 g h)
  have dga : Dis rg ra := fun g hg h => hS.dis 1 2 _ _ (by decide) rfl rfl g hg h
  have dgh : Dis rg rh := fun g hg h => hS.dis 1 3 _ _ (by decide) rfl rfl g hg h
  have dah : Dis ra rh := fun g hg h => hS.dis 2 3 _ _ (by decide) rfl rfl g hg h
  have hlo : ∀ {w : AV}, (∀ g ∈ w.gs, g < a0) → ∀ g ∈ (clipA w).gs, g < a0 ∨ b ≤ g := fun h g hg => .inl (h g (by rwa [clipA_gs] at hg))
  have hnl : ∀ {w : AV}, (w.gs = [] → w = .nils) → (clipA w).gs = [] → clipA w = .nils := fun h e => by rw [clipA_gs] at e; rw [h e]; rfl
  obtain ⟨fs, hM, hfs⟩ := modO_of2 (mm := trimM mm) (a := a0) (b := b) (by rw [hmo]; exact hgr) (by rw [hmo]; exact har) (by rw [hmo]; exact hhr) hr6.clip hl6
    (fun i q c k1 k2 => (hx6 i q c k1 k2).up fun g h1 h2 h3 => ⟨Nat.le_trans (hap.lo q (List.mem_of_getElem? k1)).1 h1, Nat.lt_of_lt_of_le h2 (hap.lo q (List.mem_of_getElem? k1)).2, by rw [clipA_gs]; exact h3.2⟩) hap (by rw [hmo]; exact hqs)
    (dis_clip2 dg) (dis_clip2 da) (dis_clip2 dh) (dis_clip2 dga) (dis_clip2 dgh) (dis_clip2 dah) (hlo hga0) (hlo haa0) (hlo hha0)
    (hnl (hS.nls 1 rfl)) (hnl (hS.nls 2 rfl)) (hnl (hS.nls 3 rfl)) (hnl hn6)
  refine ⟨_, res_cell2 rfl rfl rfl (hS.pt 0 rfl) rfl, hK, ⟨clipA rg, clipA ra, clipA rh, clipA F, fs⟩, congrArg (fun e => AV.tup [AV.agg [clipA rg, clipA ra, clipA rh, clipA F], .int .i64 e]) hE.symm, hM, fun v hv g hg => ?_⟩
  have h5 := hS.bd 5 rfl
  have hb9 : ∀ g ∈ rg.gs, s.ctr ≤ g ∧ _ := hS.bd 1 rfl
  have hb10 : ∀ g ∈ ra.gs, s.ctr ≤ g ∧ _ := hS.bd 2 rfl
  have hb11 : ∀ g ∈ rh.gs, s.ctr ≤ g ∧ _ := hS.bd 3 rfl
  simp only [MemM.all, MemM.labs, MemM.cods, List.cons_append, List.mem_cons, List.mem_append, List.mem_flatMap, List.mem_map, List.not_mem_nil, or_false] at hv
  rcases hv with rfl | rfl | rfl | rfl | ⟨q, hq, rfl | rfl⟩ | ⟨q, hq, rfl⟩
  · rw [clipA_gs] at hg; exact (hb10 g hg).1
  · rw [clipA_gs] at hg; exact (h5 g (hg6 g hg)).1
  · rw [clipA_gs] at hg; exact (hb9 g hg).1
  · rw [clipA_gs] at hg; exact (hb11 g hg).1
  · exact Nat.le_trans hsa0 (hfs q hq _ (List.mem_cons_self ..) g hg).1
  · exact Nat.le_trans hsa0 (hfs q hq _ (List.mem_cons_of_mem _ (List.mem_cons_self ..)) g hg).1
  · exact Nat.le_trans hsa0 (hfs q hq _ (List.mem_cons_of_mem _ (List.mem_cons_of_mem _ (List.mem_cons_self ..))) g hg).1
-- unused hook: ownt52
end Go.Ab
