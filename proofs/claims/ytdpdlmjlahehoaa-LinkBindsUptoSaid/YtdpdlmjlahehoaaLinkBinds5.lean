/- 'Rows.LinkBindsUptoSaid': whatever module and two numbers come in (of bulk at most 1048576), the law returns true and they read as they did. -/
import Derived.Test.YtdpdlmjlahehoaaLinkBinds4
import Derived.ChangeArms
import Derived.WideShapes
import Derived.Test.YtdpdlmjlahehoaaRows
import Derived.WalkKit
import Derived.ProofKit
import Derived.OpenShut
import Derived.JoinedCond
import Derived.Below
import Derived.Carry
/- link.Needs. -/
namespace Go.Ab
section
variable {P : Program} {T : Tab} {K : FuncId → Option Bool} {nt : Nat} {ops : Array Oper} {rest : List Oper} {m : Sy} {s s0 : St} {Q : Sy → St → Prop} {d ty : Nat} {pos : String} {af : Array Edge} {g : Option (Nat × Bool)} {L : List Chunk}
theorem ws_mk {tt e : TypeId} {x y : Operand} {i ie : TI} {n sz : Nat} (hS : SH s0 L s) (hg : guardY ops m g = some true) (hd : Nat.ble (d + 1) nt = true) (hT : T tt = some i) (hs : i.sh = .slice e) (he : T e = some ie) (hx : evY m x = some (.int .i64 n)) (hy : evY m y = some (.int .i64 n))
    (hsz : ie.size = sz) (hz : ie.zero.length = ie.size) (h0 : ie.size ≠ 0) (hl : ie.zero.all AV.leaf = true) (hb : n * ie.bytes ≤ maxBytes) (hb' : n ≤ 140737488355328)
    (k : ∀ v s', SH s0 (L ++ [rowC v sz (List.replicate n ie.zero)]) s' → v.gs ≠ [] → Keep [] s s' → W P T K nt ops rest ((d, v) :: m) s' Q) : W P T K nt ops (⟨some d, .makeSlice tt x y, ty, pos, af, g⟩ :: rest) m s Q := by
  subst hsz
  exact w_make hg hd hT hs he hx hy hz h0 hl hb hb' hS.ok fun v s' hv hk hc hvg => k v s' (hS.add hk _ ⟨hv, fun h => by rw [hvg] at h; cases h⟩ (row_newb hk hv hvg hc)) (by rw [hvg]; simp) hk
end
open Go.Proofs
theorem okM_call {m : ModL} {x : FuncL} {y : InstrL} (h : okM m = true) (hx : x ∈ m.funcs) (hy : y ∈ x.code) (ho : y.op = 45) : 0 ≤ y.a ∧ y.a < (m.funcs.length : Int) := by
  have h0 := okM_ins h hx hy
  rw [ins_cal ho] at h0
  unfold rngE at h0
  split at h0
  · cases h0
  · omega
theorem callIn_of {m : ModL} (h : okM m = true) : CallIn m := fun _x hx _y hy ho => okM_call h hx hy ho
theorem cntF_rep (n : Nat) : cntF (List.replicate n false) = n := by unfold cntF; rw [List.countP_replicate]; rfl
theorem rep_bC (n : Nat) : List.replicate n [AV.bool false] = (List.replicate n false).map bC := by simp [bC]
set_option maxRecDepth 10000 in
set_option maxHeartbeats 8000000 in
theorem needs_ok {s : St} {ca : List AV} {mm : ModL} {f : Int} (hok : s.Ok) (hmm : mm.small) (hva : ModR s.h mm ca) :
    CallS Try.prog Tt Kt 36 [.agg ca, .int .i64 f] s (fun r s' => Keep [] s s' ∧ Row s'.h 1 r ((needsL mm f).map iC) ∧ (∀ g ∈ r.gs, s.ctr ≤ g) ∧ (r.gs = [] → r = .nils)) := by
  have hza := hva.leaf.2
  obtain ⟨vga, vaa, vha, vfa, rfl, hvg, hvaa, hvh, cssf, hrf, hlf, hFf⟩ := id hva
  have hsf : vfa.slen = some mm.funcs.length := by rw [hrf.slen, hlf]
  obtain ⟨hm1, hm2, hm3, hm4, hsm⟩ := id hmm
  refine call_of (fn := Try.f36) (nt := 47) Try.func36 rfl rfl rfl ?_
  repeat refine wc_seq ?_
  have hS := SH.start hok
  refine wc_region ?_
  refine ws_box hS rfl rfl rfl hza ?_
  rintro p0 z hS hk
  have hS : SH _ [_] z := hS
  have hK := hS.K
  refine w_val rfl rfl (op_pure rfl) ?_
  refine w_nil ?_
  refine then_n ?_
  repeat refine wc_seq ?_
  refine wc_region ?_
  refine w_val rfl rfl (op_loadC 0 hS rfl rfl rfl (Nat.le_of_ble_eq_true rfl) rfl) ?_
  refine w_call rfl rfl (op_call rfl rfl rfl rfl) (right_ok hK.ok hmm (ModR.keep0 hva hK)) ?_
  rintro _ z ⟨hk, rfl⟩
  have hS := hS.mov hk
  have hK := hS.K
  generalize ra0 : ((checkF mm).1 == 0 && ((checkF mm).2.1 == 0 && ((checkF mm).2.2 == 0 && true))) = ra
  have hra : okM mm = ra := ra0
  refine w_val rfl rfl (op_pure rfl) ?_
  refine w_val rfl rfl (op_pure rfl) ?_
  refine w_split (i := 13) rfl (fun h13 => ?_) (fun h13 => ?_)
  · simp only [Bool.not_eq_true'] at h13
    refine w_off rfl rfl ?_
    refine w_off rfl rfl ?_
    refine w_val rfl rfl (op_pure rfl) ?_
    refine w_val rfl rfl (op_pure rfl) ?_
    refine w_off rfl rfl ?_
    refine w_off rfl rfl ?_
    refine w_off rfl rfl ?_
    refine w_off rfl rfl ?_
    refine w_off rfl rfl ?_
    refine w_val rfl rfl (op_pure rfl) ?_
    refine w_nil ?_
    refine then_n ?_
    repeat refine wc_seq ?_
    refine wc_cond_t rfl ?_
    repeat refine wc_seq ?_
    refine wc_region ?_
    refine w_val rfl rfl (op_pure rfl) ?_
    refine w_nil ?_
    refine then_n ?_
    refine wc_ret ?_
    repeat first | refine then_r ?_ | refine out_r ?_ | refine round_r ?_ | refine cut_r ?_ | refine sc_r ?_
    have hN : needsL mm f = [] := needsL_no (.inl (hra.trans (by assumption)))
    exact ⟨_, rfl, hK, by rw [hN]; exact row_nils _ _, (fun g hg => by cases hg), fun _ => rfl⟩
  simp only [Bool.not_eq_false'] at h13
  refine w_val rfl rfl (op_pure rfl) ?_
  refine w_val rfl rfl (op_pure rfl) ?_
  refine w_val rfl rfl (op_pure rfl) ?_
  refine w_val rfl rfl (op_pure rfl) ?_
  refine w_split (i := 17) rfl (fun h17 => ?_) (fun h17 => ?_)
  · simp only [decide_eq_true_eq] at h17
    refine w_off rfl rfl ?_
    refine w_off rfl rfl ?_
    refine w_off rfl rfl ?_
    refine w_off rfl rfl ?_
    refine w_off rfl rfl ?_
    refine w_val rfl rfl (op_pure rfl) ?_
    refine w_nil ?_
    refine then_n ?_
    repeat refine wc_seq ?_
    refine wc_cond_t rfl ?_
    repeat refine wc_seq ?_
    refine wc_region ?_
    refine w_val rfl rfl (op_pure rfl) ?_
    refine w_nil ?_
    refine then_n ?_
    refine wc_ret ?_
    repeat first | refine then_r ?_ | refine out_r ?_ | refine round_r ?_ | refine cut_r ?_ | refine sc_r ?_
    have hN : needsL mm f = [] := needsL_no (by (right; omega))
    exact ⟨_, rfl, hK, by rw [hN]; exact row_nils _ _, (fun g hg => by cases hg), fun _ => rfl⟩
  simp only [decide_eq_false_iff_not] at h17
  refine w_val rfl rfl (op_pure rfl) ?_
  refine w_val rfl rfl (op_fldP rfl rfl rfl rfl (by decide)) ?_
  refine w_val rfl rfl (op_loadC 0 hS rfl rfl rfl (Nat.le_of_ble_eq_true rfl) rfl) ?_
  refine w_val rfl rfl (op_len rfl rfl rfl rfl rfl hsf) ?_
  refine w_val rfl rfl (op_pure rfl) ?_
  refine w_val rfl rfl (op_pure rfl) ?_
  refine w_nil ?_
  refine then_n ?_
  repeat refine wc_seq ?_
  refine wc_condT rfl (fun h23 => ?_) (fun h23 => ?_)
  · simp only [decide_eq_true_eq, ge_iff_le] at h23
    repeat refine wc_seq ?_
    refine wc_region ?_
    refine w_val rfl rfl (op_pure rfl) ?_
    refine w_nil ?_
    refine then_n ?_
    refine wc_ret ?_
    repeat first | refine then_r ?_ | refine out_r ?_ | refine round_r ?_ | refine cut_r ?_ | refine sc_r ?_
    have hN : needsL mm f = [] := needsL_no (by (right; omega))
    exact ⟨_, rfl, hK, by rw [hN]; exact row_nils _ _, (fun g hg => by cases hg), fun _ => rfl⟩
  simp only [decide_eq_false_iff_not, ge_iff_le] at h23
  refine wc_skip ?_
  refine then_n ?_
  repeat refine wc_seq ?_
  obtain ⟨a, rfl⟩ : ∃ a : Nat, f = a := ⟨f.toNat, by omega⟩
  have hok1 : okM mm = true := hra.trans (by assumption)
  have hci := callIn_of hok1
  refine wc_region ?_
  refine w_val rfl rfl (op_fldP rfl rfl rfl rfl (by decide)) ?_
  refine w_val rfl rfl (op_loadC 0 hS rfl rfl rfl (Nat.le_of_ble_eq_true rfl) rfl) ?_
  refine w_val rfl rfl (op_len rfl rfl rfl rfl rfl hsf) ?_
  refine ws_mk hS rfl rfl rfl rfl rfl rfl rfl rfl rfl (by decide) rfl (by simp only [maxBytes]; omega) (by omega) ?_
  rintro sv z hS hne hk
  have hS : SH s [ptC (.ptr p0 0 0) [vga, vaa, vha, vfa], rowC sv 1 ((List.replicate mm.funcs.length false).map bC)] z := by rw [← rep_bC]; exact hS
  have hK := hS.K
  refine ws_alloc hS rfl rfl rfl rfl ?_
  rintro p2 z hS hk
  have hS : SH _ [_, _, _] z := hS
  have hK := hS.K
  refine ws_storeL 2 hS rfl rfl rfl rfl rfl rfl ((hS.row 1 rfl).leaf) (Nat.le_of_ble_eq_true rfl) ?_
  rintro z hS
  have hS : SH _ [_, _, _] z := hS
  have hK := hS.K
  refine w_nil ?_
  refine then_n ?_
  repeat refine wc_seq ?_
  refine wc_region ?_
  refine ws_alloc hS rfl rfl rfl rfl ?_
  rintro p3 z hS hk
  have hS : SH _ [_, _, _, _] z := hS
  have hK := hS.K
  refine w_nil ?_
  refine then_n ?_
  repeat refine wc_seq ?_
  refine wc_region ?_
  refine w_val rfl rfl (op_pure rfl) ?_
  refine ws_storeL 3 hS rfl rfl rfl rfl rfl rfl (by rfl) (Nat.le_of_ble_eq_true rfl) ?_
  rintro z hS
  have hS : SH _ [_, _, _, _] z := hS
  have hK := hS.K
  refine w_nil ?_
  refine then_n ?_
  repeat refine wc_seq ?_
  refine wc_region ?_
  refine w_val rfl rfl (op_loadC 3 hS rfl rfl rfl (Nat.le_of_ble_eq_true rfl) rfl) ?_
  refine w_val rfl rfl (op_pure rfl) ?_
  refine w_call rfl rfl (op_call rfl rfl rfl rfl) (visit_ok hrf hlf hFf hsm hm4 hci (mm.funcs.length + 1) _ a _ (by rw [List.length_replicate]) (by omega) (by rw [cntF_rep]; omega) (hS.sel [0, 2, 3, 1] rfl (by decide))) ?_
  rintro _ z ⟨rfl, l, hS, hD⟩
  have hM := hD.marks rfl
  have hNl := hM.needs hok1 (by omega)
  have hll := hM.1
  have hK := hS.K
  clear hD
  refine w_nil ?_
  refine then_n ?_
  repeat refine wc_seq ?_
  refine wc_region ?_
  refine w_val rfl rfl (op_pure rfl) ?_
  refine w_nil ?_
  refine then_n ?_
  repeat refine wc_seq ?_
  have hS : SH s [ptC (.ptr p0 0 0) [vga, vaa, vha, vfa], ptC (.ptr p2 0 0) [sv], ptC (.ptr p3 0 0) [.fn 89 [.ptr p2 0 0, .ptr p0 0 0, .ptr p3 0 0]], rowC sv 1 (l.map bC), rowC .nils 1 ((numL l 0).map iC)] z := hS.nil 1
  refine wc_region ?_
  refine w_val rfl rfl (op_loadC 1 hS rfl rfl rfl (Nat.le_of_ble_eq_true rfl) rfl) ?_
  refine w_val rfl rfl (op_len rfl rfl rfl rfl rfl (hS.row 3 rfl).slenF) ?_
  refine w_val rfl rfl (op_pure rfl) ?_
  refine w_nil ?_
  refine then_n ?_
  repeat refine wc_seq ?_
  refine wc_block ?_
  refine wc_loop_at (fun jj m z => ∃ (k : Nat) (o : AV), jj = l.length - k ∧ k ≤ l.length ∧ m = [(7, o), (32, sv), (33, .int .i64 (l.length : Nat)), (34, .int .i64 (k : Nat))] ∧ SH s [ptC (.ptr p0 0 0) [vga, vaa, vha, vfa], ptC (.ptr p2 0 0) [sv], ptC (.ptr p3 0 0) [.fn 89 [.ptr p2 0 0, .ptr p0 0 0, .ptr p3 0 0]], rowC sv 1 (l.map bC), rowC o 1 ((numL l k).map iC)] z) l.length
    [(7, .nils), (32, sv), (33, .int .i64 (l.length : Nat)), (34, .int .i64 ((0 : Nat) : Int))] (Sub.cons rfl (Sub.cons rfl (Sub.cons rfl (Sub.cons rfl (Sub.nil _))))) ⟨0, .nils, by simp, by simp, rfl, hS⟩ ?_
  clear hS hK
  rintro jj m z ⟨k, o, rfl, hk, rfl, hS⟩
  have hK := hS.K
  repeat refine wc_seq ?_
  refine wc_region ?_
  refine w_val rfl rfl (op_pure rfl) ?_
  refine w_nil ?_
  refine then_n ?_
  repeat refine wc_seq ?_
  refine wc_condT rfl (fun h35 => ?_) (fun h35 => ?_)
  · simp only [decide_eq_true_eq] at h35
    refine wc_skip ?_
    refine then_n ?_
    repeat refine wc_seq ?_
    refine wc_block ?_
    repeat refine wc_seq ?_
    obtain ⟨bb, hbb⟩ : ∃ x, l[k]? = some x := ⟨_, List.getElem?_eq_getElem (by omega)⟩
    have hnl := numL_len l k
    refine wc_region ?_
    refine w_val rfl rfl (op_pure rfl) ?_
    refine w_val rfl rfl (op_idxF rfl rfl (natA_cast _ _) rfl rfl rfl rfl (hS.row 3 rfl) (by omega)) ?_
    refine w_val rfl rfl (op_load rfl rfl (Row.mk_pt (hS.row 3 rfl) (by assumption)) rfl) ?_
    refine w_val rfl rfl (op_pure rfl) ?_
    refine w_val rfl rfl (op_pure rfl) ?_
    refine w_nil ?_
    refine then_n ?_
    repeat refine wc_seq ?_
    refine wc_region ?_
    refine w_val rfl rfl (op_pure rfl) ?_
    refine w_nil ?_
    refine then_n ?_
    refine wc_condT rfl (fun h39 => ?_) (fun h39 => ?_)
    · subst h39
      refine wc_region ?_
      refine w_val rfl rfl (op_pure rfl) ?_
      refine w_val rfl rfl (op_pure rfl) ?_
      refine ws_lit1 hS rfl rfl rfl rfl rfl rfl rfl rfl (by decide) (by decide) rfl (by rfl) rfl ?_
      rintro lt42 z hS hk hlt42
      have hK := hS.K
      refine ws_append 4 hS rfl rfl rfl rfl rfl rfl rfl rfl rfl rfl rfl (by decide) (hlt42) (by (simp only [List.length_map, List.length_nil, List.length_cons, maxBytes]; omega)) (by (simp only [List.length_map, List.length_nil, List.length_cons, maxBytes]; omega)) ?_
      rintro at43 z hS
      have hS : SH _ [_, _, _, _, _] z := hS
      have hK := hS.K
      refine w_val rfl rfl (op_pure rfl) ?_
      refine w_nil ?_
      refine out_n ?_
      refine then_n ?_
      refine wc_region ?_
      refine w_val rfl rfl (op_add rfl rfl (by unfold In64; omega)) ?_
      refine w_val rfl rfl (op_pure rfl) ?_
      refine w_nil ?_
      have hS : SH s [ptC (.ptr p0 0 0) [vga, vaa, vha, vfa], ptC (.ptr p2 0 0) [sv], ptC (.ptr p3 0 0) [.fn 89 [.ptr p2 0 0, .ptr p0 0 0, .ptr p3 0 0]], rowC sv 1 (l.map bC), rowC at43 1 ((numL l (k + 1)).map iC)] z := by rw [numL_yes hbb, List.map_append]; exact hS
      exact round_n _ _ (by omega) (Sub.cons rfl (Sub.cons rfl (Sub.cons rfl (Sub.cons rfl (Sub.nil _))))) ⟨k + 1, at43, rfl, by omega, rfl, hS⟩
    subst h39
    refine wc_skip ?_
    refine out_n ?_
    refine then_n ?_
    refine wc_region ?_
    refine w_val rfl rfl (op_add rfl rfl (by unfold In64; omega)) ?_
    refine w_val rfl rfl (op_pure rfl) ?_
    refine w_nil ?_
    have hS : SH s [ptC (.ptr p0 0 0) [vga, vaa, vha, vfa], ptC (.ptr p2 0 0) [sv], ptC (.ptr p3 0 0) [.fn 89 [.ptr p2 0 0, .ptr p0 0 0, .ptr p3 0 0]], rowC sv 1 (l.map bC), rowC o 1 ((numL l (k + 1)).map iC)] z := by rw [numL_no hbb]; exact hS
    exact round_n _ _ (by omega) (Sub.cons rfl (Sub.cons rfl (Sub.cons rfl (Sub.cons rfl (Sub.nil _))))) ⟨k + 1, o, rfl, by omega, rfl, hS⟩
  simp only [decide_eq_false_iff_not] at h35
  obtain rfl : k = l.length := by omega
  refine wc_exit ?_
  repeat first | refine then_x ?_ | refine round_x ?_ | refine cut_x ?_ | refine out_x' (by decide) ?_
  refine out_x ?_
  refine then_n ?_
  repeat refine wc_seq ?_
  refine wc_region ?_
  refine w_val rfl rfl (op_pure rfl) ?_
  refine w_call rfl rfl (op_call rfl rfl rfl rfl) (clipInts_ok (hS.row 4 rfl) (hS.nls 4 rfl)) ?_
  rintro _ _ ⟨rfl, rfl⟩
  refine w_val rfl rfl (op_pure rfl) ?_
  refine w_nil ?_
  refine then_n ?_
  refine wc_ret ?_
  repeat first | refine then_r ?_ | refine out_r ?_ | refine round_r ?_ | refine cut_r ?_ | refine sc_r ?_
  rw [hNl] at hS
  exact ⟨_, rfl, hK, (hS.row 4 rfl).clip, (fun g hg => (hS.bd 4 rfl g (show g ∈ o.gs by rw [← clipA_gs]; exact hg)).1), fun e => by have e' : (clipA o).gs = [] := e; rw [clipA_gs] at e'; show clipA o = _; rw [hS.nls 4 rfl e']; rfl⟩
end Go.Ab
/- Marks that spread by rounds. -/
namespace Go.Ab
open Go.Proofs
/-- All marked ones are reached, and the first one is marked. -/
structure Spr (m : ModL) (f : Nat) (l : List Bool) : Prop where
  len : l.length = m.funcs.length
  here : Tk l f
  sound : ∀ k, Tk l k → Rch m f k
theorem Spr.start {m : ModL} {f : Nat} (hf : f < m.funcs.length) : Spr m f ((List.replicate m.funcs.length false).set f true) := by
  have hl : f < (List.replicate m.funcs.length false).length := by rw [List.length_replicate]; exact hf
  refine ⟨by simp, (Tk_set hl).2 (.inl rfl), fun k hk => ?_⟩
  rcases (Tk_set hl).1 hk with rfl | h
  · exact .here
  · have := List.mem_of_getElem? h
    rw [List.mem_replicate] at this
    exact Bool.noConfusion this.2
/-- In a round: l0 stood when it began; where nothing was found yet, all is as it was, and what was looked at leads to nothing new. -/
structure Rnd (m : ModL) (f : Nat) (l0 l : List Bool) (more : Bool) (k i : Nat) : Prop where
  spr : Spr m f l
  yes : more = true → cntF l < cntF l0
  no : more = false → l = l0 ∧ (∀ (a : Nat) (x : FuncL) (j : Nat) (y : InstrL) (b : Nat), (a < k ∨ a = k ∧ j < i) → Tk l a → m.funcs[a]? = some x → x.code[j]? = some y → y.op = 45 → y.a = (b : Int) → Tk l b)
theorem Rnd.start {m : ModL} {f : Nat} {l : List Bool} (h : Spr m f l) : Rnd m f l l false 0 0 := ⟨h, fun h => (by cases h), fun _ => ⟨rfl, fun a x j y b h => (by omega)⟩⟩
theorem Rnd.skip {m : ModL} {f k i : Nat} {l0 l : List Bool} {more : Bool} {x : FuncL} {y : InstrL} (h : Rnd m f l0 l more k i) (hx : m.funcs[k]? = some x) (hy : x.code[i]? = some y) (ho : y.op = 45 → ∀ b : Nat, y.a = (b : Int) → Tk l b) : Rnd m f l0 l more k (i + 1) := by
  refine ⟨h.spr, h.yes, fun e => ⟨(h.no e).1, fun a x' j y' b hj h1 h2 h3 h4 h5 => ?_⟩⟩
  by_cases hc : a = k ∧ j = i
  · obtain ⟨rfl, rfl⟩ := hc
    rw [hx] at h2; cases h2
    rw [hy] at h3; cases h3
    exact ho h4 b h5
  · exact (h.no e).2 a x' j y' b (by omega) h1 h2 h3 h4 h5
theorem Rnd.mark {m : ModL} {f k i b : Nat} {l0 l : List Bool} {more : Bool} {x : FuncL} {y : InstrL} (h : Rnd m f l0 l more k i) (hx : m.funcs[k]? = some x) (hy : x.code[i]? = some y) (ho : y.op = 45) (hb : y.a = (b : Int)) (hk : Tk l k) (hn : l[b]? = some false) : Rnd m f l0 (l.set b true) true k (i + 1) := by
  have hbl : b < l.length := (List.getElem?_eq_some_iff.1 hn).1
  refine ⟨⟨by rw [List.length_set]; exact h.spr.len, (Tk_set hbl).2 (.inr h.spr.here), fun c hc => ?_⟩, fun _ => ?_, fun e => by cases e⟩
  · rcases (Tk_set hbl).1 hc with rfl | hc
    · exact .step (h.spr.sound k hk) ⟨x, y, hx, List.mem_of_getElem? hy, ho, hb⟩
    · exact h.spr.sound c hc
  · have h1 := cntF_set hn
    cases hm : more with
    | true => have := h.yes hm; omega
    | false => rw [(h.no hm).1] at h1 ⊢; omega
/-- The instructions of k are looked at, or it is not marked. -/
theorem Rnd.next {m : ModL} {f k i : Nat} {l0 l : List Bool} {more : Bool} (h : Rnd m f l0 l more k i) (hi : Tk l k → ∀ x, m.funcs[k]? = some x → x.code.length ≤ i) : Rnd m f l0 l more (k + 1) 0 := by
  refine ⟨h.spr, h.yes, fun e => ⟨(h.no e).1, fun a x j y b hj h1 h2 h3 h4 h5 => ?_⟩⟩
  have hak : a < k ∨ a = k := by omega
  rcases hak with hak | rfl
  · exact (h.no e).2 a x j y b (.inl hak) h1 h2 h3 h4 h5
  · have := hi h1 x h2
    have := (List.getElem?_eq_some_iff.1 h3).1
    exact (h.no e).2 a x j y b (.inr ⟨rfl, by omega⟩) h1 h2 h3 h4 h5
theorem Rnd.marks {m : ModL} {f : Nat} {l0 l : List Bool} (h : Rnd m f l0 l false m.funcs.length 0) : Mk m f l := by
  refine ⟨h.spr.len, fun k => ⟨h.spr.sound k, fun hk => ?_⟩⟩
  induction hk with
  | here => exact h.spr.here
  | step _ e ih =>
    obtain ⟨x, y, h1, h2, h3, h4⟩ := e
    obtain ⟨j, hj⟩ := List.getElem?_of_mem h2
    exact (h.no rfl).2 _ x j y _ (.inl (List.getElem?_eq_some_iff.1 h1).1) ih h1 hj h3 h4
end Go.Ab
/- The document's Needs. -/
namespace Go.Ab
open Go.Proofs
set_option maxRecDepth 10000 in
set_option maxHeartbeats 8000000 in
theorem needs_ref_ok {s : St} {ca : List AV} {mm : ModL} {f : Int} (hok : s.Ok) (hmm : mm.small) (hva : ModR s.h mm ca) :
    CallS Try.prog Tt Kt 37 [.agg ca, .int .i64 f] s (fun r s' => Keep [] s s' ∧ Row s'.h 1 r ((needsL mm f).map iC)) := by
  have hza := hva.leaf.2
  obtain ⟨vga, vaa, vha, vfa, rfl, hvg, hvaa, hvh, cssf, hrf, hlf, hFf⟩ := id hva
  have hsf : vfa.slen = some mm.funcs.length := by rw [hrf.slen, hlf]
  obtain ⟨hm1, hm2, hm3, hm4, hsm⟩ := id hmm
  refine call_of (fn := Try.f37) (nt := 98) Try.func37 rfl rfl rfl ?_
  repeat refine wc_seq ?_
  have hS := SH.start hok
  refine wc_region ?_
  refine ws_box hS rfl rfl rfl hza ?_
  rintro p0 z hS hk
  have hS : SH _ [_] z := hS
  have hK := hS.K
  refine w_val rfl rfl (op_pure rfl) ?_
  refine w_nil ?_
  refine then_n ?_
  repeat refine wc_seq ?_
  refine wc_region ?_
  refine w_val rfl rfl (op_pure rfl) ?_
  refine w_nil ?_
  refine then_n ?_
  repeat refine wc_seq ?_
  refine wc_region ?_
  refine w_val rfl rfl (op_loadC 0 hS rfl rfl rfl (Nat.le_of_ble_eq_true rfl) rfl) ?_
  refine w_call rfl rfl (op_call rfl rfl rfl rfl) (right_ref_ok hK.ok hmm (ModR.keep0 hva hK)) ?_
  rintro _ z ⟨hk, rfl⟩
  have hS := hS.mov hk
  have hK := hS.K
  generalize ra0 : ((checkF mm).1 == 0 && ((checkF mm).2.1 == 0 && ((checkF mm).2.2 == 0 && true))) = ra
  have hra : okM mm = ra := ra0
  refine w_val rfl rfl (op_pure rfl) ?_
  refine w_val rfl rfl (op_pure rfl) ?_
  refine w_split (i := 15) rfl (fun h15 => ?_) (fun h15 => ?_)
  · simp only [Bool.not_eq_true'] at h15
    refine w_off rfl rfl ?_
    refine w_off rfl rfl ?_
    refine w_val rfl rfl (op_pure rfl) ?_
    refine w_val rfl rfl (op_pure rfl) ?_
    refine w_off rfl rfl ?_
    refine w_off rfl rfl ?_
    refine w_off rfl rfl ?_
    refine w_off rfl rfl ?_
    refine w_off rfl rfl ?_
    refine w_val rfl rfl (op_pure rfl) ?_
    refine w_nil ?_
    refine then_n ?_
    repeat refine wc_seq ?_
    refine wc_cond_t rfl ?_
    repeat refine wc_seq ?_
    refine wc_region ?_
    refine w_val rfl rfl (op_pure rfl) ?_
    refine w_val rfl rfl (op_pure rfl) ?_
    refine w_nil ?_
    refine then_n ?_
    refine wc_ret ?_
    repeat first | refine then_r ?_ | refine out_r ?_ | refine round_r ?_ | refine cut_r ?_ | refine sc_r ?_
    have hN : needsL mm f = [] := needsL_no (.inl (hra.trans (by assumption)))
    exact ⟨_, rfl, hK, by rw [hN]; exact row_nils _ _⟩
  simp only [Bool.not_eq_false'] at h15
  refine w_val rfl rfl (op_pure rfl) ?_
  refine w_val rfl rfl (op_pure rfl) ?_
  refine w_val rfl rfl (op_pure rfl) ?_
  refine w_val rfl rfl (op_pure rfl) ?_
  refine w_split (i := 19) rfl (fun h19 => ?_) (fun h19 => ?_)
  · simp only [decide_eq_true_eq] at h19
    refine w_off rfl rfl ?_
    refine w_off rfl rfl ?_
    refine w_off rfl rfl ?_
    refine w_off rfl rfl ?_
    refine w_off rfl rfl ?_
    refine w_val rfl rfl (op_pure rfl) ?_
    refine w_nil ?_
    refine then_n ?_
    repeat refine wc_seq ?_
    refine wc_cond_t rfl ?_
    repeat refine wc_seq ?_
    refine wc_region ?_
    refine w_val rfl rfl (op_pure rfl) ?_
    refine w_val rfl rfl (op_pure rfl) ?_
    refine w_nil ?_
    refine then_n ?_
    refine wc_ret ?_
    repeat first | refine then_r ?_ | refine out_r ?_ | refine round_r ?_ | refine cut_r ?_ | refine sc_r ?_
    have hN : needsL mm f = [] := needsL_no (by (right; omega))
    exact ⟨_, rfl, hK, by rw [hN]; exact row_nils _ _⟩
  simp only [decide_eq_false_iff_not] at h19
  refine w_val rfl rfl (op_pure rfl) ?_
  refine w_val rfl rfl (op_fldP rfl rfl rfl rfl (by decide)) ?_
  refine w_val rfl rfl (op_loadC 0 hS rfl rfl rfl (Nat.le_of_ble_eq_true rfl) rfl) ?_
  refine w_val rfl rfl (op_len rfl rfl rfl rfl rfl hsf) ?_
  refine w_val rfl rfl (op_pure rfl) ?_
  refine w_val rfl rfl (op_pure rfl) ?_
  refine w_nil ?_
  refine then_n ?_
  repeat refine wc_seq ?_
  refine wc_condT rfl (fun h25 => ?_) (fun h25 => ?_)
  · simp only [decide_eq_true_eq, ge_iff_le] at h25
    repeat refine wc_seq ?_
    refine wc_region ?_
    refine w_val rfl rfl (op_pure rfl) ?_
    refine w_val rfl rfl (op_pure rfl) ?_
    refine w_nil ?_
    refine then_n ?_
    refine wc_ret ?_
    repeat first | refine then_r ?_ | refine out_r ?_ | refine round_r ?_ | refine cut_r ?_ | refine sc_r ?_
    have hN : needsL mm f = [] := needsL_no (by (right; omega))
    exact ⟨_, rfl, hK, by rw [hN]; exact row_nils _ _⟩
  simp only [decide_eq_false_iff_not, ge_iff_le] at h25
  refine wc_skip ?_
  refine then_n ?_
  repeat refine wc_seq ?_
  obtain ⟨a, rfl⟩ : ∃ a : Nat, f = a := ⟨f.toNat, by omega⟩
  have hok1 : okM mm = true := hra.trans (by assumption)
  have hci := callIn_of hok1
  have han : a < mm.funcs.length := by omega
  refine wc_region ?_
  refine w_val rfl rfl (op_fldP rfl rfl rfl rfl (by decide)) ?_
  refine w_val rfl rfl (op_loadC 0 hS rfl rfl rfl (Nat.le_of_ble_eq_true rfl) rfl) ?_
  refine w_val rfl rfl (op_len rfl rfl rfl rfl rfl hsf) ?_
  refine ws_mk hS rfl rfl rfl rfl rfl rfl rfl rfl rfl (by decide) rfl (by simp only [maxBytes]; omega) (by omega) ?_
  rintro sv z hS hne hk
  have hS : SH s [ptC (.ptr p0 0 0) [vga, vaa, vha, vfa], rowC sv 1 ((List.replicate mm.funcs.length false).map bC)] z := by rw [← rep_bC]; exact hS
  have hK := hS.K
  refine w_val rfl rfl (op_pure rfl) ?_
  refine w_nil ?_
  refine then_n ?_
  repeat refine wc_seq ?_
  have hrl : (List.replicate mm.funcs.length false).length = mm.funcs.length := List.length_replicate
  refine wc_region ?_
  refine w_val rfl rfl (op_pure rfl) ?_
  refine w_val rfl rfl (op_pure rfl) ?_
  refine w_val rfl rfl (op_idxF rfl rfl (natA_cast _ _) rfl rfl rfl rfl (hS.row 1 rfl) (by omega)) ?_
  refine ws_storeE 1 hS rfl rfl rfl rfl rfl rfl rfl (by rfl) (by (simp; omega)) ?_
  rintro z hS
  have hS : SH _ [_, _] z := hS
  have hK := hS.K
  refine w_nil ?_
  have hS : SH s [ptC (.ptr p0 0 0) [vga, vaa, vha, vfa], rowC sv 1 (((List.replicate mm.funcs.length false).set a true).map bC)] z := by rw [List.map_set]; exact hS
  have hP := Spr.start han
  generalize (List.replicate mm.funcs.length false).set a true = l at hS hP
  clear hrl
  refine then_n ?_
  repeat refine wc_seq ?_
  refine wc_region ?_
  refine w_val rfl rfl (op_pure rfl) ?_
  refine w_nil ?_
  refine then_n ?_
  repeat refine wc_seq ?_
  refine wc_block ?_
  refine wc_loop_at (fun jj m z => ∃ (l : List Bool) (more : Bool), jj = (if more then cntF l + 1 else 0) ∧ m = [(1, .int .i64 (a : Nat)), (2, .ptr p0 0 0), (5, .nils), (6, sv), (7, .bool more)] ∧ SH s [ptC (.ptr p0 0 0) [vga, vaa, vha, vfa], rowC sv 1 (l.map bC)] z ∧ Spr mm a l ∧ (more = false → Mk mm a l)) (cntF l + 1)
    [(1, .int .i64 (a : Nat)), (2, .ptr p0 0 0), (5, .nils), (6, sv), (7, .bool true)] (Sub.cons rfl (Sub.cons rfl (Sub.cons rfl (Sub.cons rfl (Sub.cons rfl (Sub.nil _)))))) ⟨l, true, rfl, rfl, hS, hP, fun h => by cases h⟩ ?_
  clear hS hP hK l
  rintro jj m z ⟨l, more, rfl, rfl, hS, hP, hQ⟩
  have hK := hS.K
  repeat refine wc_seq ?_
  refine wc_region ?_
  refine w_val rfl rfl (op_pure rfl) ?_
  refine w_nil ?_
  refine then_n ?_
  repeat refine wc_seq ?_
  refine wc_condT rfl (fun h34 => ?_) (fun h34 => ?_)
  · subst h34
    have hD := Rnd.start hP
    refine wc_skip ?_
    refine then_n ?_
    refine wc_block ?_
    repeat refine wc_seq ?_
    refine wc_region ?_
    refine w_val rfl rfl (op_pure rfl) ?_
    refine w_nil ?_
    refine then_n ?_
    repeat refine wc_seq ?_
    refine wc_region ?_
    refine w_val rfl rfl (op_pure rfl) ?_
    refine w_nil ?_
    refine then_n ?_
    refine wc_block ?_
    refine wc_loop_at (fun jj m z => ∃ (k : Nat) (mo : Bool) (l1 : List Bool), jj = mm.funcs.length - k ∧ k ≤ mm.funcs.length ∧ m = [(1, .int .i64 (a : Nat)), (2, .ptr p0 0 0), (5, .nils), (6, sv), (7, .bool mo), (8, .int .i64 (k : Nat))] ∧ SH s [ptC (.ptr p0 0 0) [vga, vaa, vha, vfa], rowC sv 1 (l1.map bC)] z ∧ Rnd mm a l l1 mo k 0) mm.funcs.length
      [(1, .int .i64 (a : Nat)), (2, .ptr p0 0 0), (5, .nils), (6, sv), (7, .bool false), (8, .int .i64 ((0 : Nat) : Int))] (Sub.cons rfl (Sub.cons rfl (Sub.cons rfl (Sub.cons rfl (Sub.cons rfl (Sub.cons rfl (Sub.nil _))))))) ⟨0, false, l, by simp, by simp, rfl, hS, hD⟩ ?_
    clear hS hD hK
    rintro jj m z ⟨k, mo, l1, rfl, hk, rfl, hS, hD⟩
    have hK := hS.K
    repeat refine wc_seq ?_
    refine wc_region ?_
    refine w_val rfl rfl (op_pure rfl) ?_
    refine w_val rfl rfl (op_fldP rfl rfl rfl rfl (by decide)) ?_
    refine w_val rfl rfl (op_loadC 0 hS rfl rfl rfl (Nat.le_of_ble_eq_true rfl) rfl) ?_
    refine w_val rfl rfl (op_len rfl rfl rfl rfl rfl hsf) ?_
    refine w_val rfl rfl (op_pure rfl) ?_
    refine w_nil ?_
    refine then_n ?_
    repeat refine wc_seq ?_
    refine wc_condT rfl (fun h39 => ?_) (fun h39 => ?_)
    · simp only [decide_eq_true_eq] at h39
      refine wc_skip ?_
      refine then_n ?_
      repeat refine wc_seq ?_
      refine wc_block ?_
      repeat refine wc_seq ?_
      obtain ⟨x, hx⟩ : ∃ x, mm.funcs[k]? = some x := ⟨_, List.getElem?_eq_getElem (by omega)⟩
      obtain ⟨cx, hcx⟩ : ∃ c, cssf[k]? = some c := ⟨_, List.getElem?_eq_getElem (by omega)⟩
      have hfx := hFf k x cx hx hcx
      obtain ⟨vxp, vxr, vxc, rfl, hxp, hxr, hxc⟩ := hfx
      have hxc3 := (hsm x (List.mem_of_getElem? hx)).2.2
      refine wc_region ?_
      refine w_val rfl rfl (op_pure rfl) ?_
      refine w_nil ?_
      refine then_n ?_
      refine wc_block ?_
      refine wc_loop_at (fun jj m z => ∃ (i : Nat) (mo : Bool) (l1 : List Bool), jj = x.code.length - i ∧ i ≤ x.code.length ∧ m = [(1, .int .i64 (a : Nat)), (2, .ptr p0 0 0), (5, .nils), (6, sv), (7, .bool mo), (8, .int .i64 (k : Nat)), (9, .int .i64 (i : Nat))] ∧ SH s [ptC (.ptr p0 0 0) [vga, vaa, vha, vfa], rowC sv 1 (l1.map bC)] z ∧ Rnd mm a l l1 mo k i) x.code.length
        [(1, .int .i64 (a : Nat)), (2, .ptr p0 0 0), (5, .nils), (6, sv), (7, .bool mo), (8, .int .i64 (k : Nat)), (9, .int .i64 ((0 : Nat) : Int))] (Sub.cons rfl (Sub.cons rfl (Sub.cons rfl (Sub.cons rfl (Sub.cons rfl (Sub.cons rfl (Sub.cons rfl (Sub.nil _)))))))) ⟨0, mo, l1, by simp, by simp, rfl, hS, hD⟩ ?_
      clear hS hD hK
      rintro j2 m2 z ⟨i, mo, l1, rfl, hi, rfl, hS, hD⟩
      have hK := hS.K
      have hl1 := hD.spr.len
      have hrz := hrf.keep0 hK
      obtain ⟨bb, hbb⟩ : ∃ x, l1[k]? = some x := ⟨_, List.getElem?_eq_getElem (by omega)⟩
      repeat refine wc_seq ?_
      refine wc_region ?_
      refine w_val rfl rfl (op_pure rfl) ?_
      refine w_val rfl rfl (op_pure rfl) ?_
      refine w_val rfl rfl (op_idxF rfl rfl (natA_cast _ _) rfl rfl rfl rfl (hS.row 1 rfl) (by omega)) ?_
      refine w_val rfl rfl (op_load rfl rfl (Row.mk_pt (hS.row 1 rfl) (by assumption)) rfl) ?_
      refine w_val rfl rfl (op_pure rfl) ?_
      refine w_split (i := 46) rfl (fun h46 => ?_) (fun h46 => ?_)
      · subst h46
        refine w_val rfl rfl (op_pure rfl) ?_
        refine w_val rfl rfl (op_fldP rfl rfl rfl rfl (by decide)) ?_
        refine w_val rfl rfl (op_loadC 0 hS rfl rfl rfl (Nat.le_of_ble_eq_true rfl) rfl) ?_
        refine w_val rfl rfl (op_pure rfl) ?_
        refine w_val rfl rfl (op_idx rfl rfl (natA_cast _ _) rfl rfl rfl rfl hrz (by omega)) ?_
        refine w_val rfl rfl (op_fld rfl rfl rfl rfl (by decide) (Row.pt hrz hcx) (Nat.le_of_ble_eq_true rfl)) ?_
        refine w_val rfl rfl (op_load rfl rfl ((Row.pt hrz hcx).fld 5 (Nat.le_of_ble_eq_true rfl)) rfl) ?_
        refine w_val rfl rfl (op_len rfl rfl rfl rfl rfl hxc.slenF) ?_
        refine w_val rfl rfl (op_pure rfl) ?_
        refine w_val rfl rfl (op_pure rfl) ?_
        refine w_nil ?_
        refine then_n ?_
        repeat refine wc_seq ?_
        refine wc_condT rfl (fun h56 => ?_) (fun h56 => ?_)
        · simp only [decide_eq_true_eq] at h56
          refine wc_skip ?_
          refine then_n ?_
          repeat refine wc_seq ?_
          refine wc_block ?_
          repeat refine wc_seq ?_
          obtain ⟨y, hy⟩ : ∃ y, x.code[i]? = some y := ⟨_, List.getElem?_eq_getElem (by omega)⟩
          have hcz := hxc.keep0 hK
          refine wc_region ?_
          refine w_val rfl rfl (op_fldP rfl rfl rfl rfl (by decide)) ?_
          refine w_val rfl rfl (op_loadC 0 hS rfl rfl rfl (Nat.le_of_ble_eq_true rfl) rfl) ?_
          refine w_val rfl rfl (op_pure rfl) ?_
          refine w_val rfl rfl (op_idx rfl rfl (natA_cast _ _) rfl rfl rfl rfl hrz (by omega)) ?_
          refine w_val rfl rfl (op_fld rfl rfl rfl rfl (by decide) (Row.pt hrz hcx) (Nat.le_of_ble_eq_true rfl)) ?_
          refine w_val rfl rfl (op_load rfl rfl ((Row.pt hrz hcx).fld 5 (Nat.le_of_ble_eq_true rfl)) rfl) ?_
          refine w_val rfl rfl (op_pure rfl) ?_
          refine w_val rfl rfl (op_idxF rfl rfl (natA_cast _ _) rfl rfl rfl rfl hcz (by omega)) ?_
          refine w_val rfl rfl (op_load (v := .agg (inC y)) rfl rfl (Row.mk_pt hcz hy) rfl) ?_
          refine ws_alloc hS rfl rfl rfl rfl ?_
          rintro p2 z hS hk
          have hS : SH _ [_, _, _] z := hS
          have hK := hS.K
          refine ws_store 2 hS rfl rfl rfl rfl rfl rfl (by rfl) (Nat.le_of_ble_eq_true rfl) ?_
          rintro z hS
          have hS : SH _ [_, _, _] z := hS
          have hK := hS.K
          refine w_nil ?_
          refine then_n ?_
          repeat refine wc_seq ?_
          refine wc_region ?_
          refine w_val rfl rfl (op_fldP rfl rfl rfl rfl (by decide)) ?_
          refine w_val rfl rfl (op_loadC 2 hS rfl rfl rfl (Nat.le_of_ble_eq_true rfl) rfl) ?_
          refine w_val rfl rfl (op_pure rfl) ?_
          refine w_val rfl rfl (op_pure rfl) ?_
          refine w_split (i := 71) rfl (fun h71 => ?_) (fun h71 => ?_)
          · simp only [beq_iff_eq] at h71
            obtain ⟨hy0, hyn⟩ := hci x (List.mem_of_getElem? hx) y (List.mem_of_getElem? hy) h71
            obtain ⟨b, hb⟩ : ∃ b : Nat, y.a = b := ⟨y.a.toNat, by omega⟩
            have hbn : b < mm.funcs.length := by omega
            obtain ⟨yo, ya⟩ := y
            simp only at hb h71
            subst hb
            obtain ⟨b2, hb2⟩ : ∃ x, l1[b]? = some x := ⟨_, List.getElem?_eq_getElem (by omega)⟩
            refine w_val rfl rfl (op_pure rfl) ?_
            refine w_val rfl rfl (op_fldP rfl rfl rfl rfl (by decide)) ?_
            refine w_val rfl rfl (op_loadC 2 hS rfl rfl rfl (Nat.le_of_ble_eq_true rfl) rfl) ?_
            refine w_val rfl rfl (op_idxF rfl rfl (natA_cast _ _) rfl rfl rfl rfl (hS.row 1 rfl) (by omega)) ?_
            refine w_val rfl rfl (op_load rfl rfl (Row.mk_pt (hS.row 1 rfl) (by assumption)) rfl) ?_
            refine w_val rfl rfl (op_pure rfl) ?_
            refine w_val rfl rfl (op_pure rfl) ?_
            refine w_nil ?_
            refine then_n ?_
            refine wc_condT rfl (fun h78 => ?_) (fun h78 => ?_)
            · simp only [Bool.not_eq_true'] at h78
              subst h78
              repeat refine wc_seq ?_
              refine wc_region ?_
              refine w_val rfl rfl (op_pure rfl) ?_
              refine w_val rfl rfl (op_fldP rfl rfl rfl rfl (by decide)) ?_
              refine w_val rfl rfl (op_loadC 2 hS rfl rfl rfl (Nat.le_of_ble_eq_true rfl) rfl) ?_
              refine w_val rfl rfl (op_idxF rfl rfl (natA_cast _ _) rfl rfl rfl rfl (hS.row 1 rfl) (by omega)) ?_
              refine ws_storeE 1 hS rfl rfl rfl rfl rfl rfl rfl (by rfl) (by (simp; omega)) ?_
              rintro z hS
              have hS : SH _ [_, _, _] z := hS
              have hK := hS.K
              refine w_nil ?_
              refine then_n ?_
              refine wc_region ?_
              refine w_val rfl rfl (op_pure rfl) ?_
              refine w_nil ?_
              refine out_n ?_
              refine then_n ?_
              refine wc_region ?_
              refine w_val rfl rfl (op_pure rfl) ?_
              refine w_val rfl rfl (op_add rfl rfl (by unfold In64; omega)) ?_
              refine w_val rfl rfl (op_pure rfl) ?_
              refine w_nil ?_
              have hS : SH s [ptC (.ptr p0 0 0) [vga, vaa, vha, vfa], rowC sv 1 ((l1.set b true).map bC)] z := by rw [List.map_set]; exact hS.sel [0, 1] rfl (by decide)
              exact round_n _ _ (by omega) (Sub.cons rfl (Sub.cons rfl (Sub.cons rfl (Sub.cons rfl (Sub.cons rfl (Sub.cons rfl (Sub.cons rfl (Sub.nil _)))))))) ⟨i + 1, true, _, rfl, by omega, rfl, hS, hD.mark hx hy h71 rfl hbb hb2⟩
            simp only [Bool.not_eq_false'] at h78
            subst h78
            refine wc_skip ?_
            refine out_n ?_
            refine then_n ?_
            refine wc_region ?_
            refine w_val rfl rfl (op_pure rfl) ?_
            refine w_val rfl rfl (op_add rfl rfl (by unfold In64; omega)) ?_
            refine w_val rfl rfl (op_pure rfl) ?_
            refine w_nil ?_
            have hno : ∀ c : Nat, (b : Int) = (c : Int) → Tk l1 c := fun c hc => by
              have : b = c := by omega
              rw [← this]; exact hb2
            exact round_n _ _ (by omega) (Sub.cons rfl (Sub.cons rfl (Sub.cons rfl (Sub.cons rfl (Sub.cons rfl (Sub.cons rfl (Sub.cons rfl (Sub.nil _)))))))) ⟨i + 1, mo, l1, rfl, by omega, rfl, hS.sel [0, 1] rfl (by decide), hD.skip hx hy (fun _ c hc => hno c hc)⟩
          simp only [beq_eq_false_iff_ne, ne_eq] at h71
          refine w_off rfl rfl ?_
          refine w_off rfl rfl ?_
          refine w_off rfl rfl ?_
          refine w_off rfl rfl ?_
          refine w_off rfl rfl ?_
          refine w_off rfl rfl ?_
          refine w_val rfl rfl (op_pure rfl) ?_
          refine w_nil ?_
          refine then_n ?_
          refine wc_cond_f rfl ?_
          refine wc_skip ?_
          refine out_n ?_
          refine then_n ?_
          refine wc_region ?_
          refine w_val rfl rfl (op_pure rfl) ?_
          refine w_val rfl rfl (op_add rfl rfl (by unfold In64; omega)) ?_
          refine w_val rfl rfl (op_pure rfl) ?_
          refine w_nil ?_
          exact round_n _ _ (by omega) (Sub.cons rfl (Sub.cons rfl (Sub.cons rfl (Sub.cons rfl (Sub.cons rfl (Sub.cons rfl (Sub.cons rfl (Sub.nil _)))))))) ⟨i + 1, mo, l1, rfl, by omega, rfl, hS.sel [0, 1] rfl (by decide), hD.skip hx hy (fun h => (h71 h).elim)⟩
        simp only [decide_eq_false_iff_not] at h56
        have hD2 := hD.next (fun _ x1 h1 => by rw [hx] at h1; cases h1; omega)
        refine wc_exit ?_
        repeat first | refine then_x ?_ | refine round_x ?_ | refine cut_x ?_ | refine out_x' (by decide) ?_
        refine out_x ?_
        refine out_n ?_
        refine then_n ?_
        refine wc_region ?_
        refine w_val rfl rfl (op_pure rfl) ?_
        refine w_val rfl rfl (op_add rfl rfl (by unfold In64; omega)) ?_
        refine w_val rfl rfl (op_pure rfl) ?_
        refine w_nil ?_
        exact round_n _ _ (by omega) (Sub.cons rfl (Sub.cons rfl (Sub.cons rfl (Sub.cons rfl (Sub.cons rfl (Sub.cons rfl (Sub.nil _))))))) ⟨k + 1, mo, l1, rfl, by omega, rfl, hS, hD2⟩
      subst h46
      refine w_off rfl rfl ?_
      refine w_off rfl rfl ?_
      refine w_off rfl rfl ?_
      refine w_off rfl rfl ?_
      refine w_off rfl rfl ?_
      refine w_off rfl rfl ?_
      refine w_off rfl rfl ?_
      refine w_off rfl rfl ?_
      refine w_off rfl rfl ?_
      refine w_val rfl rfl (op_pure rfl) ?_
      refine w_nil ?_
      refine then_n ?_
      repeat refine wc_seq ?_
      refine wc_cond_f rfl ?_
      refine wc_exit ?_
      repeat first | refine then_x ?_ | refine round_x ?_ | refine cut_x ?_ | refine out_x' (by decide) ?_
      refine out_x ?_
      refine out_n ?_
      refine then_n ?_
      refine wc_region ?_
      refine w_val rfl rfl (op_pure rfl) ?_
      refine w_val rfl rfl (op_add rfl rfl (by unfold In64; omega)) ?_
      refine w_val rfl rfl (op_pure rfl) ?_
      refine w_nil ?_
      exact round_n _ _ (by omega) (Sub.cons rfl (Sub.cons rfl (Sub.cons rfl (Sub.cons rfl (Sub.cons rfl (Sub.cons rfl (Sub.nil _))))))) ⟨k + 1, mo, l1, rfl, by omega, rfl, hS, hD.next (fun h => (not_Tk hbb h).elim)⟩
    simp only [decide_eq_false_iff_not] at h39
    obtain rfl : k = mm.funcs.length := by omega
    refine wc_exit ?_
    repeat first | refine then_x ?_ | refine round_x ?_ | refine cut_x ?_ | refine out_x' (by decide) ?_
    refine out_x ?_
    refine out_n ?_
    refine round_n _ _ ?_ (Sub.cons rfl (Sub.cons rfl (Sub.cons rfl (Sub.cons rfl (Sub.cons rfl (Sub.nil _)))))) ⟨l1, mo, rfl, rfl, hS, hD.spr, fun h => by subst h; exact hD.marks⟩
    cases mo with
    | true => have := hD.yes rfl; simp only [if_true]; omega
    | false => simp
  subst h34
  have hM := hQ rfl
  have hNl := hM.needs hok1 han
  have hll := hM.1
  refine wc_exit ?_
  repeat first | refine then_x ?_ | refine round_x ?_ | refine cut_x ?_ | refine out_x' (by decide) ?_
  refine out_x ?_
  refine then_n ?_
  repeat refine wc_seq ?_
  have hS : SH s [ptC (.ptr p0 0 0) [vga, vaa, vha, vfa], rowC sv 1 (l.map bC), rowC .nils 1 ((numL l 0).map iC)] z := hS.nil 1
  refine wc_region ?_
  refine w_val rfl rfl (op_pure rfl) ?_
  refine w_nil ?_
  refine then_n ?_
  repeat refine wc_seq ?_
  refine wc_block ?_
  refine wc_loop_at (fun jj m z => ∃ (k : Nat) (o : AV), jj = l.length - k ∧ k ≤ l.length ∧ m = [(5, o), (6, sv), (11, .int .i64 (k : Nat))] ∧ SH s [ptC (.ptr p0 0 0) [vga, vaa, vha, vfa], rowC sv 1 (l.map bC), rowC o 1 ((numL l k).map iC)] z) l.length
    [(5, .nils), (6, sv), (11, .int .i64 ((0 : Nat) : Int))] (Sub.cons rfl (Sub.cons rfl (Sub.cons rfl (Sub.nil _)))) ⟨0, .nils, by simp, by simp, rfl, hS⟩ ?_
  clear hS hK
  rintro jj m z ⟨k, o, rfl, hk, rfl, hS⟩
  have hK := hS.K
  repeat refine wc_seq ?_
  refine wc_region ?_
  refine w_val rfl rfl (op_pure rfl) ?_
  refine w_val rfl rfl (op_pure rfl) ?_
  refine w_val rfl rfl (op_len rfl rfl rfl rfl rfl (hS.row 1 rfl).slenF) ?_
  refine w_val rfl rfl (op_pure rfl) ?_
  refine w_nil ?_
  refine then_n ?_
  repeat refine wc_seq ?_
  refine wc_condT rfl (fun h86 => ?_) (fun h86 => ?_)
  · simp only [decide_eq_true_eq] at h86
    refine wc_skip ?_
    refine then_n ?_
    repeat refine wc_seq ?_
    refine wc_block ?_
    repeat refine wc_seq ?_
    obtain ⟨bb, hbb⟩ : ∃ x, l[k]? = some x := ⟨_, List.getElem?_eq_getElem (by omega)⟩
    have hnl := numL_len l k
    refine wc_region ?_
    refine w_val rfl rfl (op_pure rfl) ?_
    refine w_val rfl rfl (op_pure rfl) ?_
    refine w_val rfl rfl (op_idxF rfl rfl (natA_cast _ _) rfl rfl rfl rfl (hS.row 1 rfl) (by omega)) ?_
    refine w_val rfl rfl (op_load rfl rfl (Row.mk_pt (hS.row 1 rfl) (by assumption)) rfl) ?_
    refine w_nil ?_
    refine then_n ?_
    refine wc_condT rfl (fun h92 => ?_) (fun h92 => ?_)
    · subst h92
      refine wc_region ?_
      refine w_val rfl rfl (op_pure rfl) ?_
      refine w_val rfl rfl (op_pure rfl) ?_
      refine ws_lit1 hS rfl rfl rfl rfl rfl rfl rfl rfl (by decide) (by decide) rfl (by rfl) rfl ?_
      rintro lt95 z hS hk hlt95
      have hK := hS.K
      refine ws_append 2 hS rfl rfl rfl rfl rfl rfl rfl rfl rfl rfl rfl (by decide) (hlt95) (by (simp only [List.length_map, List.length_nil, List.length_cons, maxBytes]; omega)) (by (simp only [List.length_map, List.length_nil, List.length_cons, maxBytes]; omega)) ?_
      rintro at96 z hS
      have hS : SH _ [_, _, _] z := hS
      have hK := hS.K
      refine w_val rfl rfl (op_pure rfl) ?_
      refine w_nil ?_
      refine out_n ?_
      refine then_n ?_
      refine wc_region ?_
      refine w_val rfl rfl (op_pure rfl) ?_
      refine w_val rfl rfl (op_add rfl rfl (by unfold In64; omega)) ?_
      refine w_val rfl rfl (op_pure rfl) ?_
      refine w_nil ?_
      have hS : SH s [ptC (.ptr p0 0 0) [vga, vaa, vha, vfa], rowC sv 1 (l.map bC), rowC at96 1 ((numL l (k + 1)).map iC)] z := by rw [numL_yes hbb, List.map_append]; exact hS
      exact round_n _ _ (by omega) (Sub.cons rfl (Sub.cons rfl (Sub.cons rfl (Sub.nil _)))) ⟨k + 1, at96, rfl, by omega, rfl, hS⟩
    subst h92
    refine wc_skip ?_
    refine out_n ?_
    refine then_n ?_
    refine wc_region ?_
    refine w_val rfl rfl (op_pure rfl) ?_
    refine w_val rfl rfl (op_add rfl rfl (by unfold In64; omega)) ?_
    refine w_val rfl rfl (op_pure rfl) ?_
    refine w_nil ?_
    have hS : SH s [ptC (.ptr p0 0 0) [vga, vaa, vha, vfa], rowC sv 1 (l.map bC), rowC o 1 ((numL l (k + 1)).map iC)] z := by rw [numL_no hbb]; exact hS
    exact round_n _ _ (by omega) (Sub.cons rfl (Sub.cons rfl (Sub.cons rfl (Sub.nil _)))) ⟨k + 1, o, rfl, by omega, rfl, hS⟩
  simp only [decide_eq_false_iff_not] at h86
  obtain rfl : k = l.length := by omega
  refine wc_exit ?_
  repeat first | refine then_x ?_ | refine round_x ?_ | refine cut_x ?_ | refine out_x' (by decide) ?_
  refine out_x ?_
  refine then_n ?_
  repeat refine wc_seq ?_
  refine wc_region ?_
  refine w_val rfl rfl (op_pure rfl) ?_
  refine w_val rfl rfl (op_pure rfl) ?_
  refine w_nil ?_
  refine then_n ?_
  refine wc_ret ?_
  repeat first | refine then_r ?_ | refine out_r ?_ | refine round_r ?_ | refine cut_r ?_ | refine sc_r ?_
  rw [hNl] at hS
  exact ⟨_, rfl, hK, hS.row 2 rfl⟩
end Go.Ab
/- louverlaw27.LinkBinds. -/
namespace Go.Ab
open Go.Proofs
theorem okM_funcs {m : ModL} (h : okM m = true) : m.funcs.length ≤ 1000 := by
  have h1 : (checkF m).1 = 0 := by
    unfold okM at h
    simp only [Bool.and_eq_true, beq_iff_eq] at h
    exact h.1
  unfold checkF at h1
  split at h1
  · cases h1
  · omega
theorem bindM_small {m : ModL} {f g : Int} (hm : m.small) : (bindM m f g).small ∧ (bindM m f g).funcs.length ≤ 1000 := by
  by_cases h : bindE m f g = 0
  · have hok : okM m = true := by
      cases e : okM m with
      | true => rfl
      | false => rw [bindE_err (.inl e)] at h; cases h
    have hn := okM_funcs hok
    rw [show bindM m f g = ⟨m.globals, m.arrays, m.channels, m.funcs.map (bindF f g)⟩ from if_pos h]
    refine ⟨⟨hm.1, hm.2.1, hm.2.2.1, by rw [List.length_map]; exact hm.2.2.2.1, fun x hx => ?_⟩, by rw [List.length_map]; exact hn⟩
    obtain ⟨y, hy, rfl⟩ := List.mem_map.1 hx
    have := hm.2.2.2.2 y hy
    exact ⟨this.1, this.2.1, by simp only [bindF, turnC, List.length_map]; exact this.2.2⟩
  · rw [show bindM m f g = ⟨[], [], [], []⟩ from if_neg h]
    exact ⟨⟨by simp, by simp, by simp, by simp, fun x hx => by cases hx⟩, by simp⟩
theorem row_two {h : Tr Grp} {a b : AV} {xs ys : List Int} (ha : Row h 1 a (xs.map iC)) (hb : Row h 1 b (ys.map iC)) : ∀ p ∈ [(a, xs), (b, ys)], Row h 1 p.1 (p.2.map iC) := by
  intro p hp
  rcases List.mem_cons.1 hp with rfl | hp
  · exact ha
  · rw [List.mem_singleton.1 hp]; exact hb
theorem needsL_len (m : ModL) (f : Int) : (needsL m f).length ≤ m.funcs.length := by
  unfold needsL
  split
  · rw [List.length_map]
    refine Nat.le_trans (List.length_filter_le _ _) ?_
    rw [List.length_range]; exact Nat.le_refl _
  · simp
set_option maxRecDepth 10000 in
set_option maxHeartbeats 8000000 in
theorem linkBinds_run {s : St} {ca : List AV} {mm : ModL} {f g : Int} (hok : s.Ok) (hmm : mm.small) (hva : ModR s.h mm ca) (hlab : ∀ x ∈ mm.funcs, LabIn x) :
    CallS Try.prog Tt Kt 7 [.agg ca, .int .i64 f, .int .i64 g] s (fun r _ => r = .bool true) := by
  have hza := hva.leaf.2
  obtain ⟨a0, a1, a2, a3, rfl⟩ := hva.four
  refine call_of (fn := Try.f7) (nt := 97) Try.func7 rfl rfl rfl ?_
  repeat refine wc_seq ?_
  have hS := SH.start hok
  refine wc_region ?_
  refine ws_box hS rfl rfl rfl hza ?_
  rintro p0 z hS hk
  have hS : SH _ [_] z := hS
  have hK := hS.K
  refine w_val rfl rfl (op_pure rfl) ?_
  refine w_nil ?_
  refine then_n ?_
  repeat refine wc_seq ?_
  refine wc_region ?_
  refine w_val rfl rfl (op_loadC 0 hS rfl rfl rfl (Nat.le_of_ble_eq_true rfl) rfl) ?_
  refine w_call rfl rfl (op_call rfl rfl rfl rfl) (lentModule_ok hK.ok hmm (ModR.keep0 hva hK)) ?_
  rintro _ z1 ⟨hk, cx, rfl, hmx⟩
  obtain ⟨x0, x1, x2, x3, rfl⟩ := hmx.to.to.four
  have hS := hS.add hk (gC ModLF good_mod (Fr z.ctr z1.ctr []) mm [x0, x1, x2, x3]) hmx (fun g hg => ⟨hg.1, hg.2.1⟩)
  clear hmx
  have hS : SH _ [_, _] z1 := hS
  have hK := hS.K
  refine ws_alloc hS rfl rfl rfl rfl ?_
  rintro p2 z hS hk
  have hS : SH _ [_, _, _] z := hS
  have hK := hS.K
  refine ws_store 2 hS rfl rfl rfl rfl rfl rfl (ModLR.to (ModLF.to (hS.get 1 rfl))).leaf.2 (Nat.le_of_ble_eq_true rfl) ?_
  rintro z hS
  have hS : SH _ [_, _, _] z := hS
  have hK := hS.K
  refine w_nil ?_
  refine then_n ?_
  repeat refine wc_seq ?_
  refine wc_region ?_
  refine w_val rfl rfl (op_loadC 2 hS rfl rfl rfl (Nat.le_of_ble_eq_true rfl) rfl) ?_
  refine w_val rfl rfl (op_pure rfl) ?_
  refine w_val rfl rfl (op_pure rfl) ?_
  refine w_call rfl rfl (op_call rfl rfl rfl rfl) (bind_ok hK.ok hmm (ModLF.to (hS.get 1 rfl))) ?_
  rintro _ z1 ⟨hk, M, rfl, hmM, hbM⟩
  have hS := hS.add hk (modC (bindM mm f g) M) hmM (fun g ⟨v, hv, hg⟩ => ⟨hbM v hv g hg, all_lt hmM hk.ok hv g hg⟩)
  have hlM := hmM.cells_leaf
  clear hmM hbM
  have hS : SH _ [_, _, _, _] z1 := hS
  have hK := hS.K
  refine w_val rfl rfl (op_pure rfl) ?_
  refine w_val rfl rfl (op_pure rfl) ?_
  refine w_val rfl rfl (op_pure rfl) ?_
  refine ws_alloc hS rfl rfl rfl rfl ?_
  rintro p4 z hS hk
  have hS : SH _ [_, _, _, _, _] z := hS
  have hK := hS.K
  refine ws_store 4 hS rfl rfl rfl rfl rfl rfl hlM (Nat.le_of_ble_eq_true rfl) ?_
  rintro z hS
  have hS : SH _ [_, _, _, _, _] z := hS
  have hK := hS.K
  refine w_val rfl rfl (op_pure rfl) ?_
  refine w_nil ?_
  refine then_n ?_
  repeat refine wc_seq ?_
  refine wc_region ?_
  refine w_val rfl rfl (op_loadC 2 hS rfl rfl rfl (Nat.le_of_ble_eq_true rfl) rfl) ?_
  refine w_val rfl rfl (op_pure rfl) ?_
  refine w_val rfl rfl (op_pure rfl) ?_
  refine w_call rfl rfl (op_call rfl rfl rfl rfl) (bind_ok hK.ok hmm (ModLF.to (hS.get 1 rfl))) ?_
  rintro _ z1 ⟨hk, N, rfl, hmN, hbN⟩
  have hS := hS.add hk (modC (bindM mm f g) N) hmN (fun g ⟨v, hv, hg⟩ => ⟨hbN v hv g hg, all_lt hmN hk.ok hv g hg⟩)
  have hlN := hmN.cells_leaf
  clear hmN hbN
  have hS : SH _ [_, _, _, _, _, _] z1 := hS
  have hK := hS.K
  refine w_val rfl rfl (op_pure rfl) ?_
  refine w_val rfl rfl (op_pure rfl) ?_
  refine w_val rfl rfl (op_pure rfl) ?_
  refine ws_alloc hS rfl rfl rfl rfl ?_
  rintro p6 z hS hk
  have hS : SH _ [_, _, _, _, _, _, _] z := hS
  have hK := hS.K
  refine ws_store 6 hS rfl rfl rfl rfl rfl rfl hlN (Nat.le_of_ble_eq_true rfl) ?_
  rintro z hS
  have hS : SH _ [_, _, _, _, _, _, _] z := hS
  have hK := hS.K
  refine w_val rfl rfl (op_pure rfl) ?_
  refine w_nil ?_
  refine then_n ?_
  repeat refine wc_seq ?_
  refine wc_region ?_
  refine w_val rfl rfl (op_loadC 0 hS rfl rfl rfl (Nat.le_of_ble_eq_true rfl) rfl) ?_
  refine w_val rfl rfl (op_pure rfl) ?_
  refine w_val rfl rfl (op_pure rfl) ?_
  refine w_call rfl rfl (op_call rfl rfl rfl rfl) (bind_ref_ok hK.ok hmm (ModR.keep0 hva hK) hlab) ?_
  rintro _ z1 ⟨hk, cw, rfl, hw⟩
  obtain ⟨w0, w1, w2, w3, rfl⟩ := hw.four
  have hS := hS.mov hk
  have hK := hS.K
  have hlw := hw.leaf.2
  refine w_val rfl rfl (op_pure rfl) ?_
  refine w_val rfl rfl (op_pure rfl) ?_
  refine w_val rfl rfl (op_pure rfl) ?_
  refine w_alloc rfl rfl rfl rfl hK.ok ?_
  intro z2 hp hka hca
  refine w_store_all rfl rfl rfl rfl rfl (by rfl) hlw hka.ok hp (by simp [AV.gs]) ?_
  intro z3 hp hkb hcb
  have hkb' : Keep [] z1 z3 := hka.fresh hkb (fun g hg => by rw [List.mem_singleton.1 hg]; exact Nat.le_refl _)
  have hS := hS.add hkb' (ptC (.ptr z1.ctr 0 0) [w0, w1, w2, w3]) hp (fun g hg => by rw [List.mem_singleton.1 hg]; omega)
  have hw := hw.keep0 hkb'
  generalize z1.ctr = p10 at *
  clear hkb' hka hkb hp hca hcb hk
  have hS : SH _ [_, _, _, _, _, _, _, _] z3 := hS
  have hK := hS.K
  refine w_val rfl rfl (op_pure rfl) ?_
  refine w_nil ?_
  refine then_n ?_
  repeat refine wc_seq ?_
  refine wc_region ?_
  refine w_val rfl rfl (op_loadC 2 hS rfl rfl rfl (Nat.le_of_ble_eq_true rfl) rfl) ?_
  refine w_val rfl rfl (op_pure rfl) ?_
  refine w_call rfl rfl (op_call rfl rfl rfl rfl) (needs_ok hK.ok hmm (ModLR.to (ModLF.to (hS.get 1 rfl)))) ?_
  rintro l z1 ⟨hk, hr, hb, hn⟩
  have hS := hS.add hk (rowC l 1 ((needsL mm f).map iC)) ⟨hr, hn⟩ (fun g hg => ⟨hb g hg, hr.lt hk.ok g hg⟩)
  have hw := ModR.keep0 hw hk
  clear hr hb hn
  have hS : SH _ [_, _, _, _, _, _, _, _, _] z1 := hS
  have hK := hS.K
  refine w_val rfl rfl (op_pure rfl) ?_
  refine w_nil ?_
  refine then_n ?_
  repeat refine wc_seq ?_
  refine wc_region ?_
  refine w_val rfl rfl (op_loadC 2 hS rfl rfl rfl (Nat.le_of_ble_eq_true rfl) rfl) ?_
  refine w_val rfl rfl (op_pure rfl) ?_
  refine w_call rfl rfl (op_call rfl rfl rfl rfl) (needs_ok hK.ok hmm (ModLR.to (ModLF.to (hS.get 1 rfl)))) ?_
  rintro o z1 ⟨hk, hr, hb, hn⟩
  have hS := hS.add hk (rowC o 1 ((needsL mm f).map iC)) ⟨hr, hn⟩ (fun g hg => ⟨hb g hg, hr.lt hk.ok g hg⟩)
  have hw := ModR.keep0 hw hk
  clear hr hb hn
  have hS : SH _ [_, _, _, _, _, _, _, _, _, _] z1 := hS
  have hK := hS.K
  refine w_val rfl rfl (op_pure rfl) ?_
  refine w_nil ?_
  refine then_n ?_
  repeat refine wc_seq ?_
  refine wc_region ?_
  refine w_val rfl rfl (op_loadC 0 hS rfl rfl rfl (Nat.le_of_ble_eq_true rfl) rfl) ?_
  refine w_val rfl rfl (op_pure rfl) ?_
  refine w_call rfl rfl (op_call rfl rfl rfl rfl) (needs_ref_ok hK.ok hmm (ModR.keep0 hva hK)) ?_
  rintro nr z1 ⟨hk, hn⟩
  have hS := hS.mov hk
  have hw := ModR.keep0 hw hk
  have hK := hS.K
  have hnl := needsL_len mm f
  have hm4 := hmm.2.2.2.1
  refine w_val rfl rfl (op_pure rfl) ?_
  refine w_nil ?_
  refine then_n ?_
  repeat refine wc_seq ?_
  refine wc_region ?_
  refine w_val rfl rfl (op_pure rfl) ?_
  refine w_val rfl rfl (op_pure rfl) ?_
  refine w_val rfl rfl (op_int (v := .bool true) rfl rfl (by decide) (by simp [intA])) ?_
  refine w_val rfl rfl (op_pure rfl) ?_
  refine w_val rfl rfl (op_loadC 4 hS rfl rfl rfl (Nat.le_of_ble_eq_true rfl) rfl) ?_
  refine w_val rfl rfl (op_loadC 7 hS rfl rfl rfl (Nat.le_of_ble_eq_true rfl) rfl) ?_
  refine w_call rfl rfl (op_call rfl rfl rfl rfl) (module_same hK.ok (bindM_small hmm).1 (ModO.r (hS.get 3 rfl)) hw) ?_
  rintro _ z1 ⟨hk, rfl⟩
  have hS := hS.mov hk
  have hw := ModR.keep0 hw hk
  have hn := hn.keep0 hk
  have hK := hS.K
  refine w_val rfl rfl (op_pure rfl) ?_
  refine w_val rfl rfl (op_pure rfl) ?_
  refine w_val rfl rfl (op_loadC 6 hS rfl rfl rfl (Nat.le_of_ble_eq_true rfl) rfl) ?_
  refine w_val rfl rfl (op_loadC 7 hS rfl rfl rfl (Nat.le_of_ble_eq_true rfl) rfl) ?_
  refine w_call rfl rfl (op_call rfl rfl rfl rfl) (module_same hK.ok (bindM_small hmm).1 (ModO.r (hS.get 5 rfl)) hw) ?_
  rintro _ z1 ⟨hk, rfl⟩
  have hS := hS.mov hk
  have hw := ModR.keep0 hw hk
  have hn := hn.keep0 hk
  have hK := hS.K
  refine w_val rfl rfl (op_pure rfl) ?_
  refine w_val rfl rfl (op_pure rfl) ?_
  refine w_val rfl rfl (op_pure rfl) ?_
  refine w_val rfl rfl (op_pure rfl) ?_
  refine w_call rfl rfl (op_call rfl rfl rfl rfl) (ints_same (by omega) (hS.row 8 rfl) hn) ?_
  rintro _ _ ⟨rfl, rfl⟩
  refine w_val rfl rfl (op_pure rfl) ?_
  refine w_val rfl rfl (op_pure rfl) ?_
  refine w_val rfl rfl (op_pure rfl) ?_
  refine w_val rfl rfl (op_pure rfl) ?_
  refine w_call rfl rfl (op_call rfl rfl rfl rfl) (ints_same (by omega) (hS.row 9 rfl) hn) ?_
  rintro _ _ ⟨rfl, rfl⟩
  refine w_val rfl rfl (op_pure rfl) ?_
  refine w_val rfl rfl (op_pure rfl) ?_
  refine w_val rfl rfl (op_loadC 2 hS rfl rfl rfl (Nat.le_of_ble_eq_true rfl) rfl) ?_
  refine w_val rfl rfl (op_loadC 0 hS rfl rfl rfl (Nat.le_of_ble_eq_true rfl) rfl) ?_
  refine w_call rfl rfl (op_call rfl rfl rfl rfl) (keptModule_ok hK.ok hmm (ModLF.to (hS.get 1 rfl)) (ModR.keep0 hva hK)) ?_
  rintro _ z1 ⟨hk, rfl⟩
  have hS := hS.mov hk
  have hK := hS.K
  refine w_val rfl rfl (op_pure rfl) ?_
  refine w_val rfl rfl (op_pure rfl) ?_
  refine w_val rfl rfl (op_loadC 4 hS rfl rfl rfl (Nat.le_of_ble_eq_true rfl) rfl) ?_
  refine w_val rfl rfl (op_loadC 6 hS rfl rfl rfl (Nat.le_of_ble_eq_true rfl) rfl) ?_
  have hMN := mods2 (hS.get 3 rfl) (hS.get 5 rfl) (bindM_small hmm) (fun u hu w hw' g hg hg' => hS.dis 3 5 _ _ (by decide) rfl rfl g ⟨u, hu, hg⟩ ⟨w, hw', hg'⟩)
  refine w_lit (c := [M.vg, M.va, M.vh, M.vf, N.vg, N.va, N.vh, N.vf]) [M.cells, N.cells] rfl rfl rfl rfl rfl rfl rfl (by decide) (by decide) rfl (by have h1 := hlM; have h2 := hlN; unfold MemM.cells at h1 h2; simp only [List.all_cons, List.all_nil, Bool.and_true, Bool.and_eq_true] at h1 h2 ⊢; simp [h1, h2]) rfl (lit2_cells ⟨rfl, hlM⟩ ⟨rfl, hlN⟩) rfl hK.ok ?_
  intro v z2 hv hk2 hc2 hvg
  have hMN := hMN.keep hk2 (fun _ _ _ _ _ _ h => by cases h)
  have hS := hS.add hk2 (rowC v 4 [M.cells, N.cells]) ⟨hv, fun e => by rw [hvg] at e; cases e⟩ (row_newb hk2 hv hvg hc2)
  have hS : SH _ [_, _, _, _, _, _, _, _, _, _, _] z2 := hS
  have hK := hS.K
  refine w_call rfl rfl (op_call rfl rfl rfl rfl) (modules_ok (data := [(bindM mm f g, M), (bindM mm f g, N)]) hK.ok (hS.row 10 rfl) hMN (fun g hg h => by
    rcases allG2 h with h | h
    · exact hS.dis 10 3 _ _ (by decide) rfl rfl g hg h
    · exact hS.dis 10 5 _ _ (by decide) rfl rfl g hg h)) ?_
  rintro _ z1 ⟨hk, rfl⟩
  have hS := hS.kill2 3 5 (by decide) rfl rfl hk (fun g hg => allG2 hg)
  have hS : SH _ [_, _, _, _, _, _, _, _, _, _, _] z1 := hS
  have hK := hS.K
  refine w_val rfl rfl (op_pure rfl) ?_
  refine w_val rfl rfl (op_pure rfl) ?_
  refine w_val rfl rfl (op_pure rfl) ?_
  refine w_val rfl rfl (op_pure rfl) ?_
  have hll := (hS.row 8 rfl).leaf
  have hlo := (hS.row 9 rfl).leaf
  refine w_lit (c := [l, o]) [[l], [o]] rfl rfl rfl rfl rfl rfl rfl (by decide) (by decide) (fill2 hll hlo) (by simp only [List.all_cons, List.all_nil, hll, hlo]; rfl) rfl (hc2L hll hlo) rfl hK.ok ?_
  intro v2 z2 hv hk2 hc2 hvg
  have hS := hS.add hk2 (rowC v2 1 [[l], [o]]) ⟨hv, fun e => by rw [hvg] at e; cases e⟩ (row_newb hk2 hv hvg hc2)
  have hS : SH _ [_, _, _, _, _, _, _, _, _, _, _, _] z2 := hS
  have hK := hS.K
  refine w_call rfl rfl (op_call rfl rfl rfl rfl) (apartInts_ok (data := [(l, needsL mm f), (o, needsL mm f)]) hK.ok (hS.row 11 rfl) (fun g hg h => by
    simp only [List.flatMap_cons, List.flatMap_nil, List.append_nil, List.mem_append] at h
    rcases h with h | h
    · exact hS.dis 11 8 _ _ (by decide) rfl rfl g hg h
    · exact hS.dis 11 9 _ _ (by decide) rfl rfl g hg h) (row_two (hS.row 8 rfl) (hS.row 9 rfl)) (List.pairwise_cons.2 ⟨fun b hb => by rw [List.mem_singleton.1 hb]; exact fun g hg h => hS.dis 8 9 _ _ (by decide) rfl rfl g hg h, List.pairwise_singleton ..⟩)
    (fun p hp => by
      rcases List.mem_cons.1 hp with rfl | hp
      · exact hS.nls 8 rfl
      · rw [List.mem_singleton.1 hp]; exact hS.nls 9 rfl) (by simp) (fun p hp => by
      rcases List.mem_cons.1 hp with rfl | hp
      · show (needsL mm f).length ≤ _; omega
      · rw [List.mem_singleton.1 hp]; show (needsL mm f).length ≤ _; omega)) ?_
  rintro _ z1 ⟨hk, rfl⟩
  have hS := hS.kill2 8 9 (by decide) rfl rfl hk (fun g hg => by
    simp only [List.flatMap_cons, List.flatMap_nil, List.append_nil, List.mem_append] at hg
    exact hg)
  have hS : SH _ [_, _, _, _, _, _, _, _, _, _, _, _] z1 := hS
  have hK := hS.K
  refine w_val rfl rfl (op_pure rfl) ?_
  refine w_val rfl rfl (op_pure rfl) ?_
  refine w_val rfl rfl (op_loadC 2 hS rfl rfl rfl (Nat.le_of_ble_eq_true rfl) rfl) ?_
  refine w_val rfl rfl (op_loadC 0 hS rfl rfl rfl (Nat.le_of_ble_eq_true rfl) rfl) ?_
  refine w_call rfl rfl (op_call rfl rfl rfl rfl) (keptModule_ok hK.ok hmm (ModLF.to (hS.get 1 rfl)) (ModR.keep0 hva hK)) ?_
  rintro _ z1 ⟨hk, rfl⟩
  have hS := hS.mov hk
  have hK := hS.K
  refine w_val rfl rfl (op_pure rfl) ?_
  refine w_val rfl rfl (op_pure rfl) ?_
  refine w_call rfl rfl (op_call rfl rfl rfl rfl) (call_known (b := true) (Q := fun r s' => r = .bool true ∧ s' = _) rfl ⟨rfl, rfl⟩) ?_
  rintro _ _ ⟨rfl, rfl⟩
  refine w_val rfl rfl (op_pure rfl) ?_
  refine w_val rfl rfl (op_pure rfl) ?_
  refine w_nil ?_
  refine then_n ?_
  refine wc_ret ?_
  repeat first | refine then_r ?_ | refine out_r ?_ | refine round_r ?_ | refine cut_r ?_ | refine sc_r ?_
  exact ⟨_, rfl, rfl⟩
end Go.Ab
/- What came in, as the abstract machine sees it: shapes by type. -/
namespace Go.Ab
/-- Cells that a value of this type may hold: whole numbers, truth values, strings, rows and structs of such. -/
def Shaped (P : Program) : Nat → TypeId → List AV → Prop
  | 0, _, _ => False
  | n + 1, t, us => match P.underlying t with
    | some .bool => ∃ b, us = [.bool b]
    | some (.int k) => ∃ m, us = [.int k m] ∧ (Lit.int k m).wf = true
    | some .string => ∃ s : ByteArray, us = [.str s] ∧ s.size ≤ maxLen
    | some (.slice e) => ∃ nl xs, us = [.ro nl xs] ∧ (nl = true → xs = []) ∧ xs.length ≤ maxLen ∧ ∀ x ∈ xs, x.cells.length = P.cellsOf e ∧ Shaped P n e x.cells
    | some (.struct fs) => us.length = P.cellsOf t ∧ ∀ f ∈ fs.toList, Shaped P n f.type ((us.drop f.offset).take (P.cellsOf f.type))
    | _ => False
/-- The fields lie one behind the other. -/
def tiles (P : Program) : Nat → List Field → Nat → Bool
  | k, [], n => k == n
  | k, f :: r, n => f.offset == k && tiles P (k + P.cellsOf f.type) r n
/-- Types of such values. -/
def Plain (P : Program) : Nat → TypeId → Bool
  | 0, _ => false
  | n + 1, t => match P.underlying t with
    | some .bool | some (.int _) | some .string => true
    | some (.slice e) => P.cellsOf e > 0 && Plain P n e
    | some (.struct fs) => tiles P 0 fs.toList (P.cellsOf t) && fs.toList.all fun f => Plain P n f.type
    | _ => false
end Go.Ab
/- What came in, as the abstract machine sees it: rows of the arguments' data. -/
namespace Go.Ab
def packE {H : Type} (d : DataW H) (cs : List AV) : AV := match d with
  | .agg _ => .agg cs
  | _ => cs.headD .undef
mutual
/-- The cells of what was read. -/
def avs {H : Type} : DataW H → List AV
  | .lit (.int k n) => [.int k n]
  | .lit (.bool b) => [.bool b]
  | .lit (.string bs) => [.str ⟨bs.toArray⟩]
  | .nil => [.ro true []]
  | .slice es _ => [.ro false (elts es)]
  | .agg ds => avsAll ds
  | _ => [.undef]
def avsAll {H : Type} : List (DataW H) → List AV
  | [] => []
  | d :: r => avs d ++ avsAll r
def elts {H : Type} : List (DataW H) → List AV
  | [] => []
  | d :: r => packE d (avs d) :: elts r
end
theorem elts_map {H : Type} : ∀ (l : List (DataW H)), elts l = l.map fun d => packE d (avs d)
  | [] => by rw [elts]; rfl
  | d :: r => by rw [elts, elts_map r]; rfl
/-- Data of a type. -/
def HasTy {H : Type} (P : Program) : Nat → TypeId → DataW H → Prop
  | 0, _, _ => False
  | n + 1, t, d => match P.underlying t with
    | some .bool => ∃ b, d = .lit (.bool b)
    | some (.int k) => ∃ m, d = .lit (.int k m) ∧ (Lit.int k m).wf = true
    | some .string => ∃ bs, d = .lit (.string bs)
    | some (.slice e) => d = .nil ∨ ∃ es sp, d = .slice es sp ∧ ∀ x ∈ es, HasTy P n e x
    | some (.struct fs) => ∃ ds, d = .agg ds ∧ ds.length = fs.toList.length ∧ ∀ (i : Nat) (f : Field) (x : DataW H), fs.toList[i]? = some f → ds[i]? = some x → HasTy P n f.type x
    | _ => False
theorem HasTy.pack {H : Type} {P : Program} {n : Nat} {t : TypeId} {d : DataW H} (h : HasTy P n t d) : (packE d (avs d)).cells = avs d := by
  cases n with
  | zero => exact h.elim
  | succ n =>
    unfold HasTy at h
    split at h
    · obtain ⟨b, rfl⟩ := h; simp [avs, packE, AV.cells]
    · obtain ⟨b, rfl, -⟩ := h; simp [avs, packE, AV.cells]
    · obtain ⟨b, rfl⟩ := h; simp [avs, packE, AV.cells]
    · rcases h with rfl | ⟨es, sp, rfl, -⟩ <;> simp [avs, packE, AV.cells]
    · obtain ⟨ds, rfl, -⟩ := h; simp [avs, packE, AV.cells]
    · exact h.elim
theorem mapM_some' {α β : Type} {f : α → Option β} : ∀ {l : List α} {r : List β}, l.mapM f = some r → l.length = r.length ∧ ∀ (i : Nat) (x : α) (y : β), l[i]? = some x → r[i]? = some y → f x = some y
  | [], r, h => by simp at h; subst h; exact ⟨rfl, fun i x y h => by simp at h⟩
  | a :: l, r, h => by
    rw [List.mapM_cons] at h
    cases ha : f a with
    | none => simp [ha] at h
    | some b =>
      cases hl : l.mapM f with
      | none => simp [ha, hl] at h
      | some r' =>
        simp [ha, hl] at h
        subst h
        obtain ⟨h1, h2⟩ := mapM_some' hl
        refine ⟨by simp [h1], fun i x y hx hy => ?_⟩
        cases i with
        | zero => simp at hx hy; subst hx; subst hy; exact ha
        | succ i => exact h2 i x y (by simpa using hx) (by simpa using hy)
section
variable {H : Type} {enc : TypeId × Value → H} {P : Program} {w : World} {spare : Nat → Bool} {held : Bool} {ρ : Loc}
/-- What a reading of one type gives. -/
def RdOk (w : World) (P : Program) (ρ : Loc) (n : Nat) (t : TypeId) (cs : List Value) (d : DataW H) : Prop :=
  HasTy P n t d ∧ (avs d).length = cs.length ∧ CR w w.heap.size ρ (avs d) cs ∧ (avs d).all AV.leaf = true
theorem fields_read {n : Nat} (ih : ∀ t cs x, DataW.trod enc P w 0 spare held n t cs = some x → ∀ m, Plain P m t = true → RdOk w P ρ n t cs x.1) {m : Nat} {cs : List Value} :
    ∀ (fs : List Field) (k N : Nat) (xs : List (DataW H × List MemPlace)), N = cs.length → xs.length = fs.length → (∀ (i : Nat) (f : Field), fs[i]? = some f → DataW.trod enc P w 0 spare held n f.type ((cs.drop f.offset).take (P.cellsOf f.type)) = xs[i]?) → tiles P k fs N = true → (∀ f ∈ fs, Plain P m f.type = true) →
      (avsAll (xs.map (·.1))).length = (cs.drop k).length ∧ CR w w.heap.size ρ (avsAll (xs.map (·.1))) (cs.drop k) ∧ (avsAll (xs.map (·.1))).all AV.leaf = true ∧ ∀ (i : Nat) (f : Field) (x : DataW H × List MemPlace), fs[i]? = some f → xs[i]? = some x → HasTy P n f.type x.1
  | [], k, N, xs, hN, hl, h, ht, hp => by
    have : xs = [] := List.eq_nil_of_length_eq_zero hl
    subst this
    simp only [tiles, beq_iff_eq] at ht
    subst ht hN
    simp [avsAll, CR.nil]
  | f :: r, k, N, xs, hN, hl, h, ht, hp => by
    cases xs with
    | nil => simp at hl
    | cons b ys =>
      simp only [tiles, Bool.and_eq_true, beq_iff_eq] at ht
      obtain ⟨hoff, ht⟩ := ht
      have h0 := h 0 f rfl
      simp only [List.getElem?_cons_zero] at h0
      obtain ⟨h5, h1, h2, h6⟩ := ih _ _ b h0 m (hp f (List.mem_cons_self ..))
      obtain ⟨h3, h4, h7, h8⟩ := fields_read ih r (k + P.cellsOf f.type) N ys hN (by simpa using hl) (fun i g hg => by have := h (i + 1) g (by simpa using hg); simpa using this) ht (fun g hg => hp g (List.mem_cons_of_mem _ hg))
      rw [hoff] at h1 h2
      have e : cs.drop k = (cs.drop k).take (P.cellsOf f.type) ++ cs.drop (k + P.cellsOf f.type) := by
        rw [← List.drop_drop, List.take_append_drop]
      rw [List.map_cons, avsAll, e]
      refine ⟨by rw [List.length_append, List.length_append, h1, h3], h2.append h4, by rw [List.all_append, h6, h7]; rfl, fun i g x hg hx => ?_⟩
      cases i with
      | zero => simp at hg hx; subst hg; subst hx; exact h5
      | succ i => exact h8 i g x (by simpa using hg) (by simpa using hx)
theorem cells_at {w : World} {base : Nat} {a : Addr} {n : Nat} {cs : List Value} (h : w.cells? base a n = some cs) : cs.length = n ∧ ∀ (k : Nat) (v : Value), cs[k]? = some v → w.cell? (a.add k) = some v := by
  unfold World.cells? at h
  split at h
  · obtain ⟨h1, h2⟩ := mapM_some' h
    refine ⟨by rw [← h1, List.length_range], fun k v hv => ?_⟩
    have hk : k < n := by
      have := (List.getElem?_eq_some_iff.1 hv).1
      rw [← h1, List.length_range] at this; exact this
    exact h2 k k v (by rw [List.getElem?_range hk]) hv
  · cases h
theorem spot_none {w : World} {a : Addr} {v : Value} (h : w.cell? a = some v) : a.spot = none ∧ a.block < w.heap.size := by
  unfold World.cell? at h
  split at h
  · rename_i hb
    split at h
    · cases h
    · rename_i hs
      refine ⟨by simpa using hs, ?_⟩
      rcases Nat.lt_or_ge a.block w.heap.size with hl | hl
      · exact hl
      · rw [Array.getElem?_eq_none hl] at hb; cases hb
  · cases h
theorem CR.sole {u : AV} {v : Value} (h : VR w w.heap.size ρ u v) : CR w w.heap.size ρ [u] [v] := CR.cons h CR.nil
theorem read_ok : ∀ (n : Nat) (t : TypeId) (cs : List Value) (x : DataW H × List MemPlace), DataW.trod enc P w 0 spare held n t cs = some x → ∀ m, Plain P m t = true → RdOk w P ρ n t cs x.1
  | 0, _, _, _, h, _, _ => by simp [DataW.trod] at h
  | n + 1, t, cs, x, h, 0, hp => by simp [Plain] at hp
  | n + 1, t, cs, x, h, m + 1, hp => by
    have ih := fun t cs x h m hp => read_ok n t cs x h m hp
    unfold Plain at hp
    unfold RdOk HasTy
    cases hu : P.underlying t with
    | none => simp [hu] at hp
    | some td =>
      rw [hu] at hp
      cases td with
      | bool =>
        obtain ⟨b, rfl, rfl⟩ := DataW.trod_bool hu h
        exact ⟨⟨b, rfl⟩, by simp [avs], by simp only [avs]; exact CR.sole (.bool b), by simp [avs, AV.leaf]⟩
      | int k =>
        obtain ⟨b, rfl, rfl, hw⟩ := DataW.trod_int hu h
        exact ⟨⟨b, rfl, hw⟩, by simp [avs], by simp only [avs]; exact CR.sole (.int k b), by simp [avs, AV.leaf]⟩
      | string =>
        obtain ⟨b, rfl, rfl, hw⟩ := DataW.trod_string hu h
        exact ⟨⟨_, rfl⟩, by simp [avs], by simp only [avs]; exact CR.sole (.str b), by simp [avs, AV.leaf]⟩
      | slice e =>
        simp only [Bool.and_eq_true, decide_eq_true_eq] at hp
        rcases DataW.trod_slice hu h with ⟨rfl, rfl⟩ | ⟨a, len, cap, elems, rest, n', hn, rfl, rfl, hb, hlc, hcm, hel, helem, -, -⟩
        · refine ⟨.inl rfl, by simp [avs], ?_, by simp [avs, AV.leaf]⟩
          simp only [avs]
          exact CR.sole (.ro true [] none 0 (fun _ _ => undef) (Nat.le_refl _) (by simp) (fun _ => rfl) (fun a h => by cases h) (fun i x h => by simp at h) (fun i x h => by simp at h))
        · obtain rfl : n = n' := by omega
          have hall : ∀ (i : Nat) (y : DataW H × List MemPlace), elems[i]? = some y → ∃ vs, w.cells? 0 (a.add (i * P.cellsOf e)) (P.cellsOf e) = some vs ∧ RdOk w P ρ n e vs y.1 := by
            intro i y hy
            have hi : i < len := by have := (List.getElem?_eq_some_iff.1 hy).1; omega
            have := helem i hi
            rw [hy] at this
            cases hc : w.cells? 0 (a.add (i * P.cellsOf e)) (P.cellsOf e) with
            | none => rw [hc] at this; cases this
            | some vs => rw [hc] at this; exact ⟨vs, rfl, ih e vs y this m hp.2⟩
          refine ⟨.inr ⟨_, _, rfl, fun d hd => ?_⟩, by simp [avs], ?_, by simp [avs, AV.leaf]⟩
          · obtain ⟨y, hy, rfl⟩ := List.mem_map.1 hd
            obtain ⟨i, hi⟩ := List.getElem?_of_mem hy
            obtain ⟨vs, -, h1, -⟩ := hall i y hi
            exact h1
          · simp only [avs]
            refine CR.sole ?_
            have hlen : (elts (elems.map (·.1))).length = len := by rw [elts_map]; simp [hel]
            have hget : ∀ (i : Nat) (u : AV), (elts (elems.map (·.1)))[i]? = some u → ∃ y vs, elems[i]? = some y ∧ w.cells? 0 (a.add (i * P.cellsOf e)) (P.cellsOf e) = some vs ∧ u.cells = avs y.1 ∧ RdOk w P ρ n e vs y.1 := by
              intro i u hu'
              rw [elts_map, List.map_map, List.getElem?_map] at hu'
              cases hy : elems[i]? with
              | none => rw [hy] at hu'; cases hu'
              | some y =>
                rw [hy] at hu'
                obtain ⟨vs, h1, h2⟩ := hall i y hy
                cases hu'
                exact ⟨y, vs, rfl, h1, h2.1.pack, h2⟩
            have hadd : ∀ (b : Addr) (k : Nat), b.spot = none → b.add k = ⟨b.block, b.off + k, none⟩ := by
              intro b k hb
              obtain ⟨b1, b2, b3⟩ := b
              simp only at hb
              subst hb
              unfold Addr.add
              split
              · rename_i h0; rw [h0]; rfl
              · rfl
            have hsp : elems ≠ [] → a.spot = none ∧ a.block < w.heap.size := by
              intro hne
              obtain ⟨y, hy⟩ : ∃ y, elems[0]? = some y := by
                cases elems with
                | nil => exact (hne rfl).elim
                | cons y r => exact ⟨y, rfl⟩
              obtain ⟨vs, h2, -⟩ := hall 0 y hy
              obtain ⟨h7, h8⟩ := cells_at h2
              have hv := List.getElem?_eq_getElem (show 0 < vs.length by rw [h7]; exact hp.1)
              have := h8 0 _ hv
              rw [Nat.zero_mul] at this
              exact spot_none (a := a) this
            have hcell : ∀ (i : Nat) (u : AV), (elts (elems.map (·.1)))[i]? = some u → ∀ (k : Nat) (c : AV), u.cells[k]? = some c → ∃ v, w.cell? ⟨a.block, a.off + i * u.cells.length + k, none⟩ = some v ∧ VR w w.heap.size ρ c v := by
              intro i u hu' k c hc
              obtain ⟨y, vs, hy, h2, h3, h4, h5, h6, -⟩ := hget i u hu'
              obtain ⟨h7, h8⟩ := cells_at h2
              rw [h3] at hc
              have hk : k < vs.length := by rw [← h5]; exact (List.getElem?_eq_some_iff.1 hc).1
              have hv := List.getElem?_eq_getElem hk
              refine ⟨vs[k], ?_, h6.2 k c _ hc hv⟩
              have := h8 k _ hv
              have hs := (hsp (fun e => by rw [e] at hy; simp at hy)).1
              rw [hadd a _ hs, hadd _ _ rfl] at this
              rw [h3, h5, h7]
              exact this
            have key : VR w w.heap.size ρ (.ro false (elts (elems.map (·.1)))) (.slice (some a) (elts (elems.map (·.1))).length cap) := by
              refine .ro false _ (some a) cap (fun i k => match (elts (elems.map (·.1)))[i]? with
                | some u => (w.cell? ⟨a.block, a.off + i * u.cells.length + k, none⟩).getD undef
                | none => undef) (by omega) (by simp) (fun h => by cases h) ?_ ?_ ?_
              · intro a' ha hne
                cases ha
                exact hsp (fun e => hne (by rw [e]; rfl))
              · intro i u hu' k c hc a' ha
                cases ha
                obtain ⟨v, hv, -⟩ := hcell i u hu' k c hc
                simp only [hu', hv]
                rfl
              · intro i u hu' k c hc
                obtain ⟨v, hv, hr⟩ := hcell i u hu' k c hc
                simp only [hu', hv]
                exact hr
            rw [hlen] at key
            exact key
      | struct fs =>
        obtain ⟨xs, n', hn, rfl, hcs, hxl, hx⟩ := DataW.trod_struct hu h
        obtain rfl : n = n' := by omega
        simp only [Bool.and_eq_true, List.all_eq_true] at hp
        obtain ⟨h1, h2, h3, h4⟩ := fields_read (ρ := ρ) ih fs.toList 0 (P.cellsOf t) xs hcs.symm (by simpa using hxl) (fun i f hf => hx i f (by simpa using hf)) hp.1 hp.2
        refine ⟨⟨_, rfl, by simp [hxl], fun i f y hf hy => ?_⟩, ?_, ?_, ?_⟩
        · rw [List.getElem?_map] at hy
          cases hxi : xs[i]? with
          | none => rw [hxi] at hy; cases hy
          | some z => rw [hxi] at hy; cases hy; exact h4 i f z hf hxi
        · simp only [avs]; simpa using h1
        · simp only [avs]; simpa using h2
        · simp only [avs]; exact h3
      | _ => simp at hp
end
end Go.Ab
/- Runs of laws with arguments; rows of what was read. -/
namespace Go.Ab
open Go.WideShapes Go.RowKit
def St.zero : St := ⟨0, .leaf, []⟩
theorem zero_ok : St.zero.Ok := fun _ _ => rfl
theorem run_ok {P : Program} {T : Tab} (hm : P.follows .mixedOrders = true) (hT : TabOk P T) (hng : NoNG P) {K : FuncId → Option Bool} (hK : KOk P K) {f : FuncId} {args : List AV} {args' : Array Value} {w : World}
    (hc : CallS P T K f args St.zero fun r _ => r = .bool true) (ha : CR w w.heap.size (fun _ _ => none) args args'.toList) : Calls P f args' w fun e w' => e = .returned (.bool true) ∧ Below w.heap.size w w' := by
  obtain ⟨N, v, s', rfl, hn⟩ := hc
  have hs : Sim w w.heap.size (fun _ _ => none) St.zero w :=
    { low := Below.refl _ _, big := Nat.le_refl _,
      ver := by intros; simp_all, al := by intros; simp_all, sep := by intros; simp_all, ctr := by intros; simp_all }
  refine ((call_soundK (w0 := w) (B0 := w.heap.size) hm hT hng hK N f args _ _ _ (hn N (Nat.le_refl _))).2 _ w args' hs ha).mono fun e w' ⟨v', ρ', he, _, h2, h3⟩ => ?_
  cases h3
  exact ⟨he, h2.low⟩
section
variable {H : Type} {P : Program} {w : World} {ρ : Loc}
theorem packE_vr {r : Reach} {base n : Nat} {t : TypeId} {v : Value} {d : DataW H} (h : RdOk w P ρ n t v.cells.toList d) (hv : Value.okWide P w r base t v) : VR w w.heap.size ρ (packE d (avs d)) v := by
  obtain ⟨h1, h2, h3, h4⟩ := h
  cases n with
  | zero => exact h1.elim
  | succ n =>
    unfold HasTy at h1
    split at h1
    · rename_i hu
      obtain ⟨b, rfl⟩ := h1
      obtain ⟨b', rfl⟩ := okWide_bool hu hv
      simp only [avs, packE] at h3 ⊢
      exact h3.2 0 _ _ rfl rfl
    · rename_i hu
      obtain ⟨b, rfl, -⟩ := h1
      obtain ⟨b', rfl⟩ := okWide_int hu hv
      simp only [avs, packE] at h3 ⊢
      exact h3.2 0 _ _ rfl rfl
    · rename_i hu
      obtain ⟨b, rfl⟩ := h1
      obtain ⟨b', rfl⟩ := okWide_string hu hv
      simp only [avs, packE] at h3 ⊢
      exact h3.2 0 _ _ rfl rfl
    · rename_i hu
      obtain ⟨a, len, cap, rfl⟩ := okWide_slice hu hv
      rcases h1 with rfl | ⟨es, sp, rfl, -⟩
      · simp only [avs, packE] at h3 ⊢
        exact h3.2 0 _ _ rfl rfl
      · simp only [avs, packE] at h3 ⊢
        exact h3.2 0 _ _ rfl rfl
    · rename_i hu
      obtain ⟨arr, rfl, -⟩ := okWide_struct hu hv
      obtain ⟨ds, rfl, -⟩ := h1
      simp only [packE]
      have e : Value.cells (.agg arr) = arr := rfl
      rw [e] at h2 h3
      exact .agg _ arr (by simpa using h2) fun i u v hu hv => h3.2 i u v hu (by simpa using hv)
    · exact h1.elim
def dElems : DataW H → List (DataW H)
  | .slice es _ => es
  | _ => []
def dInt : DataW H → Int
  | .lit (.int _ n) => n
  | _ => 0
def dBool : DataW H → Bool
  | .lit (.bool b) => b
  | _ => false
def dStr : DataW H → ByteArray
  | .lit (.string bs) => ⟨bs.toArray⟩
  | _ => ByteArray.empty
theorem ty_int {n : Nat} {t : TypeId} {k : IntKind} {d : DataW H} (h : HasTy P n t d) (hu : P.underlying t = some (.int k)) : avs d = [.int k (dInt d)] ∧ (Lit.int k (dInt d)).wf = true := by
  cases n with
  | zero => exact h.elim
  | succ n =>
    unfold HasTy at h
    rw [hu] at h
    obtain ⟨m, rfl, hw⟩ := h
    exact ⟨by simp [avs, dInt], hw⟩
theorem ty_slice {n : Nat} {t e : TypeId} {d : DataW H} (h : HasTy P n t d) (hu : P.underlying t = some (.slice e)) : ∃ m nl, avs d = [.ro nl (elts (dElems d))] ∧ packE d (avs d) = .ro nl (elts (dElems d)) ∧ ∀ x ∈ dElems d, HasTy P m e x := by
  cases n with
  | zero => exact h.elim
  | succ n =>
    unfold HasTy at h
    rw [hu] at h
    rcases h with rfl | ⟨es, sp, rfl, hx⟩
    · exact ⟨n, true, by simp [avs, dElems, elts], by simp [avs, dElems, elts, packE], fun x hx => by cases hx⟩
    · exact ⟨n, false, by simp [avs, dElems], by simp [avs, dElems, packE], hx⟩
theorem ty_struct {n : Nat} {t : TypeId} {fs : Array Field} {d : DataW H} (h : HasTy P n t d) (hu : P.underlying t = some (.struct fs)) : ∃ m ds, d = .agg ds ∧ ds.length = fs.toList.length ∧ ∀ (i : Nat) (f : Field) (x : DataW H), fs.toList[i]? = some f → ds[i]? = some x → HasTy P m f.type x := by
  cases n with
  | zero => exact h.elim
  | succ n =>
    unfold HasTy at h
    rw [hu] at h
    obtain ⟨ds, h1, h2, h3⟩ := h
    exact ⟨n, ds, h1, h2, h3⟩
theorem row_elts {h : Tr Grp} {sz m : Nat} {e : TypeId} {nl : Bool} {es : List (DataW H)} (ht : ∀ x ∈ es, HasTy P m e x) (hc : ∀ x ∈ es, (avs x).length = sz ∧ (avs x).all AV.leaf = true) : Row h sz (.ro nl (elts es)) (es.map avs) := by
  refine ⟨?_, ?_⟩
  · rw [elts_map, List.map_map]
    exact List.map_congr_left fun x hx => (ht x hx).pack
  · intro c hc'
    obtain ⟨x, hx, rfl⟩ := List.mem_map.1 hc'
    exact hc x hx
/-- A row of flat elements. -/
theorem rowF_elts {h : Tr Grp} {sz m : Nat} {e : TypeId} {nl : Bool} {es : List (DataW H)} {α : Type} {f : DataW H → α} {c : α → List AV} (ht : ∀ x ∈ es, HasTy P m e x) (hx : ∀ x ∈ es, avs x = c (f x)) (hc : ∀ a, (c a).length = sz ∧ (c a).all AV.leaf = true) : Row h sz (.ro nl (elts es)) ((es.map f).map c) := by
  have := row_elts (h := h) (sz := sz) (nl := nl) ht fun x hx' => by rw [hx x hx']; exact hc _
  rw [List.map_map]
  rw [show es.map (c ∘ f) = es.map avs from List.map_congr_left fun x hx' => (hx x hx').symm]
  exact this
/-- A row of rows. -/
theorem rowR_elts {h : Tr Grp} {sz m : Nat} {e : TypeId} {nl : Bool} {es : List (DataW H)} {α : Type} {f : DataW H → α} {R : Tr Grp → α → List AV → Prop} (ht : ∀ x ∈ es, HasTy P m e x) (hx : ∀ x ∈ es, R h (f x) (avs x)) (hc : ∀ x ∈ es, (avs x).length = sz ∧ (avs x).all AV.leaf = true) : RowR h sz R (.ro nl (elts es)) (es.map f) := by
  refine ⟨_, row_elts ht hc, by simp, fun i a c h1 h2 => ?_⟩
  rw [List.getElem?_map] at h1 h2
  cases hy : es[i]? with
  | none => rw [hy] at h1; cases h1
  | some y =>
    rw [hy] at h1 h2
    cases h1
    cases h2
    exact hx y (List.mem_of_getElem? hy)
end
end Go.Ab
/- What the abstract machine asks of this program: the table, the orders. -/
namespace Go.Ab
open Go.Proofs
theorem tt_ok : TabOk Try.prog Tt := tab_ok (by kernel_rfl)
theorem prog_ng : NoNG Try.prog := ng_ok (by kernel_rfl)
theorem prog_mixed : Try.prog.follows .mixedOrders = true := by kernel_rfl
end Go.Ab
/- The table of closed functions is right. -/
namespace Go.Ab
open Go.Proofs Go.RowKit
theorem known_of {P : Program} {T : Tab} (hm : P.follows .mixedOrders = true) (hT : TabOk P T) (hng : NoNG P) {n : Nat} {f : FuncId} (h : yes (evCall P T n f [] ⟨0, .leaf, []⟩) = true) :
    Callable P f ∧ ∀ w, Calls P f #[] w fun e w' => e = .returned (.bool true) ∧ Below w.heap.size w w' := by
  refine ⟨?_, fun w => closed_run hm hT hng h w⟩
  cases hr : evCall P T n f [] ⟨0, .leaf, []⟩ with
  | none => simp [hr, yes] at h
  | some r => exact (call_sound (w0 := default) (B0 := 0) hm hT hng n f [] _ _ _ hr).1
set_option maxRecDepth 1000000 in
theorem awake26 : yes (evCall Try.prog Tt 3000 16 [] ⟨0, .leaf, []⟩) = true := by kernel_rfl
set_option maxRecDepth 1000000 in
theorem awake27 : yes (evCall Try.prog Tt 3000 33 [] ⟨0, .leaf, []⟩) = true := by kernel_rfl
theorem kt_ok : KOk Try.prog Kt := by
  intro f b h
  unfold Kt at h
  cases h1 : Nat.beq f 16 with
  | true =>
    rw [h1, cond_true] at h
    cases h
    rw [Nat.eq_of_beq_eq_true h1]
    exact known_of prog_mixed tt_ok prog_ng awake26
  | false =>
    rw [h1, cond_false] at h
    cases h2 : Nat.beq f 33 with
    | true =>
      rw [h2, cond_true] at h
      cases h
      rw [Nat.eq_of_beq_eq_true h2]
      exact known_of prog_mixed tt_ok prog_ng awake27
    | false => rw [h2, cond_false] at h; cases h
end Go.Ab
/- What is read of a module, an array, a function, an instruction; how much a reading holds. -/
namespace Go.Ab
open Go.Proofs
section
variable {H : Type} {h : Tr Grp} {n : Nat} {d : DataW H}
theorem wf_in {a : Int} (h : (Lit.int .i64 a).wf = true) : In64 a := by
  simp only [Lit.wf, Bool.and_eq_true, decide_eq_true_eq] at h
  have e1 : IntKind.i64.min = -9223372036854775808 := by decide
  have e2 : IntKind.i64.max = 9223372036854775807 := by decide
  rw [e1, e2] at h
  unfold In64
  omega
def toInstr : DataW H → InstrL
  | .agg [a, b] => ⟨dInt a, dInt b⟩
  | _ => ⟨0, 0⟩
def toArr : DataW H → ArrL
  | .agg [a, b] => ⟨dInt a, dInt b⟩
  | _ => ⟨0, 0⟩
def toFunc : DataW H → FuncL
  | .agg [l, p, r, a, b, c] => ⟨dInt l, (dElems p).map dInt, (dElems r).map dInt, dInt a, dInt b, (dElems c).map toInstr⟩
  | _ => ⟨0, [], [], 0, 0, []⟩
def toMod : DataW H → ModL
  | .agg [g, a, c, f] => ⟨(dElems g).map dInt, (dElems a).map toArr, (dElems c).map dInt, (dElems f).map toFunc⟩
  | _ => ⟨[], [], [], []⟩
theorem instr_of (k : HasTy Try.prog n 50 d) : avs d = inC (toInstr d) ∧ In64 (toInstr d).op ∧ In64 (toInstr d).a := by
  obtain ⟨m, ds, rfl, hl, hx⟩ := ty_struct k Try.underlying50
  match ds, hl, hx with
  | [a, b], _, hx =>
    have h0 := ty_int (hx 0 _ a rfl rfl) Try.underlying3
    have h1 := ty_int (hx 1 _ b rfl rfl) Try.underlying2
    refine ⟨?_, wf_in h0.2, wf_in h1.2⟩
    simp only [avs, avsAll, h0.1, h1.1, toInstr, inC]
    rfl
theorem arr_of (k : HasTy Try.prog n 71 d) : avs d = aC (toArr d) := by
  obtain ⟨m, ds, rfl, hl, hx⟩ := ty_struct k Try.underlying71
  match ds, hl, hx with
  | [a, b], _, hx =>
    have h0 := ty_int (hx 0 _ a rfl rfl) Try.underlying3
    have h1 := ty_int (hx 1 _ b rfl rfl) Try.underlying45
    simp only [avs, avsAll, h0.1, h1.1, toArr, aC]
    rfl
theorem labels_of (k : HasTy Try.prog n 46 d) : ∃ nl, avs d = [.ro nl (elts (dElems d))] ∧ Row h 1 (.ro nl (elts (dElems d))) (((dElems d).map dInt).map lC) := by
  obtain ⟨m, nl, h1, -, h2⟩ := ty_slice k Try.underlying46
  exact ⟨nl, h1, rowF_elts h2 (fun x hx => (ty_int (h2 x hx) Try.underlying45).1) (fun a => ⟨rfl, rfl⟩)⟩
theorem arrs_of (k : HasTy Try.prog n 52 d) : ∃ nl, avs d = [.ro nl (elts (dElems d))] ∧ Row h 2 (.ro nl (elts (dElems d))) (((dElems d).map toArr).map aC) := by
  obtain ⟨m, nl, h1, -, h2⟩ := ty_slice k Try.underlying52
  exact ⟨nl, h1, rowF_elts h2 (fun x hx => arr_of (h2 x hx)) (fun a => ⟨rfl, rfl⟩)⟩
theorem code_of (k : HasTy Try.prog n 30 d) : ∃ nl, avs d = [.ro nl (elts (dElems d))] ∧ packE d (avs d) = .ro nl (elts (dElems d)) ∧ Row h 2 (.ro nl (elts (dElems d))) (((dElems d).map toInstr).map inC) ∧ ∀ y ∈ (dElems d).map toInstr, In64 y.op ∧ In64 y.a := by
  obtain ⟨m, nl, h1, h3, h2⟩ := ty_slice k Try.underlying30
  refine ⟨nl, h1, h3, rowF_elts h2 (fun x hx => (instr_of (h2 x hx)).1) (fun a => ⟨rfl, rfl⟩), fun y hy => ?_⟩
  obtain ⟨x, hx, rfl⟩ := List.mem_map.1 hy
  exact (instr_of (h2 x hx)).2
theorem func_of (k : HasTy Try.prog n 48 d) : FuncR h (toFunc d) (avs d) ∧ ((avs d).length = 6 ∧ (avs d).all AV.leaf = true) ∧ ∀ y ∈ (toFunc d).code, In64 y.op ∧ In64 y.a := by
  obtain ⟨m, ds, rfl, hl, hx⟩ := ty_struct k Try.underlying48
  match ds, hl, hx with
  | [l, p, r, a, b, c], _, hx =>
    have h0 := (ty_int (hx 0 _ l rfl rfl) Try.underlying45).1
    obtain ⟨n1, h1, k1⟩ := labels_of (h := h) (hx 1 _ p rfl rfl)
    obtain ⟨n2, h2, k2⟩ := labels_of (h := h) (hx 2 _ r rfl rfl)
    have h3 := (ty_int (hx 3 _ a rfl rfl) Try.underlying3).1
    have h4 := (ty_int (hx 4 _ b rfl rfl) Try.underlying3).1
    obtain ⟨n3, h5, -, k3, k4⟩ := code_of (h := h) (hx 5 _ c rfl rfl)
    have e1 : avs (.agg [l, p, r, a, b, c]) = [.int .u64 (dInt l), .ro n1 (elts (dElems p)), .ro n2 (elts (dElems r)), .int .i64 (dInt a), .int .i64 (dInt b), .ro n3 (elts (dElems c))] := by
      simp only [avs, avsAll, h0, h1, h2, h3, h4, h5]; rfl
    rw [e1]
    exact ⟨⟨_, _, _, rfl, k1, k2, k3⟩, ⟨rfl, rfl⟩, k4⟩
theorem funcs_of (k : HasTy Try.prog n 53 d) : ∃ nl, avs d = [.ro nl (elts (dElems d))] ∧ RowR h 6 FuncR (.ro nl (elts (dElems d))) ((dElems d).map toFunc) ∧ ∀ x ∈ (dElems d).map toFunc, ∀ y ∈ x.code, In64 y.op ∧ In64 y.a := by
  obtain ⟨m, nl, h1, -, h2⟩ := ty_slice k Try.underlying53
  refine ⟨nl, h1, rowR_elts h2 (fun x hx => (func_of (h2 x hx)).1) (fun x hx => (func_of (h := .leaf) (h2 x hx)).2.1), fun x hx => ?_⟩
  obtain ⟨z, hz, rfl⟩ := List.mem_map.1 hx
  exact (func_of (h := .leaf) (h2 z hz)).2.2
theorem mod_of (k : HasTy Try.prog n 55 d) : ∃ c, packE d (avs d) = .agg c ∧ ModR h (toMod d) c ∧ ∀ x ∈ (toMod d).funcs, ∀ y ∈ x.code, In64 y.op ∧ In64 y.a := by
  obtain ⟨m, ds, rfl, hl, hx⟩ := ty_struct k Try.underlying55
  match ds, hl, hx with
  | [g, a, c, f], _, hx =>
    obtain ⟨n1, h1, k1⟩ := labels_of (h := h) (hx 0 _ g rfl rfl)
    obtain ⟨n2, h2, k2⟩ := arrs_of (h := h) (hx 1 _ a rfl rfl)
    obtain ⟨n3, h3, k3⟩ := labels_of (h := h) (hx 2 _ c rfl rfl)
    obtain ⟨n4, h4, k4, k5⟩ := funcs_of (h := h) (hx 3 _ f rfl rfl)
    have e1 : avs (.agg [g, a, c, f]) = [.ro n1 (elts (dElems g)), .ro n2 (elts (dElems a)), .ro n3 (elts (dElems c)), .ro n4 (elts (dElems f))] := by
      simp only [avs, avsAll, h1, h2, h3, h4]; rfl
    exact ⟨_, rfl, by rw [e1]; exact ⟨_, _, _, _, rfl, k1, k2, k3, k4⟩, k5⟩
end
end Go.Ab
namespace Go.Proofs.Ytdpdlmjlahehoaa
open Go.ChangeShapes Go.WideShapes Go.ChangeAt Go.RowKit Go.Ab
section
variable {H : Type}
theorem bulk_pos' (d : DataW H) : 1 ≤ Rows.uptoBulk d := by
  cases d with
  | lit l => cases l <;> simp [Rows.uptoBulk]
  | _ => simp [Rows.uptoBulk]
theorem bulk_len' : ∀ (es : List (DataW H)), es.length ≤ Rows.uptoBulkAll es
  | [] => by simp [Rows.uptoBulkAll]
  | d :: r => by
    have h1 := bulk_pos' d
    have h2 := bulk_len' r
    simp only [Rows.uptoBulkAll, List.length_cons]
    omega
theorem bulk_mem' : ∀ (es : List (DataW H)) (x : DataW H), x ∈ es → Rows.uptoBulk x ≤ Rows.uptoBulkAll es
  | d :: r, x, h => by
    simp only [Rows.uptoBulkAll]
    rcases List.mem_cons.1 h with rfl | h
    · omega
    · have := bulk_mem' r x h; omega
theorem elems_len' (d : DataW H) : (dElems d).length ≤ Rows.uptoBulk d := by
  cases d with
  | slice es sp => have := bulk_len' es; simp only [dElems, Rows.uptoBulk]; omega
  | _ => simp [dElems]
theorem elems_mem' (d : DataW H) (x : DataW H) (h : x ∈ dElems d) : Rows.uptoBulk x ≤ Rows.uptoBulk d := by
  cases d with
  | slice es sp => have := bulk_mem' es x h; simp only [Rows.uptoBulk]; omega
  | _ => cases h
theorem func_small (d : DataW H) (h : Rows.uptoBulk d ≤ 2097152) : (toFunc d).small := by
  unfold toFunc
  split
  · rename_i l p r a b c
    simp only [Rows.uptoBulk, Rows.uptoBulkAll] at h
    have h1 := elems_len' p
    have h2 := elems_len' r
    have h3 := elems_len' c
    exact ⟨by simp only [List.length_map]; omega, by simp only [List.length_map]; omega, by simp only [List.length_map]; omega⟩
  · exact ⟨by simp, by simp, by simp⟩
theorem mod_small (d : DataW H) (h : Rows.uptoBulk d ≤ 2097152) : (toMod d).small := by
  unfold toMod
  split
  · rename_i g a c f
    simp only [Rows.uptoBulk, Rows.uptoBulkAll] at h
    have h1 := elems_len' g
    have h2 := elems_len' a
    have h3 := elems_len' c
    have h4 := elems_len' f
    refine ⟨by simp only [List.length_map]; omega, by simp only [List.length_map]; omega, by simp only [List.length_map]; omega, by simp only [List.length_map]; omega, fun x hx => ?_⟩
    obtain ⟨y, hy, rfl⟩ := List.mem_map.1 hx
    have := elems_mem' f y hy
    exact func_small y (by omega)
  · exact ⟨by simp, by simp, by simp, by simp, fun x hx => by cases hx⟩
end
end Go.Proofs.Ytdpdlmjlahehoaa
namespace Go.Proofs.Ytdpdlmjlahehoaa
open Go.ChangeShapes Go.WideShapes Go.ChangeAt Go.RowKit Go.Ab
section
open Go.Ab
variable {H : Type} {n : Nat} {d : DataW H}
theorem int_pack (k : HasTy Try.prog n 3 d) (hu : Try.prog.underlying 3 = some (.int .i64)) : packE d (avs d) = .int .i64 (dInt d) := by
  cases n with
  | zero => exact k.elim
  | succ n =>
    unfold HasTy at k
    rw [hu] at k
    obtain ⟨m, rfl, -⟩ := k
    simp [avs, packE, dInt]
theorem wf_u64 {a : Int} (h : (Lit.int .u64 a).wf = true) : InU64 a := by
  simp only [Lit.wf, Bool.and_eq_true, decide_eq_true_eq] at h
  have e1 : IntKind.u64.min = 0 := by decide
  have e2 : IntKind.u64.max = 18446744073709551615 := by decide
  rw [e1, e2] at h
  unfold InU64
  omega
theorem labels_in (k : HasTy Try.prog n 46 d) : ∀ l ∈ (dElems d).map dInt, InU64 l := by
  intro l hl
  obtain ⟨x, hx, rfl⟩ := List.mem_map.1 hl
  obtain ⟨m, nl, -, -, h2⟩ := ty_slice k Try.underlying46
  exact wf_u64 (ty_int (h2 x hx) Try.underlying45).2
theorem lab_in (k : HasTy Try.prog n 48 d) : LabIn (toFunc d) := by
  obtain ⟨m, ds, rfl, hl, hx⟩ := ty_struct k Try.underlying48
  match ds, hl, hx with
  | [l, p, r, a, b, c], _, hx =>
    exact ⟨wf_u64 (ty_int (hx 0 _ l rfl rfl) Try.underlying45).2, labels_in (hx 1 _ p rfl rfl), labels_in (hx 2 _ r rfl rfl)⟩
theorem labs_in (k : HasTy Try.prog n 55 d) : ∀ x ∈ (toMod d).funcs, LabIn x := by
  obtain ⟨m, ds, rfl, hl, hx⟩ := ty_struct k Try.underlying55
  match ds, hl, hx with
  | [g, a, c, f], _, hx =>
    intro x hx'
    obtain ⟨m2, nl, -, -, h2⟩ := ty_slice (hx 3 _ f rfl rfl) Try.underlying53
    obtain ⟨y, hy, rfl⟩ := List.mem_map.1 hx'
    exact lab_in (h2 y hy)
end
theorem linkBinds_own : ownKnob Try.prog.godebug = none := by kernel_rfl
theorem plain55' : Plain Try.prog 10 55 = true := by kernel_rfl
theorem plain3 : Plain Try.prog 10 3 = true := by kernel_rfl
set_option maxRecDepth 100000 in
theorem linkBinds_walk {H : Type} {enc : TypeId × Value → H} {W : World} {base : Nat} {v v1 v2 : Value} {d d1 d2 : DataW H} {ps p1 p2 : List MemPlace} (hval : Value.okWide Try.prog W .any base 55 v) (hval1 : Value.okWide Try.prog W .any base 3 v1) (hval2 : Value.okWide Try.prog W .any base 3 v2)
    (h : DataW.Trod enc Try.prog W 0 (fun _ => true) true 55 v d ps) (h1 : DataW.Trod enc Try.prog W 0 (fun _ => true) true 3 v1 d1 p1) (h2 : DataW.Trod enc Try.prog W 0 (fun _ => true) true 3 v2 d2 p2) (hb : Rows.uptoBulk d ≤ 1048576) :
    Calls Try.prog 7 #[v, v1, v2] W fun e w' => e = .returned (.bool true) ∧ Below W.heap.size W w' := by
  obtain ⟨fuel, hf⟩ := h
  obtain ⟨fuel1, hf1⟩ := h1
  obtain ⟨fuel2, hf2⟩ := h2
  have hr := read_ok (ρ := fun _ _ => none) fuel 55 _ _ hf 10 plain55'
  have hr1 := read_ok (ρ := fun _ _ => none) fuel1 3 _ _ hf1 10 plain3
  have hr2 := read_ok (ρ := fun _ _ => none) fuel2 3 _ _ hf2 10 plain3
  obtain ⟨c, e1, k1, -⟩ := mod_of (h := .leaf) hr.1
  have hv := packE_vr hr hval
  have hv1 := packE_vr hr1 hval1
  have hv2 := packE_vr hr2 hval2
  rw [e1] at hv
  rw [int_pack hr1.1 Try.underlying3] at hv1
  rw [int_pack hr2.1 Try.underlying3] at hv2
  exact run_ok prog_mixed tt_ok prog_ng kt_ok (linkBinds_run zero_ok (mod_small d (by omega)) k1 (labs_in hr.1)) (CR.cons hv (CR.cons hv1 (CR.sole hv2)))
set_option maxRecDepth 100000 in
theorem linkBinds_contract (H : Type) (enc : TypeId × Value → H) (W : World) (base : Nat) (args : Array Value) (ds gs : List (DataW H)) (before : List MemPlace)
    (hval : ∀ (j : Nat) t v, Try.f7.params[j]? = some t → args[j]? = some v → Value.okWide Try.prog W .any base t v)
    (hW : DataW.Whole enc Try.prog Try.f7.params.toList Rows.linkBindsSpec.vars false W args.toList ds gs before) (hk : Rows.uptoSmall H (ds ++ gs) = true) :
    Calls Try.prog 7 args W fun e W' => ∃ v, e = .returned v ∧ Rows.linkBindsSpec.post enc Try.prog Try.f7 false true false false W args v W' := by
  have hW' := hW
  have hlt := hW.lt
  obtain ⟨p, q, hA0, hV, rfl, hfz, hnd⟩ := hW
  have hA : DataW.TrodAll enc Try.prog W 0 (fun _ => true) true Try.f7.params.toList args.toList ds p := hA0
  rw [Try.params7] at hA hval
  obtain ⟨v0, vs0, d0, ds0, p0, q0, hargs, rfl, rfl, h0, r0⟩ := trodAll_cons hA
  obtain ⟨v1, vs1, d1, ds1, p1, q1, rfl, rfl, rfl, h1, r1⟩ := trodAll_cons r0
  obtain ⟨v2, vs2, d2, ds2, p2, q2, rfl, rfl, rfl, h2, r2⟩ := trodAll_cons r1
  obtain ⟨rfl, rfl, rfl⟩ := trodAll_nil r2
  obtain rfl : args = #[v0, v1, v2] := by cases args; simp_all
  obtain ⟨rfl, rfl⟩ := trodVars_none hV
  clear hA0
  simp only [List.append_nil] at hW' hlt
  have hb := of_decide_eq_true hk
  simp only [List.append_nil, Rows.uptoBulkAll] at hb
  refine (linkBinds_walk (hval 0 55 v0 rfl rfl) (hval 1 3 v1 rfl rfl) (hval 2 3 v2 rfl rfl) h0 h1 h2 (by omega)).mono fun e W' ⟨he, bel⟩ => ?_
  subst he
  exact ⟨_, rfl, _, _, _, [], _, [], hW', trodAll_mk1 (shut_bool Try.underlying4 _), trodAll_cons_mk (Below.trod (by kernel_rfl) (by kernel_rfl) (of_decide_eq_true (by kernel_rfl)) h0 bel (fun x hx => hlt x (List.mem_append.2 (.inl hx))))
    (trodAll_cons_mk (Below.trod (by kernel_rfl) (by kernel_rfl) (of_decide_eq_true (by kernel_rfl)) h1 bel (fun x hx => hlt x (List.mem_append.2 (.inr (List.mem_append.2 (.inl hx))))))
      (trodAll_cons_mk (Below.trod (by kernel_rfl) (by kernel_rfl) (of_decide_eq_true (by kernel_rfl)) h2 bel (fun x hx => hlt x (List.mem_append.2 (.inr (List.mem_append.2 (.inr hx)))))) trodAll_mk0)), rfl, bel.frame _, fun h => by cases h⟩
set_option maxRecDepth 100000 in
theorem linkBinds_lifted (os : Os) (started : os.Started) (H : Type) (enc : TypeId × Value → H) (F : Stop.Interp) :
    ReturnsInHanded {} Try.checked os 7 .any ((Rows.OpenSpec.upto Rows.linkBindsSpec).pre6 enc Try.prog Try.f7 Rows.linkBindsUptoRow.domain false) (((Rows.OpenSpec.upto Rows.linkBindsSpec).at F).post enc Try.prog Try.f7 false true false false) := by
  refine returnsInHanded_of_cond (C := Try.checked) (s := Rows.OpenSpec.upto Rows.linkBindsSpec) (k := Rows.uptoSmall) rfl linkBinds_own started (by kernel_rfl) Try.func7
    (OpenSpec.witness (enc := enc) (C := Try.checked) (s := Rows.OpenSpec.upto Rows.linkBindsSpec) (k := Rows.uptoSmall) rfl false ⟨#[], #[.agg #[.slice none 0 0, .slice none 0 0, .slice none 0 0, .slice none 0 0], .int .i64 0, .int .i64 0], []⟩ 8 (by kernel_rfl) (by kernel_rfl) (by kernel_rfl)
      (x := ([.agg [.nil, .nil, .nil, .nil], .lit (.int .i64 0), .lit (.int .i64 0)], [], [])) (by kernel_rfl) rfl (by kernel_rfl)) ?_
  intro W base args ds gs before hval hW _ hk _
  exact linkBinds_contract H enc W base args ds gs before hval hW hk
theorem linkBindsUpto_holds : Rows.LinkBindsUptoSaid :=
  OpenClaim.holds_of_cond 7 Try.f7 rfl rfl rfl rfl rfl rfl rfl ⟨rfl, rfl, rfl, rfl, rfl⟩ rfl rfl rfl rfl rfl (by kernel_rfl) Try.func7 (by kernel_rfl)
    (of_decide_eq_true (by kernel_rfl)) (by unfold Func.isWrapper; first | (rw [if_pos (by decide +kernel)]; kernel_rfl) | (rw [if_neg (by decide +kernel)]; exact ⟨rfl, rfl⟩))
    (fun os started H enc _ F => linkBinds_lifted os started H enc F)
end Go.Proofs.Ytdpdlmjlahehoaa
