/- Parts of one proof, put together: D15 D17 D24 H18 H19 D25 H20 H21. -/
import Derived.Test.YtdpdlmjlahehoaaLinkTwo4
/- Shape: whole modules, the document's way; is a module right? -/
namespace Go.Ab
open Go.Proofs
section
variable {mm : ModL} {x : FuncL} {f : Nat}
theorem funP_hd {e : Int} (h : mm.funcs[f]? = some x) (he : headE x = e) (hn : ¬ e = 0) : funP mm f = some (e, ((f : Nat) : Int), -1) := by subst he; exact funP_head h hn
theorem head_74 (h : 8 < x.params.length ∨ 4 < x.results.length ∨ 2048 < x.code.length ∨ 32 < x.locals ∨ 64 < x.stack) : headE x = 74 := if_pos h
theorem head_130 (h : ¬ (8 < x.params.length ∨ 4 < x.results.length ∨ 2048 < x.code.length ∨ 32 < x.locals ∨ 64 < x.stack)) (h1 : x.locals < 0 ∨ x.stack < 0) : headE x = 130 := by unfold headE; rw [if_neg h, if_pos h1]
theorem head_132 (h : ¬ (8 < x.params.length ∨ 4 < x.results.length ∨ 2048 < x.code.length ∨ 32 < x.locals ∨ 64 < x.stack)) (h1 : ¬ (x.locals < 0 ∨ x.stack < 0)) (h2 : x.code.length = 0) : headE x = 132 := by unfold headE; rw [if_neg h, if_neg h1, if_pos h2]
theorem head_0 (h : ¬ (8 < x.params.length ∨ 4 < x.results.length ∨ 2048 < x.code.length ∨ 32 < x.locals ∨ 64 < x.stack)) (h1 : ¬ (x.locals < 0 ∨ x.stack < 0)) (h2 : ¬ x.code.length = 0) : headE x = 0 := by unfold headE; rw [if_neg h, if_neg h1, if_neg h2]
theorem ModR.bare {s : St} {m : ModL} {c : List AV} (k : ModR s.h m c) : ModR s.bare.h m c := k
end
set_option maxRecDepth 10000 in
set_option maxHeartbeats 4000000 in
theorem check_ref_ok {s : St} {c : List AV} {mm : ModL} (hok : s.Ok) (hm : mm.small) (hv : ModR s.h mm c) :
    CallS Try.prog Tt Kt 91 [.agg c] s (fun r s' => Keep [] s s' ∧ r = .agg (faultC (checkF mm))) := by
  have hz := hv.leaf.2
  obtain ⟨vg, va, vh, vf, rfl, hvg, hva, hvh, csf, hrf, hlf, hF⟩ := hv
  obtain ⟨hl1, hl3, hl2, hl4, -⟩ := id hm
  refine call_of (fn := Try.f91) (nt := 158) Try.func91 rfl rfl rfl ?_
  repeat refine wc_seq ?_
  refine wc_region ?_
  refine w_box rfl rfl rfl hz hok ?_
  intro s1 hp1 hk1 hc1
  have hK := (Keep.refl hok).two hk1
  have hp : Pt s1.h (.ptr s.ctr 0 0) [vg, va, vh, vf] := hp1
  refine w_alloc rfl rfl rfl rfl hK.ok ?_
  intro s2 hq hk2 hc2
  have hK := hK.two hk2
  have hp := hp.keep0 hk2
  have hq : Pt s2.h (.ptr s1.ctr 0 0) [.int .i64 0, .int .i64 0, .int .i64 0] := hq
  have hsv : va.slen = some mm.arrays.length := hva.slenF
  have hsf : vf.slen = some mm.funcs.length := hrf.slen.trans (congrArg some hlf)
  refine w_nil ?_
  refine then_n ?_
  repeat refine wc_seq ?_
  refine wc_region ?_
  refine w_val rfl rfl (op_fld rfl rfl rfl rfl (by decide) (by assumption) (Nat.le_of_ble_eq_true rfl)) ?_
  refine w_val rfl rfl (op_load rfl rfl (by assumption) rfl) ?_
  refine w_val rfl rfl (op_len rfl rfl rfl rfl rfl (Row.slenF (by assumption))) ?_
  refine w_val rfl rfl (op_pure rfl) ?_
  refine w_val rfl rfl (op_pure rfl) ?_
  refine w_split (i := 13) rfl (fun h13 => ?_) (fun h13 => ?_)
  · simp only [decide_eq_true_eq, gt_iff_lt] at h13
    refine w_off rfl rfl ?_
    refine w_off rfl rfl ?_
    refine w_off rfl rfl ?_
    refine w_off rfl rfl ?_
    refine w_val rfl rfl (op_pure rfl) ?_
    refine w_val rfl rfl (op_pure rfl) ?_
    refine w_off rfl rfl ?_
    refine w_off rfl rfl ?_
    refine w_off rfl rfl ?_
    refine w_off rfl rfl ?_
    refine w_val rfl rfl (op_pure rfl) ?_
    refine w_val rfl rfl (op_pure rfl) ?_
    refine w_off rfl rfl ?_
    refine w_off rfl rfl ?_
    refine w_off rfl rfl ?_
    refine w_off rfl rfl ?_
    refine w_val rfl rfl (op_pure rfl) ?_
    refine w_nil ?_
    refine then_n ?_
    repeat refine wc_seq ?_
    refine wc_cond_t rfl ?_
    repeat refine wc_seq ?_
    refine wc_region ?_
    refine w_val rfl rfl (op_pure rfl) ?_
    refine w_store_all (old := [.int .i64 0, .int .i64 0, .int .i64 0]) rfl rfl rfl rfl rfl (by rfl) rfl hK.ok hq (by simp [AV.gs]) ?_
    intro sq hq' hkq hcq
    have hq : Pt sq.h (.ptr s1.ctr 0 0) [.int .i64 74, .int .i64 (-1), .int .i64 0] := hq'
    have hK := hK.fresh hkq (fun g hg => by rw [List.mem_singleton.1 hg]; have := hk1.ctr; omega)
    refine w_nil ?_
    refine then_n ?_
    refine wc_ret ?_
    repeat first | refine then_r ?_ | refine out_r ?_ | refine round_r ?_ | refine cut_r ?_ | refine sc_r ?_
    exact ⟨_, res_cell rfl rfl hq rfl, hK, congrArg (fun r => AV.agg (faultC r)) (chk_many (by omega)).symm⟩
  simp only [decide_eq_false_iff_not, gt_iff_lt] at h13
  refine w_val rfl rfl (op_fld rfl rfl rfl rfl (by decide) (by assumption) (Nat.le_of_ble_eq_true rfl)) ?_
  refine w_val rfl rfl (op_load rfl rfl (Pt.fld (by assumption) _ (Nat.le_of_ble_eq_true rfl)) rfl) ?_
  refine w_val rfl rfl (op_len rfl rfl rfl rfl rfl (by assumption)) ?_
  refine w_val rfl rfl (op_pure rfl) ?_
  refine w_val rfl rfl (op_pure rfl) ?_
  refine w_val rfl rfl (op_pure rfl) ?_
  refine w_split (i := 19) rfl (fun h19 => ?_) (fun h19 => ?_)
  · simp only [decide_eq_true_eq, gt_iff_lt] at h19
    refine w_off rfl rfl ?_
    refine w_off rfl rfl ?_
    refine w_off rfl rfl ?_
    refine w_off rfl rfl ?_
    refine w_val rfl rfl (op_pure rfl) ?_
    refine w_val rfl rfl (op_pure rfl) ?_
    refine w_off rfl rfl ?_
    refine w_off rfl rfl ?_
    refine w_off rfl rfl ?_
    refine w_off rfl rfl ?_
    refine w_val rfl rfl (op_pure rfl) ?_
    refine w_nil ?_
    refine then_n ?_
    repeat refine wc_seq ?_
    refine wc_cond_t rfl ?_
    repeat refine wc_seq ?_
    refine wc_region ?_
    refine w_val rfl rfl (op_pure rfl) ?_
    refine w_store_all (old := [.int .i64 0, .int .i64 0, .int .i64 0]) rfl rfl rfl rfl rfl (by rfl) rfl hK.ok hq (by simp [AV.gs]) ?_
    intro sq hq' hkq hcq
    have hq : Pt sq.h (.ptr s1.ctr 0 0) [.int .i64 74, .int .i64 (-1), .int .i64 0] := hq'
    have hK := hK.fresh hkq (fun g hg => by rw [List.mem_singleton.1 hg]; have := hk1.ctr; omega)
    refine w_nil ?_
    refine then_n ?_
    refine wc_ret ?_
    repeat first | refine then_r ?_ | refine out_r ?_ | refine round_r ?_ | refine cut_r ?_ | refine sc_r ?_
    exact ⟨_, res_cell rfl rfl hq rfl, hK, congrArg (fun r => AV.agg (faultC r)) (chk_many (by omega)).symm⟩
  simp only [decide_eq_false_iff_not, gt_iff_lt] at h19
  refine w_val rfl rfl (op_fld rfl rfl rfl rfl (by decide) (by assumption) (Nat.le_of_ble_eq_true rfl)) ?_
  refine w_val rfl rfl (op_load rfl rfl (Pt.fld (by assumption) _ (Nat.le_of_ble_eq_true rfl)) rfl) ?_
  refine w_val rfl rfl (op_len rfl rfl rfl rfl rfl (Row.slenF (by assumption))) ?_
  refine w_val rfl rfl (op_pure rfl) ?_
  refine w_val rfl rfl (op_pure rfl) ?_
  refine w_val rfl rfl (op_pure rfl) ?_
  refine w_split (i := 25) rfl (fun h25 => ?_) (fun h25 => ?_)
  · simp only [decide_eq_true_eq, gt_iff_lt] at h25
    refine w_off rfl rfl ?_
    refine w_off rfl rfl ?_
    refine w_off rfl rfl ?_
    refine w_off rfl rfl ?_
    refine w_val rfl rfl (op_pure rfl) ?_
    refine w_nil ?_
    refine then_n ?_
    repeat refine wc_seq ?_
    refine wc_cond_t rfl ?_
    repeat refine wc_seq ?_
    refine wc_region ?_
    refine w_val rfl rfl (op_pure rfl) ?_
    refine w_store_all (old := [.int .i64 0, .int .i64 0, .int .i64 0]) rfl rfl rfl rfl rfl (by rfl) rfl hK.ok hq (by simp [AV.gs]) ?_
    intro sq hq' hkq hcq
    have hq : Pt sq.h (.ptr s1.ctr 0 0) [.int .i64 74, .int .i64 (-1), .int .i64 0] := hq'
    have hK := hK.fresh hkq (fun g hg => by rw [List.mem_singleton.1 hg]; have := hk1.ctr; omega)
    refine w_nil ?_
    refine then_n ?_
    refine wc_ret ?_
    repeat first | refine then_r ?_ | refine out_r ?_ | refine round_r ?_ | refine cut_r ?_ | refine sc_r ?_
    exact ⟨_, res_cell rfl rfl hq rfl, hK, congrArg (fun r => AV.agg (faultC r)) (chk_many (by omega)).symm⟩
  simp only [decide_eq_false_iff_not, gt_iff_lt] at h25
  refine w_val rfl rfl (op_fld rfl rfl rfl rfl (by decide) (by assumption) (Nat.le_of_ble_eq_true rfl)) ?_
  refine w_val rfl rfl (op_load rfl rfl (Pt.fld (by assumption) _ (Nat.le_of_ble_eq_true rfl)) rfl) ?_
  refine w_val rfl rfl (op_len rfl rfl rfl rfl rfl (by assumption)) ?_
  refine w_val rfl rfl (op_pure rfl) ?_
  refine w_val rfl rfl (op_pure rfl) ?_
  refine w_nil ?_
  refine then_n ?_
  repeat refine wc_seq ?_
  refine wc_condT rfl (fun h30 => ?_) (fun h30 => ?_)
  · simp only [decide_eq_true_eq, gt_iff_lt] at h30
    repeat refine wc_seq ?_
    refine wc_region ?_
    refine w_val rfl rfl (op_pure rfl) ?_
    refine w_store_all (old := [.int .i64 0, .int .i64 0, .int .i64 0]) rfl rfl rfl rfl rfl (by rfl) rfl hK.ok hq (by simp [AV.gs]) ?_
    intro sq hq' hkq hcq
    have hq : Pt sq.h (.ptr s1.ctr 0 0) [.int .i64 74, .int .i64 (-1), .int .i64 0] := hq'
    have hK := hK.fresh hkq (fun g hg => by rw [List.mem_singleton.1 hg]; have := hk1.ctr; omega)
    refine w_nil ?_
    refine then_n ?_
    refine wc_ret ?_
    repeat first | refine then_r ?_ | refine out_r ?_ | refine round_r ?_ | refine cut_r ?_ | refine sc_r ?_
    exact ⟨_, res_cell rfl rfl hq rfl, hK, congrArg (fun r => AV.agg (faultC r)) (chk_many (by omega)).symm⟩
  simp only [decide_eq_false_iff_not, gt_iff_lt] at h30
  refine wc_skip ?_
  refine then_n ?_
  repeat refine wc_seq ?_
  have hmany : ¬ (32 < mm.globals.length ∨ 16 < mm.arrays.length ∨ 16 < mm.channels.length ∨ 32 < mm.funcs.length) := by omega
  refine wc_region ?_
  refine w_val rfl rfl (op_pure rfl) ?_
  refine w_nil ?_
  refine then_n ?_
  repeat refine wc_seq ?_
  refine wc_block ?_
  refine wc_loop_at (fun j m sI => ∃ (i : Nat), j = mm.arrays.length - i ∧ i ≤ mm.arrays.length ∧ m = [(1, .ptr s.ctr 0 0), (2, .ptr s1.ctr 0 0), (3, .int .i64 (i : Nat))] ∧ Keep [] s sI ∧ s2.ctr ≤ sI.ctr ∧ Pt sI.h (.ptr s.ctr 0 0) [vg, va, vh, vf] ∧ Pt sI.h (.ptr s1.ctr 0 0) [.int .i64 0, .int .i64 0, .int .i64 0] ∧ fo (arrP mm) i = none) mm.arrays.length
    [(1, .ptr s.ctr 0 0), (2, .ptr s1.ctr 0 0), (3, .int .i64 ((0 : Nat) : Int))] (Sub.cons rfl (Sub.cons rfl (Sub.cons rfl (Sub.nil _)))) ⟨0, by simp, by simp, rfl, hK, Nat.le_refl _, hp, hq, rfl⟩ ?_
  clear hK hp hq
  rintro j m s3 ⟨i, rfl, hi, rfl, hK, hcI, hp, hq, hfo⟩
  repeat refine wc_seq ?_
  refine wc_region ?_
  refine w_val rfl rfl (op_pure rfl) ?_
  refine w_val rfl rfl (op_fld rfl rfl rfl rfl (by decide) (by assumption) (Nat.le_of_ble_eq_true rfl)) ?_
  refine w_val rfl rfl (op_load rfl rfl (Pt.fld (by assumption) _ (Nat.le_of_ble_eq_true rfl)) rfl) ?_
  refine w_val rfl rfl (op_len rfl rfl rfl rfl rfl (by assumption)) ?_
  refine w_val rfl rfl (op_pure rfl) ?_
  refine w_nil ?_
  refine then_n ?_
  repeat refine wc_seq ?_
  refine wc_condT rfl (fun h36 => ?_) (fun h36 => ?_)
  · simp only [decide_eq_true_eq] at h36
    refine wc_skip ?_
    refine then_n ?_
    repeat refine wc_seq ?_
    refine wc_block ?_
    repeat refine wc_seq ?_
    obtain ⟨a, ha⟩ : ∃ x, mm.arrays[i]? = some x := ⟨_, List.getElem?_eq_getElem (by omega)⟩
    have hi' : i < mm.arrays.length := by omega
    refine wc_region ?_
    refine w_val rfl rfl (op_fld rfl rfl rfl rfl (by decide) (by assumption) (Nat.le_of_ble_eq_true rfl)) ?_
    refine w_val rfl rfl (op_load rfl rfl (Pt.fld (by assumption) _ (Nat.le_of_ble_eq_true rfl)) rfl) ?_
    refine w_val rfl rfl (op_pure rfl) ?_
    refine w_val rfl rfl (op_idxF rfl rfl (natA_cast _ _) rfl rfl rfl rfl (Row.keep0 (by assumption) hK) (by omega)) ?_
    refine w_val rfl rfl (op_fld rfl rfl rfl rfl (by decide) (Pt.keep0 (Row.mk_pt (by assumption) (by assumption)) hK) (Nat.le_of_ble_eq_true rfl)) ?_
    refine w_val rfl rfl (op_load rfl rfl (Pt.fld (Pt.keep0 (Row.mk_pt (by assumption) (by assumption)) hK) _ (Nat.le_of_ble_eq_true rfl)) rfl) ?_
    refine w_val rfl rfl (op_pure rfl) ?_
    refine w_val rfl rfl (op_pure rfl) ?_
    refine w_split (i := 46) rfl (fun h46 => ?_) (fun h46 => ?_)
    · simp only [decide_eq_true_eq] at h46
      refine w_off rfl rfl ?_
      refine w_off rfl rfl ?_
      refine w_off rfl rfl ?_
      refine w_off rfl rfl ?_
      refine w_off rfl rfl ?_
      refine w_off rfl rfl ?_
      refine w_off rfl rfl ?_
      refine w_val rfl rfl (op_pure rfl) ?_
      refine w_nil ?_
      refine then_n ?_
      refine wc_cond_t rfl ?_
      repeat refine wc_seq ?_
      refine wc_region ?_
      refine w_val rfl rfl (op_pure rfl) ?_
      refine w_val rfl rfl (op_pure rfl) ?_
      refine w_store_all (old := [.int .i64 0, .int .i64 0, .int .i64 0]) rfl rfl rfl rfl rfl (by rfl) rfl hK.ok hq (by simp [AV.gs]) ?_
      intro sq hq' hkq hcq
      have hq : Pt sq.h (.ptr s1.ctr 0 0) [.int .i64 130, .int .i64 (-1), .int .i64 (i : Nat)] := hq'
      have hK := hK.fresh hkq (fun g hg => by rw [List.mem_singleton.1 hg]; have := hk1.ctr; omega)
      refine w_nil ?_
      refine then_n ?_
      refine wc_ret ?_
      repeat first | refine then_r ?_ | refine out_r ?_ | refine round_r ?_ | refine cut_r ?_ | refine sc_r ?_
      exact ⟨_, res_cell rfl rfl hq rfl, hK, congrArg (fun r => AV.agg (faultC r)) (chk_arr hmany (fo_hit hfo (arrP_bad ha (by omega)) hi')).symm⟩
    simp only [decide_eq_false_iff_not] at h46
    refine w_val rfl rfl (op_fld rfl rfl rfl rfl (by decide) (by assumption) (Nat.le_of_ble_eq_true rfl)) ?_
    refine w_val rfl rfl (op_load rfl rfl (Pt.fld (by assumption) _ (Nat.le_of_ble_eq_true rfl)) rfl) ?_
    refine w_val rfl rfl (op_pure rfl) ?_
    refine w_val rfl rfl (op_idxF rfl rfl (natA_cast _ _) rfl rfl rfl rfl (Row.keep0 (by assumption) hK) (by omega)) ?_
    refine w_val rfl rfl (op_fld rfl rfl rfl rfl (by decide) (Pt.keep0 (Row.mk_pt (by assumption) (by assumption)) hK) (Nat.le_of_ble_eq_true rfl)) ?_
    refine w_val rfl rfl (op_load rfl rfl (Pt.fld (Pt.keep0 (Row.mk_pt (by assumption) (by assumption)) hK) _ (Nat.le_of_ble_eq_true rfl)) rfl) ?_
    refine w_val rfl rfl (op_pure rfl) ?_
    refine w_val rfl rfl (op_pure rfl) ?_
    refine w_nil ?_
    refine then_n ?_
    refine wc_condT rfl (fun h54 => ?_) (fun h54 => ?_)
    · simp only [decide_eq_true_eq, gt_iff_lt] at h54
      repeat refine wc_seq ?_
      refine wc_region ?_
      refine w_val rfl rfl (op_pure rfl) ?_
      refine w_val rfl rfl (op_pure rfl) ?_
      refine w_store_all (old := [.int .i64 0, .int .i64 0, .int .i64 0]) rfl rfl rfl rfl rfl (by rfl) rfl hK.ok hq (by simp [AV.gs]) ?_
      intro sq hq' hkq hcq
      have hq : Pt sq.h (.ptr s1.ctr 0 0) [.int .i64 130, .int .i64 (-1), .int .i64 (i : Nat)] := hq'
      have hK := hK.fresh hkq (fun g hg => by rw [List.mem_singleton.1 hg]; have := hk1.ctr; omega)
      refine w_nil ?_
      refine then_n ?_
      refine wc_ret ?_
      repeat first | refine then_r ?_ | refine out_r ?_ | refine round_r ?_ | refine cut_r ?_ | refine sc_r ?_
      exact ⟨_, res_cell rfl rfl hq rfl, hK, congrArg (fun r => AV.agg (faultC r)) (chk_arr hmany (fo_hit hfo (arrP_bad ha (by omega)) hi')).symm⟩
    simp only [decide_eq_false_iff_not, gt_iff_lt] at h54
    refine wc_skip ?_
    refine out_n ?_
    refine then_n ?_
    refine wc_region ?_
    refine w_val rfl rfl (op_pure rfl) ?_
    refine w_val rfl rfl (op_add rfl rfl (by unfold In64; omega)) ?_
    refine w_val rfl rfl (op_pure rfl) ?_
    refine w_nil ?_
    exact round_n _ _ (by omega) (Sub.cons rfl (Sub.cons rfl (Sub.cons rfl (Sub.nil _)))) ⟨i + 1, rfl, by omega, rfl, hK, by omega, hp, hq, fo_next hfo (arrP_ok ha (by omega))⟩
  simp only [decide_eq_false_iff_not] at h36
  obtain rfl : i = mm.arrays.length := by omega
  refine wc_exit ?_
  repeat first | refine then_x ?_ | refine round_x ?_ | refine cut_x ?_ | refine out_x' (by decide) ?_
  refine out_x ?_
  refine then_n ?_
  repeat refine wc_seq ?_
  refine wc_region ?_
  refine w_val rfl rfl (op_pure rfl) ?_
  refine w_nil ?_
  refine then_n ?_
  repeat refine wc_seq ?_
  refine wc_block ?_
  refine wc_loop_at (fun j m sI => ∃ (f : Nat), j = mm.funcs.length - f ∧ f ≤ mm.funcs.length ∧ m = [(1, .ptr s.ctr 0 0), (2, .ptr s1.ctr 0 0), (4, .int .i64 (f : Nat))] ∧ Keep [] s sI ∧ s2.ctr ≤ sI.ctr ∧ Pt sI.h (.ptr s.ctr 0 0) [vg, va, vh, vf] ∧ Pt sI.h (.ptr s1.ctr 0 0) [.int .i64 0, .int .i64 0, .int .i64 0] ∧ fo (funP mm) f = none) mm.funcs.length
    [(1, .ptr s.ctr 0 0), (2, .ptr s1.ctr 0 0), (4, .int .i64 ((0 : Nat) : Int))] (Sub.cons rfl (Sub.cons rfl (Sub.cons rfl (Sub.nil _)))) ⟨0, by simp, by simp, rfl, hK, hcI, hp, hq, rfl⟩ ?_
  clear hK hp hq hcI
  rintro j m s6 ⟨f, rfl, hf, rfl, hK, hcI, hp, hq, hff⟩
  repeat refine wc_seq ?_
  refine wc_region ?_
  refine w_val rfl rfl (op_pure rfl) ?_
  refine w_val rfl rfl (op_fld rfl rfl rfl rfl (by decide) (by assumption) (Nat.le_of_ble_eq_true rfl)) ?_
  refine w_val rfl rfl (op_load rfl rfl (Pt.fld (by assumption) _ (Nat.le_of_ble_eq_true rfl)) rfl) ?_
  refine w_val rfl rfl (op_len rfl rfl rfl rfl rfl (by assumption)) ?_
  refine w_val rfl rfl (op_pure rfl) ?_
  refine w_nil ?_
  refine then_n ?_
  repeat refine wc_seq ?_
  refine wc_condT rfl (fun h61 => ?_) (fun h61 => ?_)
  · simp only [decide_eq_true_eq] at h61
    refine wc_skip ?_
    refine then_n ?_
    repeat refine wc_seq ?_
    refine wc_block ?_
    repeat refine wc_seq ?_
    obtain ⟨x, hx⟩ : ∃ x, mm.funcs[f]? = some x := ⟨_, List.getElem?_eq_getElem (by omega)⟩
    have hf' : f < mm.funcs.length := by omega
    obtain ⟨cx, hcx⟩ : ∃ c, csf[f]? = some c := ⟨_, List.getElem?_eq_getElem (by omega)⟩
    have hfx := hF f x cx hx hcx
    have hzx := hfx.leaf.2
    obtain ⟨vp, vr, vc, rfl, hvp, hvr, hvc⟩ := hfx
    have hsx := hm.2.2.2.2 x (List.mem_of_getElem? hx)
    have hx3 := hsx.2.2
    have hsc : vc.slen = some x.code.length := hvc.slenF
    refine wc_region ?_
    refine w_val rfl rfl (op_fld rfl rfl rfl rfl (by decide) (by assumption) (Nat.le_of_ble_eq_true rfl)) ?_
    refine w_val rfl rfl (op_load rfl rfl (Pt.fld (by assumption) _ (Nat.le_of_ble_eq_true rfl)) rfl) ?_
    refine w_val rfl rfl (op_pure rfl) ?_
    refine w_val rfl rfl (op_idx rfl rfl (natA_cast _ _) rfl rfl rfl rfl (Row.keep0 (by assumption) hK) (by omega)) ?_
    refine w_val rfl rfl (op_load rfl rfl (Pt.keep0 (Row.pt (by assumption) (by assumption)) hK) rfl) ?_
    refine w_alloc rfl rfl rfl rfl hK.ok ?_
    intro s7 hv7 hk7 hc7
    have hK := hK.two hk7
    have hp := hp.keep0 hk7
    have hq := hq.keep0 hk7
    refine w_store_all rfl rfl rfl rfl rfl (by rfl) hzx hK.ok hv7 (by simp [AV.gs]) ?_
    intro s8 hv8 hk8 hc8
    have hw : Pt s8.h (.ptr s6.ctr 0 0) [.int .u64 x.level, vp, vr, .int .i64 x.locals, .int .i64 x.stack, vc] := hv8
    have hbelow := hK.ctr
    have hK := hK.fresh hk8 (fun g hg => by rw [List.mem_singleton.1 hg]; omega)
    have hp := hp.keep hk8 (fun g hg h => by rw [List.mem_singleton.1 hg] at h; have := List.mem_singleton.1 h; omega)
    have hq := hq.keep hk8 (fun g hg h => by rw [List.mem_singleton.1 hg] at h; have := List.mem_singleton.1 h; omega)
    refine w_nil ?_
    refine then_n ?_
    repeat refine wc_seq ?_
    refine wc_region ?_
    refine w_val rfl rfl (op_fld rfl rfl rfl rfl (by decide) (by assumption) (Nat.le_of_ble_eq_true rfl)) ?_
    refine w_val rfl rfl (op_load rfl rfl (Pt.fld (by assumption) _ (Nat.le_of_ble_eq_true rfl)) rfl) ?_
    refine w_val rfl rfl (op_len rfl rfl rfl rfl rfl (by assumption)) ?_
    refine w_val rfl rfl (op_pure rfl) ?_
    refine w_nil ?_
    refine then_n ?_
    repeat refine wc_seq ?_
    refine wc_region ?_
    refine w_val rfl rfl (op_fld rfl rfl rfl rfl (by decide) (by assumption) (Nat.le_of_ble_eq_true rfl)) ?_
    refine w_val rfl rfl (op_load rfl rfl (Pt.fld (by assumption) _ (Nat.le_of_ble_eq_true rfl)) rfl) ?_
    refine w_val rfl rfl (op_len rfl rfl rfl rfl rfl (Row.slenF (by assumption))) ?_
    refine w_val rfl rfl (op_pure rfl) ?_
    refine w_val rfl rfl (op_pure rfl) ?_
    refine w_split (i := 76) rfl (fun h76 => ?_) (fun h76 => ?_)
    · simp only [decide_eq_true_eq, gt_iff_lt] at h76
      refine w_off rfl rfl ?_
      refine w_off rfl rfl ?_
      refine w_off rfl rfl ?_
      refine w_off rfl rfl ?_
      refine w_val rfl rfl (op_pure rfl) ?_
      refine w_val rfl rfl (op_pure rfl) ?_
      refine w_off rfl rfl ?_
      refine w_off rfl rfl ?_
      refine w_val rfl rfl (op_pure rfl) ?_
      refine w_val rfl rfl (op_pure rfl) ?_
      refine w_off rfl rfl ?_
      refine w_off rfl rfl ?_
      refine w_off rfl rfl ?_
      refine w_val rfl rfl (op_pure rfl) ?_
      refine w_val rfl rfl (op_pure rfl) ?_
      refine w_off rfl rfl ?_
      refine w_off rfl rfl ?_
      refine w_off rfl rfl ?_
      refine w_val rfl rfl (op_pure rfl) ?_
      refine w_nil ?_
      refine then_n ?_
      repeat refine wc_seq ?_
      refine wc_cond_t rfl ?_
      repeat refine wc_seq ?_
      refine wc_region ?_
      refine w_val rfl rfl (op_pure rfl) ?_
      refine w_val rfl rfl (op_pure rfl) ?_
      refine w_store_all (old := [.int .i64 0, .int .i64 0, .int .i64 0]) rfl rfl rfl rfl rfl (by rfl) rfl hK.ok hq (by simp [AV.gs]) ?_
      intro sq hq' hkq hcq
      have hq : Pt sq.h (.ptr s1.ctr 0 0) [.int .i64 74, .int .i64 (f : Nat), .int .i64 (-1)] := hq'
      have hK := hK.fresh hkq (fun g hg => by rw [List.mem_singleton.1 hg]; have := hk1.ctr; omega)
      refine w_nil ?_
      refine then_n ?_
      refine wc_ret ?_
      repeat first | refine then_r ?_ | refine out_r ?_ | refine round_r ?_ | refine cut_r ?_ | refine sc_r ?_
      exact ⟨_, res_cell rfl rfl hq rfl, hK, congrArg (fun r => AV.agg (faultC r)) (chk_fun hmany hfo (fo_hit hff (funP_hd hx (head_74 (by omega)) (by decide)) hf')).symm⟩
    simp only [decide_eq_false_iff_not, gt_iff_lt] at h76
    refine w_val rfl rfl (op_fld rfl rfl rfl rfl (by decide) (by assumption) (Nat.le_of_ble_eq_true rfl)) ?_
    refine w_val rfl rfl (op_load rfl rfl (Pt.fld (by assumption) _ (Nat.le_of_ble_eq_true rfl)) rfl) ?_
    refine w_val rfl rfl (op_len rfl rfl rfl rfl rfl (Row.slenF (by assumption))) ?_
    refine w_val rfl rfl (op_pure rfl) ?_
    refine w_val rfl rfl (op_pure rfl) ?_
    refine w_val rfl rfl (op_pure rfl) ?_
    refine w_split (i := 82) rfl (fun h82 => ?_) (fun h82 => ?_)
    · simp only [decide_eq_true_eq, gt_iff_lt] at h82
      refine w_off rfl rfl ?_
      refine w_off rfl rfl ?_
      refine w_val rfl rfl (op_pure rfl) ?_
      refine w_val rfl rfl (op_pure rfl) ?_
      refine w_off rfl rfl ?_
      refine w_off rfl rfl ?_
      refine w_off rfl rfl ?_
      refine w_val rfl rfl (op_pure rfl) ?_
      refine w_val rfl rfl (op_pure rfl) ?_
      refine w_off rfl rfl ?_
      refine w_off rfl rfl ?_
      refine w_off rfl rfl ?_
      refine w_val rfl rfl (op_pure rfl) ?_
      refine w_nil ?_
      refine then_n ?_
      repeat refine wc_seq ?_
      refine wc_cond_t rfl ?_
      repeat refine wc_seq ?_
      refine wc_region ?_
      refine w_val rfl rfl (op_pure rfl) ?_
      refine w_val rfl rfl (op_pure rfl) ?_
      refine w_store_all (old := [.int .i64 0, .int .i64 0, .int .i64 0]) rfl rfl rfl rfl rfl (by rfl) rfl hK.ok hq (by simp [AV.gs]) ?_
      intro sq hq' hkq hcq
      have hq : Pt sq.h (.ptr s1.ctr 0 0) [.int .i64 74, .int .i64 (f : Nat), .int .i64 (-1)] := hq'
      have hK := hK.fresh hkq (fun g hg => by rw [List.mem_singleton.1 hg]; have := hk1.ctr; omega)
      refine w_nil ?_
      refine then_n ?_
      refine wc_ret ?_
      repeat first | refine then_r ?_ | refine out_r ?_ | refine round_r ?_ | refine cut_r ?_ | refine sc_r ?_
      exact ⟨_, res_cell rfl rfl hq rfl, hK, congrArg (fun r => AV.agg (faultC r)) (chk_fun hmany hfo (fo_hit hff (funP_hd hx (head_74 (by omega)) (by decide)) hf')).symm⟩
    simp only [decide_eq_false_iff_not, gt_iff_lt] at h82
    refine w_val rfl rfl (op_pure rfl) ?_
    refine w_val rfl rfl (op_pure rfl) ?_
    refine w_val rfl rfl (op_pure rfl) ?_
    refine w_val rfl rfl (op_pure rfl) ?_
    refine w_split (i := 86) rfl (fun h86 => ?_) (fun h86 => ?_)
    · simp only [decide_eq_true_eq, gt_iff_lt] at h86
      refine w_off rfl rfl ?_
      refine w_off rfl rfl ?_
      refine w_off rfl rfl ?_
      refine w_val rfl rfl (op_pure rfl) ?_
      refine w_val rfl rfl (op_pure rfl) ?_
      refine w_off rfl rfl ?_
      refine w_off rfl rfl ?_
      refine w_off rfl rfl ?_
      refine w_val rfl rfl (op_pure rfl) ?_
      refine w_nil ?_
      refine then_n ?_
      repeat refine wc_seq ?_
      refine wc_cond_t rfl ?_
      repeat refine wc_seq ?_
      refine wc_region ?_
      refine w_val rfl rfl (op_pure rfl) ?_
      refine w_val rfl rfl (op_pure rfl) ?_
      refine w_store_all (old := [.int .i64 0, .int .i64 0, .int .i64 0]) rfl rfl rfl rfl rfl (by rfl) rfl hK.ok hq (by simp [AV.gs]) ?_
      intro sq hq' hkq hcq
      have hq : Pt sq.h (.ptr s1.ctr 0 0) [.int .i64 74, .int .i64 (f : Nat), .int .i64 (-1)] := hq'
      have hK := hK.fresh hkq (fun g hg => by rw [List.mem_singleton.1 hg]; have := hk1.ctr; omega)
      refine w_nil ?_
      refine then_n ?_
      refine wc_ret ?_
      repeat first | refine then_r ?_ | refine out_r ?_ | refine round_r ?_ | refine cut_r ?_ | refine sc_r ?_
      exact ⟨_, res_cell rfl rfl hq rfl, hK, congrArg (fun r => AV.agg (faultC r)) (chk_fun hmany hfo (fo_hit hff (funP_hd hx (head_74 (by omega)) (by decide)) hf')).symm⟩
    simp only [decide_eq_false_iff_not, gt_iff_lt] at h86
    refine w_val rfl rfl (op_fld rfl rfl rfl rfl (by decide) (by assumption) (Nat.le_of_ble_eq_true rfl)) ?_
    refine w_val rfl rfl (op_load rfl rfl (Pt.fld (by assumption) _ (Nat.le_of_ble_eq_true rfl)) rfl) ?_
    refine w_val rfl rfl (op_pure rfl) ?_
    refine w_val rfl rfl (op_pure rfl) ?_
    refine w_val rfl rfl (op_pure rfl) ?_
    refine w_split (i := 91) rfl (fun h91 => ?_) (fun h91 => ?_)
    · simp only [decide_eq_true_eq, gt_iff_lt] at h91
      refine w_off rfl rfl ?_
      refine w_off rfl rfl ?_
      refine w_off rfl rfl ?_
      refine w_val rfl rfl (op_pure rfl) ?_
      refine w_nil ?_
      refine then_n ?_
      repeat refine wc_seq ?_
      refine wc_cond_t rfl ?_
      repeat refine wc_seq ?_
      refine wc_region ?_
      refine w_val rfl rfl (op_pure rfl) ?_
      refine w_val rfl rfl (op_pure rfl) ?_
      refine w_store_all (old := [.int .i64 0, .int .i64 0, .int .i64 0]) rfl rfl rfl rfl rfl (by rfl) rfl hK.ok hq (by simp [AV.gs]) ?_
      intro sq hq' hkq hcq
      have hq : Pt sq.h (.ptr s1.ctr 0 0) [.int .i64 74, .int .i64 (f : Nat), .int .i64 (-1)] := hq'
      have hK := hK.fresh hkq (fun g hg => by rw [List.mem_singleton.1 hg]; have := hk1.ctr; omega)
      refine w_nil ?_
      refine then_n ?_
      refine wc_ret ?_
      repeat first | refine then_r ?_ | refine out_r ?_ | refine round_r ?_ | refine cut_r ?_ | refine sc_r ?_
      exact ⟨_, res_cell rfl rfl hq rfl, hK, congrArg (fun r => AV.agg (faultC r)) (chk_fun hmany hfo (fo_hit hff (funP_hd hx (head_74 (by omega)) (by decide)) hf')).symm⟩
    simp only [decide_eq_false_iff_not, gt_iff_lt] at h91
    refine w_val rfl rfl (op_fld rfl rfl rfl rfl (by decide) (by assumption) (Nat.le_of_ble_eq_true rfl)) ?_
    refine w_val rfl rfl (op_load rfl rfl (Pt.fld (by assumption) _ (Nat.le_of_ble_eq_true rfl)) rfl) ?_
    refine w_val rfl rfl (op_pure rfl) ?_
    refine w_val rfl rfl (op_pure rfl) ?_
    refine w_nil ?_
    refine then_n ?_
    repeat refine wc_seq ?_
    refine wc_condT rfl (fun h95 => ?_) (fun h95 => ?_)
    · simp only [decide_eq_true_eq, gt_iff_lt] at h95
      repeat refine wc_seq ?_
      refine wc_region ?_
      refine w_val rfl rfl (op_pure rfl) ?_
      refine w_val rfl rfl (op_pure rfl) ?_
      refine w_store_all (old := [.int .i64 0, .int .i64 0, .int .i64 0]) rfl rfl rfl rfl rfl (by rfl) rfl hK.ok hq (by simp [AV.gs]) ?_
      intro sq hq' hkq hcq
      have hq : Pt sq.h (.ptr s1.ctr 0 0) [.int .i64 74, .int .i64 (f : Nat), .int .i64 (-1)] := hq'
      have hK := hK.fresh hkq (fun g hg => by rw [List.mem_singleton.1 hg]; have := hk1.ctr; omega)
      refine w_nil ?_
      refine then_n ?_
      refine wc_ret ?_
      repeat first | refine then_r ?_ | refine out_r ?_ | refine round_r ?_ | refine cut_r ?_ | refine sc_r ?_
      exact ⟨_, res_cell rfl rfl hq rfl, hK, congrArg (fun r => AV.agg (faultC r)) (chk_fun hmany hfo (fo_hit hff (funP_hd hx (head_74 (by omega)) (by decide)) hf')).symm⟩
    simp only [decide_eq_false_iff_not, gt_iff_lt] at h95
    refine wc_skip ?_
    refine then_n ?_
    repeat refine wc_seq ?_
    refine wc_region ?_
    refine w_val rfl rfl (op_fld rfl rfl rfl rfl (by decide) (by assumption) (Nat.le_of_ble_eq_true rfl)) ?_
    refine w_val rfl rfl (op_load rfl rfl (Pt.fld (by assumption) _ (Nat.le_of_ble_eq_true rfl)) rfl) ?_
    refine w_val rfl rfl (op_pure rfl) ?_
    refine w_val rfl rfl (op_pure rfl) ?_
    refine w_split (i := 101) rfl (fun h101 => ?_) (fun h101 => ?_)
    · simp only [decide_eq_true_eq] at h101
      refine w_off rfl rfl ?_
      refine w_off rfl rfl ?_
      refine w_off rfl rfl ?_
      refine w_val rfl rfl (op_pure rfl) ?_
      refine w_nil ?_
      refine then_n ?_
      repeat refine wc_seq ?_
      refine wc_cond_t rfl ?_
      repeat refine wc_seq ?_
      refine wc_region ?_
      refine w_val rfl rfl (op_pure rfl) ?_
      refine w_val rfl rfl (op_pure rfl) ?_
      refine w_store_all (old := [.int .i64 0, .int .i64 0, .int .i64 0]) rfl rfl rfl rfl rfl (by rfl) rfl hK.ok hq (by simp [AV.gs]) ?_
      intro sq hq' hkq hcq
      have hq : Pt sq.h (.ptr s1.ctr 0 0) [.int .i64 130, .int .i64 (f : Nat), .int .i64 (-1)] := hq'
      have hK := hK.fresh hkq (fun g hg => by rw [List.mem_singleton.1 hg]; have := hk1.ctr; omega)
      refine w_nil ?_
      refine then_n ?_
      refine wc_ret ?_
      repeat first | refine then_r ?_ | refine out_r ?_ | refine round_r ?_ | refine cut_r ?_ | refine sc_r ?_
      exact ⟨_, res_cell rfl rfl hq rfl, hK, congrArg (fun r => AV.agg (faultC r)) (chk_fun hmany hfo (fo_hit hff (funP_hd hx (head_130 (by omega) (by omega)) (by decide)) hf')).symm⟩
    simp only [decide_eq_false_iff_not] at h101
    refine w_val rfl rfl (op_fld rfl rfl rfl rfl (by decide) (by assumption) (Nat.le_of_ble_eq_true rfl)) ?_
    refine w_val rfl rfl (op_load rfl rfl (Pt.fld (by assumption) _ (Nat.le_of_ble_eq_true rfl)) rfl) ?_
    refine w_val rfl rfl (op_pure rfl) ?_
    refine w_val rfl rfl (op_pure rfl) ?_
    refine w_nil ?_
    refine then_n ?_
    repeat refine wc_seq ?_
    refine wc_condT rfl (fun h105 => ?_) (fun h105 => ?_)
    · simp only [decide_eq_true_eq] at h105
      repeat refine wc_seq ?_
      refine wc_region ?_
      refine w_val rfl rfl (op_pure rfl) ?_
      refine w_val rfl rfl (op_pure rfl) ?_
      refine w_store_all (old := [.int .i64 0, .int .i64 0, .int .i64 0]) rfl rfl rfl rfl rfl (by rfl) rfl hK.ok hq (by simp [AV.gs]) ?_
      intro sq hq' hkq hcq
      have hq : Pt sq.h (.ptr s1.ctr 0 0) [.int .i64 130, .int .i64 (f : Nat), .int .i64 (-1)] := hq'
      have hK := hK.fresh hkq (fun g hg => by rw [List.mem_singleton.1 hg]; have := hk1.ctr; omega)
      refine w_nil ?_
      refine then_n ?_
      refine wc_ret ?_
      repeat first | refine then_r ?_ | refine out_r ?_ | refine round_r ?_ | refine cut_r ?_ | refine sc_r ?_
      exact ⟨_, res_cell rfl rfl hq rfl, hK, congrArg (fun r => AV.agg (faultC r)) (chk_fun hmany hfo (fo_hit hff (funP_hd hx (head_130 (by omega) (by omega)) (by decide)) hf')).symm⟩
    simp only [decide_eq_false_iff_not] at h105
    refine wc_skip ?_
    refine then_n ?_
    repeat refine wc_seq ?_
    refine wc_region ?_
    refine w_val rfl rfl (op_pure rfl) ?_
    refine w_val rfl rfl (op_pure rfl) ?_
    refine w_nil ?_
    refine then_n ?_
    repeat refine wc_seq ?_
    refine wc_condT rfl (fun h109 => ?_) (fun h109 => ?_)
    · simp only [beq_iff_eq] at h109
      repeat refine wc_seq ?_
      refine wc_region ?_
      refine w_val rfl rfl (op_pure rfl) ?_
      refine w_val rfl rfl (op_pure rfl) ?_
      refine w_store_all (old := [.int .i64 0, .int .i64 0, .int .i64 0]) rfl rfl rfl rfl rfl (by rfl) rfl hK.ok hq (by simp [AV.gs]) ?_
      intro sq hq' hkq hcq
      have hq : Pt sq.h (.ptr s1.ctr 0 0) [.int .i64 132, .int .i64 (f : Nat), .int .i64 (-1)] := hq'
      have hK := hK.fresh hkq (fun g hg => by rw [List.mem_singleton.1 hg]; have := hk1.ctr; omega)
      refine w_nil ?_
      refine then_n ?_
      refine wc_ret ?_
      repeat first | refine then_r ?_ | refine out_r ?_ | refine round_r ?_ | refine cut_r ?_ | refine sc_r ?_
      exact ⟨_, res_cell rfl rfl hq rfl, hK, congrArg (fun r => AV.agg (faultC r)) (chk_fun hmany hfo (fo_hit hff (funP_hd hx (head_132 (by omega) (by omega) (by omega)) (by decide)) hf')).symm⟩
    simp only [beq_eq_false_iff_ne, ne_eq] at h109
    refine wc_skip ?_
    refine then_n ?_
    repeat refine wc_seq ?_
    have h64 : headE x = 0 := head_0 (by omega) (by omega) (by omega)
    refine wc_region ?_
    refine w_val rfl rfl (op_pure rfl) ?_
    refine w_nil ?_
    refine then_n ?_
    refine wc_block ?_
    refine wc_loop_at (fun j m sI => ∃ (a : Nat), j = x.code.length - a ∧ a ≤ x.code.length ∧ m = [(1, .ptr s.ctr 0 0), (2, .ptr s1.ctr 0 0), (4, .int .i64 (f : Nat)), (5, .ptr s6.ctr 0 0), (6, .int .i64 (x.code.length : Nat)), (7, .int .i64 (a : Nat))] ∧ Keep [] s sI ∧ s2.ctr ≤ sI.ctr ∧ Pt sI.h (.ptr s.ctr 0 0) [vg, va, vh, vf] ∧ Pt sI.h (.ptr s1.ctr 0 0) [.int .i64 0, .int .i64 0, .int .i64 0] ∧ s8.ctr ≤ sI.ctr ∧ Pt sI.h (.ptr s6.ctr 0 0) [.int .u64 x.level, vp, vr, .int .i64 x.locals, .int .i64 x.stack, vc] ∧ fo (insP mm x f) a = none) x.code.length
      [(1, .ptr s.ctr 0 0), (2, .ptr s1.ctr 0 0), (4, .int .i64 (f : Nat)), (5, .ptr s6.ctr 0 0), (6, .int .i64 (x.code.length : Nat)), (7, .int .i64 ((0 : Nat) : Int))] (Sub.cons rfl (Sub.cons rfl (Sub.cons rfl (Sub.cons rfl (Sub.cons rfl (Sub.cons rfl (Sub.nil _))))))) ⟨0, by simp, by simp, rfl, hK, by omega, hp, hq, by omega, hw, rfl⟩ ?_
    clear hK hp hq hw
    rintro j m s10 ⟨a, rfl, ha, rfl, hK, hcJ, hp, hq, hc10, hw, hfa⟩
    repeat refine wc_seq ?_
    refine wc_region ?_
    refine w_val rfl rfl (op_pure rfl) ?_
    refine w_val rfl rfl (op_pure rfl) ?_
    refine w_val rfl rfl (op_pure rfl) ?_
    refine w_nil ?_
    refine then_n ?_
    repeat refine wc_seq ?_
    refine wc_condT rfl (fun h114 => ?_) (fun h114 => ?_)
    · simp only [decide_eq_true_eq] at h114
      refine wc_skip ?_
      refine then_n ?_
      repeat refine wc_seq ?_
      refine wc_block ?_
      repeat refine wc_seq ?_
      obtain ⟨y, hy⟩ : ∃ x', x.code[a]? = some x' := ⟨_, List.getElem?_eq_getElem (by omega)⟩
      have ha' : a < x.code.length := by omega
      have hvc10 := hvc.keep0 hK
      have hm10 : ModR s10.h mm [vg, va, vh, vf] := ⟨vg, va, vh, vf, rfl, hvg.keep0 hK, hva.keep0 hK, hvh.keep0 hK, RowR.keep0 FuncR.keep0 (⟨csf, hrf, hlf, hF⟩ : RowR s.h 6 FuncR vf mm.funcs) hK⟩
      have hR := Keep.refl (s := s10) (hK.ok)
      refine wc_draw (Old s10 []) (by kernel_rfl) rfl ?_
      refine wo_load hR rfl rfl (by assumption) rfl (fun _ _ h => by cases h) rfl rfl ?_
      refine wo_val (fun _ => rfl) rfl rfl (op_pure rfl) ?_
      refine wo_val (fun _ => rfl) rfl rfl (op_fld rfl rfl rfl rfl (by decide) (by assumption) (Nat.le_of_ble_eq_true rfl)) ?_
      refine wo_load hR rfl rfl (Pt.fld (by assumption) _ (Nat.le_of_ble_eq_true rfl)) rfl (fun _ _ h => by cases h) rfl rfl ?_
      refine wo_val (fun _ => rfl) rfl rfl (op_pure rfl) ?_
      refine wo_val (fun _ => rfl) rfl rfl (op_idxF rfl rfl (natA_cast _ _) rfl rfl rfl rfl (by assumption) (by omega)) ?_
      refine wo_load hR rfl rfl (Row.mk_pt (by assumption) (by assumption)) rfl (fun _ _ h => by cases h) rfl rfl ?_
      refine wo_call hR rfl rfl (fun _ => rfl) (op_call rfl rfl rfl rfl) (instr_ref_ok (x := x) (y := y) hR.ok hm hx (ModR.bare (hm10.keep0 hR))) (fun _ _ h => h.1) ?_
      rintro _ s11 ⟨hk11, rfl⟩ hR
      have hk11 : Keep [] s10 (s11.join s10) := hk11.joined
      generalize s11.join s10 = t11 at hk11 hR ⊢
      have hc11 := hk11.ctr
      have hK := hK.two hk11
      have hp := hp.keep0 hk11
      have hq := hq.keep0 hk11
      have hw := hw.keep0 hk11
      refine wo_val (fun _ => rfl) rfl rfl (op_pure rfl) ?_
      refine wd_nil ?_
      refine then_n ?_
      repeat refine wc_seq ?_
      refine wc_region ?_
      refine w_val rfl rfl (op_pure rfl) ?_
      refine w_val rfl rfl (op_pure rfl) ?_
      refine w_val rfl rfl (op_pure rfl) ?_
      refine w_split (i := 127) rfl (fun h127 => ?_) (fun h127 => ?_)
      · simp only [beq_iff_eq] at h127
        refine w_val rfl rfl (op_pure rfl) ?_
        refine w_val rfl rfl (op_pure rfl) ?_
        refine w_val rfl rfl (op_sub rfl rfl (by unfold In64; omega)) ?_
        refine w_val rfl rfl (op_pure rfl) ?_
        refine w_val rfl rfl (op_pure rfl) ?_
        refine w_val rfl rfl (op_pure rfl) ?_
        refine w_split (i := 133) rfl (fun h133 => ?_) (fun h133 => ?_)
        · simp only [beq_iff_eq] at h133
          refine w_val rfl rfl (op_fld rfl rfl rfl rfl (by decide) (by assumption) (Nat.le_of_ble_eq_true rfl)) ?_
          refine w_val rfl rfl (op_load rfl rfl (Pt.fld (by assumption) _ (Nat.le_of_ble_eq_true rfl)) rfl) ?_
          refine w_val rfl rfl (op_pure rfl) ?_
          refine w_val rfl rfl (op_idxF rfl rfl (natA_cast _ _) rfl rfl rfl rfl (Row.keep0 (by assumption) hK) (by omega)) ?_
          refine w_val rfl rfl (op_fld rfl rfl rfl rfl (by decide) (Pt.keep0 (Row.mk_pt (by assumption) (by assumption)) hK) (Nat.le_of_ble_eq_true rfl)) ?_
          refine w_val rfl rfl (op_load rfl rfl (Pt.fld (Pt.keep0 (Row.mk_pt (by assumption) (by assumption)) hK) _ (Nat.le_of_ble_eq_true rfl)) rfl) ?_
          refine w_val rfl rfl (op_pure rfl) ?_
          refine w_val rfl rfl (op_pure rfl) ?_
          refine w_val rfl rfl (op_pure rfl) ?_
          refine w_split (i := 142) rfl (fun h142 => ?_) (fun h142 => ?_)
          · simp only [bne_iff_ne, ne_eq] at h142
            refine w_val rfl rfl (op_fld rfl rfl rfl rfl (by decide) (by assumption) (Nat.le_of_ble_eq_true rfl)) ?_
            refine w_val rfl rfl (op_load rfl rfl (Pt.fld (by assumption) _ (Nat.le_of_ble_eq_true rfl)) rfl) ?_
            refine w_val rfl rfl (op_pure rfl) ?_
            refine w_val rfl rfl (op_idxF rfl rfl (natA_cast _ _) rfl rfl rfl rfl (Row.keep0 (by assumption) hK) (by omega)) ?_
            refine w_val rfl rfl (op_fld rfl rfl rfl rfl (by decide) (Pt.keep0 (Row.mk_pt (by assumption) (by assumption)) hK) (Nat.le_of_ble_eq_true rfl)) ?_
            refine w_val rfl rfl (op_load rfl rfl (Pt.fld (Pt.keep0 (Row.mk_pt (by assumption) (by assumption)) hK) _ (Nat.le_of_ble_eq_true rfl)) rfl) ?_
            refine w_val rfl rfl (op_pure rfl) ?_
            refine w_val rfl rfl (op_pure rfl) ?_
            refine w_nil ?_
            refine then_n ?_
            repeat refine wc_seq ?_
            refine wc_condT rfl (fun h150 => ?_) (fun h150 => ?_)
            · simp only [bne_iff_ne, ne_eq] at h150
              refine wc_region ?_
              refine w_val rfl rfl (op_pure rfl) ?_
              refine w_nil ?_
              refine then_n ?_
              repeat refine wc_seq ?_
              refine wc_region ?_
              refine w_val rfl rfl (op_pure rfl) ?_
              refine w_val rfl rfl (op_pure rfl) ?_
              refine w_nil ?_
              refine then_n ?_
              refine wc_condT rfl (fun h152 => ?_) (fun h152 => ?_)
              · skip
                repeat refine wc_seq ?_
                refine wc_region ?_
                refine w_val rfl rfl (op_pure rfl) ?_
                refine w_val rfl rfl (op_pure rfl) ?_
                refine w_val rfl rfl (op_pure rfl) ?_
                refine w_val rfl rfl (op_pure rfl) ?_
                first
                  | (refine w_store_all (u := .agg [.int .i64 131, .int .i64 (f : Nat), .int .i64 (a : Nat)]) (old := [.int .i64 0, .int .i64 0, .int .i64 0]) rfl rfl rfl rfl rfl (by rfl) rfl hK.ok hq (by simp [AV.gs]) ?_)
                  | (refine w_store_all (u := .agg [.int .i64 (instrE mm x y), .int .i64 (f : Nat), .int .i64 (a : Nat)]) (old := [.int .i64 0, .int .i64 0, .int .i64 0]) rfl rfl rfl rfl rfl (by rfl) rfl hK.ok hq (by simp [AV.gs]) ?_)
                intro sq hq' hkq hcq
                have hK := hK.fresh hkq (fun g hg => by rw [List.mem_singleton.1 hg]; have := hk1.ctr; omega)
                refine w_nil ?_
                refine then_n ?_
                refine wc_ret ?_
                repeat first | refine then_r ?_ | refine out_r ?_ | refine round_r ?_ | refine cut_r ?_ | refine sc_r ?_
                exact ⟨_, res_cell rfl rfl (show Pt sq.h (.ptr s1.ctr 0 0) [_, _, _] from hq') rfl, hK, congrArg (fun r => AV.agg (faultC r)) (chk_fun hmany hfo (fo_hit hff (funP_ins hx h64 (fo_hit hfa (insP_some hy (insE_fall h127 (by omega) h142 h150) (by decide)) ha')) hf')).symm⟩
              skip
              refine wc_skip ?_
              refine out_n ?_
              refine then_n ?_
              refine wc_region ?_
              refine w_val rfl rfl (op_pure rfl) ?_
              refine w_val rfl rfl (op_add rfl rfl (by unfold In64; omega)) ?_
              refine w_val rfl rfl (op_pure rfl) ?_
              refine w_nil ?_
              exact absurd h152 (by decide)
            simp only [bne_eq_false_iff_eq] at h150
            refine wc_skip ?_
            refine then_n ?_
            repeat refine wc_seq ?_
            refine wc_region ?_
            refine w_val rfl rfl (op_pure rfl) ?_
            refine w_val rfl rfl (op_pure rfl) ?_
            refine w_nil ?_
            refine then_n ?_
            refine wc_condT rfl (fun h152 => ?_) (fun h152 => ?_)
            · skip
              repeat refine wc_seq ?_
              refine wc_region ?_
              refine w_val rfl rfl (op_pure rfl) ?_
              refine w_val rfl rfl (op_pure rfl) ?_
              refine w_val rfl rfl (op_pure rfl) ?_
              refine w_val rfl rfl (op_pure rfl) ?_
              first
                | (refine w_store_all (u := .agg [.int .i64 131, .int .i64 (f : Nat), .int .i64 (a : Nat)]) (old := [.int .i64 0, .int .i64 0, .int .i64 0]) rfl rfl rfl rfl rfl (by rfl) rfl hK.ok hq (by simp [AV.gs]) ?_)
                | (refine w_store_all (u := .agg [.int .i64 (instrE mm x y), .int .i64 (f : Nat), .int .i64 (a : Nat)]) (old := [.int .i64 0, .int .i64 0, .int .i64 0]) rfl rfl rfl rfl rfl (by rfl) rfl hK.ok hq (by simp [AV.gs]) ?_)
              intro sq hq' hkq hcq
              have hK := hK.fresh hkq (fun g hg => by rw [List.mem_singleton.1 hg]; have := hk1.ctr; omega)
              refine w_nil ?_
              refine then_n ?_
              refine wc_ret ?_
              repeat first | refine then_r ?_ | refine out_r ?_ | refine round_r ?_ | refine cut_r ?_ | refine sc_r ?_
              exact absurd h152 (by rw [h127]; decide)
            skip
            refine wc_skip ?_
            refine out_n ?_
            refine then_n ?_
            refine wc_region ?_
            refine w_val rfl rfl (op_pure rfl) ?_
            refine w_val rfl rfl (op_add rfl rfl (by unfold In64; omega)) ?_
            refine w_val rfl rfl (op_pure rfl) ?_
            refine w_nil ?_
            exact round_n _ _ (by omega) (Sub.cons rfl (Sub.cons rfl (Sub.cons rfl (Sub.cons rfl (Sub.cons rfl (Sub.cons rfl (Sub.nil _))))))) ⟨a + 1, rfl, by omega, rfl, hK, by omega, hp, hq, by omega, hw, fo_next hfa (insP_none hy (insE_none h127 (fun k => k.2.2 h150)))⟩
          simp only [bne_eq_false_iff_eq] at h142
          refine w_off rfl rfl ?_
          refine w_off rfl rfl ?_
          refine w_off rfl rfl ?_
          refine w_off rfl rfl ?_
          refine w_off rfl rfl ?_
          refine w_off rfl rfl ?_
          refine w_off rfl rfl ?_
          refine w_val rfl rfl (op_pure rfl) ?_
          refine w_nil ?_
          refine then_n ?_
          repeat refine wc_seq ?_
          refine wc_cond_f rfl ?_
          refine wc_skip ?_
          refine then_n ?_
          repeat refine wc_seq ?_
          refine wc_region ?_
          refine w_val rfl rfl (op_pure rfl) ?_
          refine w_val rfl rfl (op_pure rfl) ?_
          refine w_nil ?_
          refine then_n ?_
          refine wc_condT rfl (fun h152 => ?_) (fun h152 => ?_)
          · skip
            repeat refine wc_seq ?_
            refine wc_region ?_
            refine w_val rfl rfl (op_pure rfl) ?_
            refine w_val rfl rfl (op_pure rfl) ?_
            refine w_val rfl rfl (op_pure rfl) ?_
            refine w_val rfl rfl (op_pure rfl) ?_
            first
              | (refine w_store_all (u := .agg [.int .i64 131, .int .i64 (f : Nat), .int .i64 (a : Nat)]) (old := [.int .i64 0, .int .i64 0, .int .i64 0]) rfl rfl rfl rfl rfl (by rfl) rfl hK.ok hq (by simp [AV.gs]) ?_)
              | (refine w_store_all (u := .agg [.int .i64 (instrE mm x y), .int .i64 (f : Nat), .int .i64 (a : Nat)]) (old := [.int .i64 0, .int .i64 0, .int .i64 0]) rfl rfl rfl rfl rfl (by rfl) rfl hK.ok hq (by simp [AV.gs]) ?_)
            intro sq hq' hkq hcq
            have hK := hK.fresh hkq (fun g hg => by rw [List.mem_singleton.1 hg]; have := hk1.ctr; omega)
            refine w_nil ?_
            refine then_n ?_
            refine wc_ret ?_
            repeat first | refine then_r ?_ | refine out_r ?_ | refine round_r ?_ | refine cut_r ?_ | refine sc_r ?_
            exact absurd h152 (by rw [h127]; decide)
          skip
          refine wc_skip ?_
          refine out_n ?_
          refine then_n ?_
          refine wc_region ?_
          refine w_val rfl rfl (op_pure rfl) ?_
          refine w_val rfl rfl (op_add rfl rfl (by unfold In64; omega)) ?_
          refine w_val rfl rfl (op_pure rfl) ?_
          refine w_nil ?_
          exact round_n _ _ (by omega) (Sub.cons rfl (Sub.cons rfl (Sub.cons rfl (Sub.cons rfl (Sub.cons rfl (Sub.cons rfl (Sub.nil _))))))) ⟨a + 1, rfl, by omega, rfl, hK, by omega, hp, hq, by omega, hw, fo_next hfa (insP_none hy (insE_none h127 (fun k => k.2.1 h142)))⟩
        simp only [beq_eq_false_iff_ne, ne_eq] at h133
        refine w_off rfl rfl ?_
        refine w_off rfl rfl ?_
        refine w_off rfl rfl ?_
        refine w_off rfl rfl ?_
        refine w_off rfl rfl ?_
        refine w_off rfl rfl ?_
        refine w_off rfl rfl ?_
        refine w_val rfl rfl (op_pure rfl) ?_
        refine w_val rfl rfl (op_pure rfl) ?_
        refine w_off rfl rfl ?_
        refine w_off rfl rfl ?_
        refine w_off rfl rfl ?_
        refine w_off rfl rfl ?_
        refine w_off rfl rfl ?_
        refine w_off rfl rfl ?_
        refine w_off rfl rfl ?_
        refine w_val rfl rfl (op_pure rfl) ?_
        refine w_nil ?_
        refine then_n ?_
        repeat refine wc_seq ?_
        refine wc_cond_f rfl ?_
        refine wc_skip ?_
        refine then_n ?_
        repeat refine wc_seq ?_
        refine wc_region ?_
        refine w_val rfl rfl (op_pure rfl) ?_
        refine w_val rfl rfl (op_pure rfl) ?_
        refine w_nil ?_
        refine then_n ?_
        refine wc_condT rfl (fun h152 => ?_) (fun h152 => ?_)
        · skip
          repeat refine wc_seq ?_
          refine wc_region ?_
          refine w_val rfl rfl (op_pure rfl) ?_
          refine w_val rfl rfl (op_pure rfl) ?_
          refine w_val rfl rfl (op_pure rfl) ?_
          refine w_val rfl rfl (op_pure rfl) ?_
          first
            | (refine w_store_all (u := .agg [.int .i64 131, .int .i64 (f : Nat), .int .i64 (a : Nat)]) (old := [.int .i64 0, .int .i64 0, .int .i64 0]) rfl rfl rfl rfl rfl (by rfl) rfl hK.ok hq (by simp [AV.gs]) ?_)
            | (refine w_store_all (u := .agg [.int .i64 (instrE mm x y), .int .i64 (f : Nat), .int .i64 (a : Nat)]) (old := [.int .i64 0, .int .i64 0, .int .i64 0]) rfl rfl rfl rfl rfl (by rfl) rfl hK.ok hq (by simp [AV.gs]) ?_)
          intro sq hq' hkq hcq
          have hK := hK.fresh hkq (fun g hg => by rw [List.mem_singleton.1 hg]; have := hk1.ctr; omega)
          refine w_nil ?_
          refine then_n ?_
          refine wc_ret ?_
          repeat first | refine then_r ?_ | refine out_r ?_ | refine round_r ?_ | refine cut_r ?_ | refine sc_r ?_
          exact absurd h152 (by rw [h127]; decide)
        skip
        refine wc_skip ?_
        refine out_n ?_
        refine then_n ?_
        refine wc_region ?_
        refine w_val rfl rfl (op_pure rfl) ?_
        refine w_val rfl rfl (op_add rfl rfl (by unfold In64; omega)) ?_
        refine w_val rfl rfl (op_pure rfl) ?_
        refine w_nil ?_
        exact round_n _ _ (by omega) (Sub.cons rfl (Sub.cons rfl (Sub.cons rfl (Sub.cons rfl (Sub.cons rfl (Sub.cons rfl (Sub.nil _))))))) ⟨a + 1, rfl, by omega, rfl, hK, by omega, hp, hq, by omega, hw, fo_next hfa (insP_none hy (insE_none h127 (fun k => h133 (by omega))))⟩
      simp only [beq_eq_false_iff_ne, ne_eq] at h127
      refine w_off rfl rfl ?_
      refine w_off rfl rfl ?_
      refine w_off rfl rfl ?_
      refine w_off rfl rfl ?_
      refine w_val rfl rfl (op_pure rfl) ?_
      refine w_val rfl rfl (op_pure rfl) ?_
      refine w_off rfl rfl ?_
      refine w_off rfl rfl ?_
      refine w_off rfl rfl ?_
      refine w_off rfl rfl ?_
      refine w_off rfl rfl ?_
      refine w_off rfl rfl ?_
      refine w_off rfl rfl ?_
      refine w_val rfl rfl (op_pure rfl) ?_
      refine w_val rfl rfl (op_pure rfl) ?_
      refine w_off rfl rfl ?_
      refine w_off rfl rfl ?_
      refine w_off rfl rfl ?_
      refine w_off rfl rfl ?_
      refine w_off rfl rfl ?_
      refine w_off rfl rfl ?_
      refine w_off rfl rfl ?_
      refine w_val rfl rfl (op_pure rfl) ?_
      refine w_nil ?_
      refine then_n ?_
      repeat refine wc_seq ?_
      refine wc_cond_f rfl ?_
      refine wc_skip ?_
      refine then_n ?_
      repeat refine wc_seq ?_
      refine wc_region ?_
      refine w_val rfl rfl (op_pure rfl) ?_
      refine w_val rfl rfl (op_pure rfl) ?_
      refine w_nil ?_
      refine then_n ?_
      refine wc_condT rfl (fun h152 => ?_) (fun h152 => ?_)
      · skip
        repeat refine wc_seq ?_
        refine wc_region ?_
        refine w_val rfl rfl (op_pure rfl) ?_
        refine w_val rfl rfl (op_pure rfl) ?_
        refine w_val rfl rfl (op_pure rfl) ?_
        refine w_val rfl rfl (op_pure rfl) ?_
        first
          | (refine w_store_all (u := .agg [.int .i64 131, .int .i64 (f : Nat), .int .i64 (a : Nat)]) (old := [.int .i64 0, .int .i64 0, .int .i64 0]) rfl rfl rfl rfl rfl (by rfl) rfl hK.ok hq (by simp [AV.gs]) ?_)
          | (refine w_store_all (u := .agg [.int .i64 (instrE mm x y), .int .i64 (f : Nat), .int .i64 (a : Nat)]) (old := [.int .i64 0, .int .i64 0, .int .i64 0]) rfl rfl rfl rfl rfl (by rfl) rfl hK.ok hq (by simp [AV.gs]) ?_)
        intro sq hq' hkq hcq
        have hK := hK.fresh hkq (fun g hg => by rw [List.mem_singleton.1 hg]; have := hk1.ctr; omega)
        refine w_nil ?_
        refine then_n ?_
        refine wc_ret ?_
        repeat first | refine then_r ?_ | refine out_r ?_ | refine round_r ?_ | refine cut_r ?_ | refine sc_r ?_
        exact ⟨_, res_cell rfl rfl (show Pt sq.h (.ptr s1.ctr 0 0) [_, _, _] from hq') rfl, hK, congrArg (fun r => AV.agg (faultC r)) (chk_fun hmany hfo (fo_hit hff (funP_ins hx h64 (fo_hit hfa (insP_some hy (insE_own h127) h127) ha')) hf')).symm⟩
      skip
      refine wc_skip ?_
      refine out_n ?_
      refine then_n ?_
      refine wc_region ?_
      refine w_val rfl rfl (op_pure rfl) ?_
      refine w_val rfl rfl (op_add rfl rfl (by unfold In64; omega)) ?_
      refine w_val rfl rfl (op_pure rfl) ?_
      refine w_nil ?_
      exact absurd (bne_eq_false_iff_eq.1 h152) h127
    simp only [decide_eq_false_iff_not] at h114
    obtain rfl : a = x.code.length := by omega
    refine wc_exit ?_
    repeat first | refine then_x ?_ | refine round_x ?_ | refine cut_x ?_ | refine out_x' (by decide) ?_
    refine out_x ?_
    refine out_n ?_
    refine then_n ?_
    refine wc_region ?_
    refine w_val rfl rfl (op_pure rfl) ?_
    refine w_val rfl rfl (op_add rfl rfl (by unfold In64; omega)) ?_
    refine w_val rfl rfl (op_pure rfl) ?_
    refine w_nil ?_
    exact round_n _ _ (by omega) (Sub.cons rfl (Sub.cons rfl (Sub.cons rfl (Sub.nil _)))) ⟨f + 1, rfl, by omega, rfl, hK, by omega, hp, hq, fo_next hff (funP_none hx h64 hfa)⟩
  simp only [decide_eq_false_iff_not] at h61
  obtain rfl : f = mm.funcs.length := by omega
  refine wc_exit ?_
  repeat first | refine then_x ?_ | refine round_x ?_ | refine cut_x ?_ | refine out_x' (by decide) ?_
  refine out_x ?_
  refine then_n ?_
  repeat refine wc_seq ?_
  refine wc_region ?_
  refine w_val rfl rfl (op_pure rfl) ?_
  refine w_store_all (old := [.int .i64 0, .int .i64 0, .int .i64 0]) rfl rfl rfl rfl rfl (by rfl) rfl hK.ok hq (by simp [AV.gs]) ?_
  intro sq hq' hkq hcq
  have hq : Pt sq.h (.ptr s1.ctr 0 0) [.int .i64 0, .int .i64 0, .int .i64 0] := hq'
  have hK := hK.fresh hkq (fun g hg => by rw [List.mem_singleton.1 hg]; have := hk1.ctr; omega)
  refine w_nil ?_
  refine then_n ?_
  refine wc_ret ?_
  repeat first | refine then_r ?_ | refine out_r ?_ | refine round_r ?_ | refine cut_r ?_ | refine sc_r ?_
  exact ⟨_, res_cell rfl rfl hq rfl, hK, congrArg (fun r => AV.agg (faultC r)) (chk_ok hmany hfo hff).symm⟩
set_option maxRecDepth 10000 in
set_option maxHeartbeats 4000000 in
theorem right_ok {s : St} {c : List AV} {mm : ModL} (hok : s.Ok) (hm : mm.small) (hv : ModR s.h mm c) :
    CallS Try.prog Tt Kt 66 [.agg c] s (fun r s' => Keep [] s s' ∧ r = .bool ((checkF mm).1 == 0 && ((checkF mm).2.1 == 0 && ((checkF mm).2.2 == 0 && true)))) := by
  have hz := hv.leaf.2
  refine call_of (fn := Try.f66) (nt := 7) Try.func66 rfl rfl rfl ?_
  repeat refine wc_seq ?_
  refine wc_region ?_
  refine w_box rfl rfl rfl hz hok ?_
  intro s1 hp1 hk1 hc1
  have hK := (Keep.refl hok).two hk1
  obtain ⟨vg, va, vh, vf, rfl, hrest⟩ := id hv
  have hp : Pt s1.h (.ptr s.ctr 0 0) [vg, va, vh, vf] := hp1
  refine w_val rfl rfl (op_pure rfl) ?_
  refine w_nil ?_
  refine then_n ?_
  repeat refine wc_seq ?_
  refine wc_region ?_
  refine w_val rfl rfl (op_load rfl rfl (by assumption) rfl) ?_
  refine w_call rfl rfl (op_call rfl rfl rfl rfl) (check_ok hK.ok hm (by exact hv.keep0 hK)) ?_
  rintro _ s2 ⟨hk2, rfl⟩
  have hK := hK.two hk2
  refine w_val rfl rfl (op_pure rfl) ?_
  refine w_val rfl rfl (op_pure rfl) ?_
  refine w_val rfl rfl (op_pure rfl) ?_
  refine w_nil ?_
  refine then_n ?_
  refine wc_ret ?_
  repeat first | refine then_r ?_ | refine out_r ?_ | refine round_r ?_ | refine cut_r ?_ | refine sc_r ?_
  exact ⟨_, rfl, hK, rfl⟩
set_option maxRecDepth 10000 in
set_option maxHeartbeats 4000000 in
theorem right_ref_ok {s : St} {c : List AV} {mm : ModL} (hok : s.Ok) (hm : mm.small) (hv : ModR s.h mm c) :
    CallS Try.prog Tt Kt 76 [.agg c] s (fun r s' => Keep [] s s' ∧ r = .bool ((checkF mm).1 == 0 && ((checkF mm).2.1 == 0 && ((checkF mm).2.2 == 0 && true)))) := by
  have hz := hv.leaf.2
  refine call_of (fn := Try.f76) (nt := 7) Try.func76 rfl rfl rfl ?_
  repeat refine wc_seq ?_
  refine wc_region ?_
  refine w_box rfl rfl rfl hz hok ?_
  intro s1 hp1 hk1 hc1
  have hK := (Keep.refl hok).two hk1
  obtain ⟨vg, va, vh, vf, rfl, hrest⟩ := id hv
  have hp : Pt s1.h (.ptr s.ctr 0 0) [vg, va, vh, vf] := hp1
  refine w_val rfl rfl (op_pure rfl) ?_
  refine w_nil ?_
  refine then_n ?_
  repeat refine wc_seq ?_
  refine wc_region ?_
  refine w_val rfl rfl (op_load rfl rfl (by assumption) rfl) ?_
  refine w_call rfl rfl (op_call rfl rfl rfl rfl) (check_ref_ok hK.ok hm (by exact hv.keep0 hK)) ?_
  rintro _ s2 ⟨hk2, rfl⟩
  have hK := hK.two hk2
  refine w_val rfl rfl (op_pure rfl) ?_
  refine w_val rfl rfl (op_pure rfl) ?_
  refine w_val rfl rfl (op_pure rfl) ?_
  refine w_nil ?_
  refine then_n ?_
  refine wc_ret ?_
  repeat first | refine then_r ?_ | refine out_r ?_ | refine round_r ?_ | refine cut_r ?_ | refine sc_r ?_
  exact ⟨_, rfl, hK, rfl⟩
end Go.Ab
/- The document's link of two modules. -/
namespace Go.Ab
open Go.Proofs
def okM (mm : ModL) : Bool := (checkF mm).1 == 0 && ((checkF mm).2.1 == 0 && ((checkF mm).2.2 == 0 && true))
def linkE (a b : ModL) : Int := if okM a = false ∨ okM b = false then 1 else if 32 < a.globals.length + b.globals.length ∨ 16 < a.arrays.length + b.arrays.length ∨ 16 < a.channels.length + b.channels.length ∨ 32 < a.funcs.length + b.funcs.length then 270 else 0
def turnF (a : ModL) (x : FuncL) : FuncL := { x with code := x.code.map (turnI a) }
def linkM (a b : ModL) : ModL := if linkE a b = 0 then ⟨a.globals ++ b.globals, a.arrays ++ b.arrays, a.channels ++ b.channels, a.funcs ++ b.funcs.map (turnF a)⟩ else ⟨[], [], [], []⟩
theorem linkE_a {a b : ModL} (h : okM a = false) : linkE a b = 1 := if_pos (.inl h)
theorem linkE_b {a b : ModL} (h : okM b = false) : linkE a b = 1 := if_pos (.inr h)
theorem linkE_many {a b : ModL} (h : okM a = true) (h' : okM b = true) (k : 32 < a.globals.length + b.globals.length ∨ 16 < a.arrays.length + b.arrays.length ∨ 16 < a.channels.length + b.channels.length ∨ 32 < a.funcs.length + b.funcs.length) : linkE a b = 270 := by
  unfold linkE; rw [if_neg (by rw [h, h']; simp), if_pos k]
theorem linkE_ok {a b : ModL} (h : okM a = true) (h' : okM b = true) (k : ¬ (32 < a.globals.length + b.globals.length ∨ 16 < a.arrays.length + b.arrays.length ∨ 16 < a.channels.length + b.channels.length ∨ 32 < a.funcs.length + b.funcs.length)) : linkE a b = 0 := by
  unfold linkE; rw [if_neg (by rw [h, h']; simp), if_neg k]
theorem linkM_err {h : Tr Grp} {a b : ModL} (k : ¬ linkE a b = 0) : ModR h (linkM a b) [.nils, .nils, .nils, .nils] := by
  unfold linkM
  rw [if_neg k]
  exact ⟨_, _, _, _, rfl, rfl, rfl, rfl, [], rfl, rfl, fun i x c h => by simp at h⟩
theorem res_cell2 {T : Tab} {m : Sy} {s : St} {a b : Nat} {tt : TypeId} {i : TI} {g' j off : Nat} {cs : List AV} {v w : AV} (hm : m.at a = some (.ptr g' j off)) (hw : m.at b = some w) (hT : T tt = some i) (hp : Pt s.h (.ptr g' j off) cs) (hc : loadC i cs = some v) : resY T m s [.cell a tt, .tmp b] = some [v, w] := by
  unfold loadC at hc
  split at hc
  · rename_i hl
    have := rdH_part hp 0 i.cnt (by omega)
    rw [Nat.add_zero, List.drop_zero] at this
    unfold resY
    simp only [hT, hm, read_rd, this, hc, resY, hw]
  · cases hc
theorem elemA_gs (v : AV) (i : Nat) : ∀ g ∈ (elemA v i).gs, g ∈ v.gs := by
  intro g hg
  cases v with
  | slc g' j off sz len lo ex => exact hg
  | ro nl xs =>
    simp only [elemA] at hg
    split at hg <;> cases hg
  | _ => cases hg
def FuncRF : RP FuncL := fun h F x c => ∃ vp vr vc, c = [.int .u64 x.level, vp, vr, .int .i64 x.locals, .int .i64 x.stack, vc] ∧ Row h 1 vp (x.params.map lC) ∧ Row h 1 vr (x.results.map lC) ∧ Row h 2 vc (x.code.map inC) ∧ (∀ g ∈ vp.gs, F g) ∧ (∀ g ∈ vr.gs, F g) ∧ ∀ g ∈ vc.gs, F g
theorem good_funcrf : Good FuncRF where
  keep := fun ⟨vp, vr, vc, e, h1, h2, h3, f1, f2, f3⟩ h hY => ⟨vp, vr, vc, e, h1.keep h fun g hg hy => hY g hy (f1 g hg), h2.keep h fun g hg hy => hY g hy (f2 g hg), h3.keep h fun g hg hy => hY g hy (f3 g hg), f1, f2, f3⟩
  mono := fun ⟨vp, vr, vc, e, h1, h2, h3, f1, f2, f3⟩ h => ⟨vp, vr, vc, e, h1, h2, h3, fun g hg => h g (f1 g hg), fun g hg => h g (f2 g hg), fun g hg => h g (f3 g hg)⟩
/-- Groups apart from those between lo and hi. -/
def FuncRH (lo hi : Nat) : RP FuncL := fun h F x c => FuncRF h (fun g => F g ∧ (g < lo ∨ hi ≤ g)) x c
theorem good_funcr {lo hi : Nat} : Good (FuncRH lo hi) where
  keep := fun k h hY => good_funcrf.keep k h fun g hg hF => hY g hg hF.1
  mono := fun k h => good_funcrf.mono k fun g hF => ⟨h g hF.1, hF.2⟩
theorem Bld.keepH {lo hi c0 h' : Nat} {s s' : St} {sz : Nat} {f : AV} {xs : List FuncL} {Y : List Nat} (k : Bld c0 h' s sz (FuncRH lo hi) f xs) (h : Keep Y s s') (hY : ∀ g ∈ Y, lo ≤ g ∧ g < hi) (hf : ∀ g ∈ f.gs, hi ≤ g) : Bld c0 h' s' sz (FuncRH lo hi) f xs := by
  obtain ⟨css, hr, hn, hb, hl, hx⟩ := k
  refine ⟨css, hr.keep h fun g hg hy => ?_, hn, hb, hl, fun i x c e1 e2 => good_funcrf.keep (hx i x c e1 e2) h fun g hg hF => ?_⟩
  · have := hf g hg; have := (hY g hy).2; omega
  · have := hY g hg
    rcases hF.2 with h1 | h1 <;> omega
theorem FuncRF.of {s s' : St} {F : Nat → Prop} {x : FuncL} {c : List AV} (k : FuncR s.h x c) (hok : s.Ok) (h : Keep [] s s') (hF : ∀ g, g < s.ctr → F g) : FuncRF s'.h F x c := by
  obtain ⟨vp, vr, vc, e, h1, h2, h3⟩ := k
  exact ⟨vp, vr, vc, e, h1.keep0 h, h2.keep0 h, h3.keep0 h, fun g hg => hF g (h1.lt hok g hg), fun g hg => hF g (h2.lt hok g hg), fun g hg => hF g (h3.lt hok g hg)⟩
theorem FuncRF.to {h : Tr Grp} {F : Nat → Prop} {x : FuncL} {c : List AV} (k : FuncRF h F x c) : FuncR h x c := by
  obtain ⟨vp, vr, vc, e, h1, h2, h3, -⟩ := k
  exact ⟨vp, vr, vc, e, h1, h2, h3⟩
theorem Bld.leaf {α : Type} {R : RP α} {c0 hi : Nat} {s : St} {sz : Nat} {f : AV} {xs : List α} (k : Bld c0 hi s sz R f xs) : f.leaf = true := by
  obtain ⟨css, hr, -⟩ := k
  exact hr.leaf
theorem linkM_ok {h : St} {a b : ModL} {g2 a2 c2 f : AV} {hi : Nat} (k : linkE a b = 0) (h1 : Row h.h 1 g2 ((a.globals ++ b.globals).map lC)) (h2 : Row h.h 2 a2 ((a.arrays ++ b.arrays).map aC)) (h3 : Row h.h 1 c2 ((a.channels ++ b.channels).map lC)) {lo h' : Nat} (h4 : Bld 0 hi h 6 (FuncRH lo h') f (a.funcs ++ b.funcs.map (turnF a))) : ModR h.h (linkM a b) [g2, a2, c2, f] := by
  unfold linkM
  rw [if_pos k]
  obtain ⟨css, hr, -, -, hl, hx⟩ := h4
  exact ⟨_, _, _, _, rfl, h1, h2, h3, css, hr, hl, fun i x c e1 e2 => FuncRF.to (hx i x c e1 e2)⟩
set_option maxRecDepth 10000 in
set_option maxHeartbeats 8000000 in
theorem link_ref_ok {s : St} {ca cb : List AV} {ma mb : ModL} (hok : s.Ok) (hma : ma.small) (hmb : mb.small) (hva : ModR s.h ma ca) (hvb : ModR s.h mb cb) (hop : okM mb = true → ∀ x ∈ mb.funcs, ∀ y ∈ x.code, OpSmall y) :
    CallS Try.prog Tt Kt 29 [.agg ca, .agg cb] s (fun r s' => Keep [] s s' ∧ ∃ c', r = .tup [.agg c', .int .i64 (linkE ma mb)] ∧ ModR s'.h (linkM ma mb) c') := by
  have hza := hva.leaf.2
  have hzb := hvb.leaf.2
  obtain ⟨vga, vaa, vha, vfa, rfl, hga, haa, hha, csfa, hrfa, hlfa, hFa⟩ := id hva
  obtain ⟨vgb, vab, vhb, vfb, rfl, hgb, hab, hhb, csfb, hrfb, hlfb, hFb⟩ := id hvb
  obtain ⟨ha1, ha3, ha2, ha4, hsa⟩ := id hma
  obtain ⟨hb1, hb3, hb2, hb4, hsb⟩ := id hmb
  refine call_of (fn := Try.f29) (nt := 141) Try.func29 rfl rfl rfl ?_
  repeat refine wc_seq ?_
  refine wc_region ?_
  refine w_box rfl rfl rfl hza hok ?_
  intro s1 hpa hk1 hc1
  have hK := (Keep.refl hok).two hk1
  have hpa : Pt s1.h (.ptr s.ctr 0 0) [vga, vaa, vha, vfa] := hpa
  refine w_box rfl rfl rfl hzb hK.ok ?_
  intro s2 hpb hk2 hc2
  have hK := hK.two hk2
  have hpa := hpa.keep0 hk2
  have hpb : Pt s2.h (.ptr s1.ctr 0 0) [vgb, vab, vhb, vfb] := hpb
  refine w_alloc rfl rfl rfl rfl hK.ok ?_
  intro s3 hp4 hk3 hc3
  have hp4 : Pt s3.h (.ptr s2.ctr 0 0) [.nils, .nils, .nils, .nils] := hp4
  have hK := hK.two hk3
  have hpa := hpa.keep0 hk3
  have hpb := hpb.keep0 hk3
  refine w_val rfl rfl (op_pure rfl) ?_
  refine w_nil ?_
  refine then_n ?_
  repeat refine wc_seq ?_
  refine wc_region ?_
  refine w_val rfl rfl (op_load rfl rfl (by assumption) rfl) ?_
  refine w_call rfl rfl (op_call rfl rfl rfl rfl) (right_ref_ok hK.ok hma (by exact hva.keep0 hK)) ?_
  rintro _ s4 ⟨hk4, rfl⟩
  have hc4 := hk4.ctr
  have hK := hK.two hk4
  have hpa := hpa.keep0 hk4
  have hpb := hpb.keep0 hk4
  have hp4 := hp4.keep0 hk4
  generalize hra : ((checkF ma).1 == 0 && ((checkF ma).2.1 == 0 && ((checkF ma).2.2 == 0 && true))) = ra
  have hra : okM ma = ra := hra
  refine w_val rfl rfl (op_pure rfl) ?_
  refine w_val rfl rfl (op_pure rfl) ?_
  refine w_split (i := 15) rfl (fun h15 => ?_) (fun h15 => ?_)
  · simp only [Bool.not_eq_true'] at h15
    refine w_off rfl rfl ?_
    refine w_off rfl rfl ?_
    refine w_off rfl rfl ?_
    refine w_val rfl rfl (op_pure rfl) ?_
    refine w_nil ?_
    refine then_n ?_
    repeat refine wc_seq ?_
    refine wc_cond_t rfl ?_
    repeat refine wc_seq ?_
    refine wc_region ?_
    refine w_val rfl rfl (op_pure rfl) ?_
    refine w_store_all (old := [.nils, .nils, .nils, .nils]) rfl rfl rfl rfl rfl (by rfl) rfl hK.ok hp4 (by simp [AV.gs]) ?_
    intro sq hq hkq hcq
    have hq : Pt sq.h (.ptr s2.ctr 0 0) [.nils, .nils, .nils, .nils] := hq
    have hK := hK.fresh hkq (fun g hg => by rw [List.mem_singleton.1 hg]; omega)
    refine w_val rfl rfl (op_pure rfl) ?_
    refine w_nil ?_
    refine then_n ?_
    refine wc_ret ?_
    repeat first | refine then_r ?_ | refine out_r ?_ | refine round_r ?_ | refine cut_r ?_ | refine sc_r ?_
    exact ⟨_, res_cell2 rfl rfl rfl hq rfl, hK, _, congrArg (fun e => AV.tup [AV.agg [.nils, .nils, .nils, .nils], .int .i64 e]) (linkE_a (hra.trans h15)).symm, linkM_err (by rw [linkE_a (hra.trans h15)]; decide)⟩
  simp only [Bool.not_eq_false'] at h15
  refine w_val rfl rfl (op_load rfl rfl (by assumption) rfl) ?_
  refine w_call rfl rfl (op_call rfl rfl rfl rfl) (right_ref_ok hK.ok hmb (by exact hvb.keep0 hK)) ?_
  rintro _ s5 ⟨hk5, rfl⟩
  have hc5 := hk5.ctr
  have hK := hK.two hk5
  have hpa := hpa.keep0 hk5
  have hpb := hpb.keep0 hk5
  have hp4 := hp4.keep0 hk5
  generalize hrb : ((checkF mb).1 == 0 && ((checkF mb).2.1 == 0 && ((checkF mb).2.2 == 0 && true))) = rb
  have hrb : okM mb = rb := hrb
  refine w_val rfl rfl (op_pure rfl) ?_
  refine w_val rfl rfl (op_pure rfl) ?_
  refine w_nil ?_
  refine then_n ?_
  repeat refine wc_seq ?_
  refine wc_condT rfl (fun h19 => ?_) (fun h19 => ?_)
  · simp only [Bool.not_eq_true'] at h19
    repeat refine wc_seq ?_
    refine wc_region ?_
    refine w_val rfl rfl (op_pure rfl) ?_
    refine w_store_all (old := [.nils, .nils, .nils, .nils]) rfl rfl rfl rfl rfl (by rfl) rfl hK.ok hp4 (by simp [AV.gs]) ?_
    intro sq hq hkq hcq
    have hq : Pt sq.h (.ptr s2.ctr 0 0) [.nils, .nils, .nils, .nils] := hq
    have hK := hK.fresh hkq (fun g hg => by rw [List.mem_singleton.1 hg]; omega)
    refine w_val rfl rfl (op_pure rfl) ?_
    refine w_nil ?_
    refine then_n ?_
    refine wc_ret ?_
    repeat first | refine then_r ?_ | refine out_r ?_ | refine round_r ?_ | refine cut_r ?_ | refine sc_r ?_
    exact ⟨_, res_cell2 rfl rfl rfl hq rfl, hK, _, congrArg (fun e => AV.tup [AV.agg [.nils, .nils, .nils, .nils], .int .i64 e]) (linkE_b (hrb.trans h19)).symm, linkM_err (by rw [linkE_b (hrb.trans h19)]; decide)⟩
  simp only [Bool.not_eq_false'] at h19
  refine wc_skip ?_
  refine then_n ?_
  repeat refine wc_seq ?_
  have hsga : vga.slen = some ma.globals.length := hga.slenF
  have hsgb : vgb.slen = some mb.globals.length := hgb.slenF
  have hsaa : vaa.slen = some ma.arrays.length := haa.slenF
  have hsab : vab.slen = some mb.arrays.length := hab.slenF
  have hsha : vha.slen = some ma.channels.length := hha.slenF
  have hshb : vhb.slen = some mb.channels.length := hhb.slenF
  have hsfa : vfa.slen = some ma.funcs.length := hrfa.slen.trans (congrArg some hlfa)
  have hsfb : vfb.slen = some mb.funcs.length := hrfb.slen.trans (congrArg some hlfb)
  refine wc_region ?_
  refine w_val rfl rfl (op_fld rfl rfl rfl rfl (by decide) (by assumption) (Nat.le_of_ble_eq_true rfl)) ?_
  refine w_val rfl rfl (op_load rfl rfl (by assumption) rfl) ?_
  refine w_val rfl rfl (op_len rfl rfl rfl rfl rfl (by assumption)) ?_
  refine w_val rfl rfl (op_fld rfl rfl rfl rfl (by decide) (by assumption) (Nat.le_of_ble_eq_true rfl)) ?_
  refine w_val rfl rfl (op_load rfl rfl (by assumption) rfl) ?_
  refine w_val rfl rfl (op_len rfl rfl rfl rfl rfl (by assumption)) ?_
  refine w_val rfl rfl (op_add rfl rfl (by unfold In64; omega)) ?_
  refine w_val rfl rfl (op_pure rfl) ?_
  refine w_val rfl rfl (op_pure rfl) ?_
  refine w_split (i := 29) rfl (fun h29 => ?_) (fun h29 => ?_)
  · simp only [decide_eq_true_eq, gt_iff_lt] at h29
    refine w_off rfl rfl ?_
    refine w_off rfl rfl ?_
    refine w_off rfl rfl ?_
    refine w_off rfl rfl ?_
    refine w_off rfl rfl ?_
    refine w_off rfl rfl ?_
    refine w_off rfl rfl ?_
    refine w_off rfl rfl ?_
    refine w_val rfl rfl (op_pure rfl) ?_
    refine w_val rfl rfl (op_pure rfl) ?_
    refine w_off rfl rfl ?_
    refine w_off rfl rfl ?_
    refine w_off rfl rfl ?_
    refine w_off rfl rfl ?_
    refine w_off rfl rfl ?_
    refine w_off rfl rfl ?_
    refine w_off rfl rfl ?_
    refine w_off rfl rfl ?_
    refine w_val rfl rfl (op_pure rfl) ?_
    refine w_val rfl rfl (op_pure rfl) ?_
    refine w_off rfl rfl ?_
    refine w_off rfl rfl ?_
    refine w_off rfl rfl ?_
    refine w_off rfl rfl ?_
    refine w_off rfl rfl ?_
    refine w_off rfl rfl ?_
    refine w_off rfl rfl ?_
    refine w_off rfl rfl ?_
    refine w_val rfl rfl (op_pure rfl) ?_
    refine w_nil ?_
    refine then_n ?_
    repeat refine wc_seq ?_
    refine wc_cond_t rfl ?_
    repeat refine wc_seq ?_
    refine wc_region ?_
    refine w_val rfl rfl (op_pure rfl) ?_
    refine w_store_all (old := [.nils, .nils, .nils, .nils]) rfl rfl rfl rfl rfl (by rfl) rfl hK.ok hp4 (by simp [AV.gs]) ?_
    intro sq hq hkq hcq
    have hq : Pt sq.h (.ptr s2.ctr 0 0) [.nils, .nils, .nils, .nils] := hq
    have hK := hK.fresh hkq (fun g hg => by rw [List.mem_singleton.1 hg]; omega)
    refine w_val rfl rfl (op_pure rfl) ?_
    refine w_nil ?_
    refine then_n ?_
    refine wc_ret ?_
    repeat first | refine then_r ?_ | refine out_r ?_ | refine round_r ?_ | refine cut_r ?_ | refine sc_r ?_
    exact ⟨_, res_cell2 rfl rfl rfl hq rfl, hK, _, congrArg (fun e => AV.tup [AV.agg [.nils, .nils, .nils, .nils], .int .i64 e]) (linkE_many (hra.trans h15) (hrb.trans h19) (by omega)).symm, linkM_err (by rw [linkE_many (hra.trans h15) (hrb.trans h19) (by omega)]; decide)⟩
  simp only [decide_eq_false_iff_not, gt_iff_lt] at h29
  refine w_val rfl rfl (op_fld rfl rfl rfl rfl (by decide) (by assumption) (Nat.le_of_ble_eq_true rfl)) ?_
  refine w_val rfl rfl (op_load rfl rfl (Pt.fld (by assumption) _ (Nat.le_of_ble_eq_true rfl)) rfl) ?_
  refine w_val rfl rfl (op_len rfl rfl rfl rfl rfl (by assumption)) ?_
  refine w_val rfl rfl (op_fld rfl rfl rfl rfl (by decide) (by assumption) (Nat.le_of_ble_eq_true rfl)) ?_
  refine w_val rfl rfl (op_load rfl rfl (Pt.fld (by assumption) _ (Nat.le_of_ble_eq_true rfl)) rfl) ?_
  refine w_val rfl rfl (op_len rfl rfl rfl rfl rfl (by assumption)) ?_
  refine w_val rfl rfl (op_add rfl rfl (by unfold In64; omega)) ?_
  refine w_val rfl rfl (op_pure rfl) ?_
  refine w_val rfl rfl (op_pure rfl) ?_
  refine w_val rfl rfl (op_pure rfl) ?_
  refine w_split (i := 39) rfl (fun h39 => ?_) (fun h39 => ?_)
  · simp only [decide_eq_true_eq, gt_iff_lt] at h39
    refine w_off rfl rfl ?_
    refine w_off rfl rfl ?_
    refine w_off rfl rfl ?_
    refine w_off rfl rfl ?_
    refine w_off rfl rfl ?_
    refine w_off rfl rfl ?_
    refine w_off rfl rfl ?_
    refine w_off rfl rfl ?_
    refine w_val rfl rfl (op_pure rfl) ?_
    refine w_val rfl rfl (op_pure rfl) ?_
    refine w_off rfl rfl ?_
    refine w_off rfl rfl ?_
    refine w_off rfl rfl ?_
    refine w_off rfl rfl ?_
    refine w_off rfl rfl ?_
    refine w_off rfl rfl ?_
    refine w_off rfl rfl ?_
    refine w_off rfl rfl ?_
    refine w_val rfl rfl (op_pure rfl) ?_
    refine w_nil ?_
    refine then_n ?_
    repeat refine wc_seq ?_
    refine wc_cond_t rfl ?_
    repeat refine wc_seq ?_
    refine wc_region ?_
    refine w_val rfl rfl (op_pure rfl) ?_
    refine w_store_all (old := [.nils, .nils, .nils, .nils]) rfl rfl rfl rfl rfl (by rfl) rfl hK.ok hp4 (by simp [AV.gs]) ?_
    intro sq hq hkq hcq
    have hq : Pt sq.h (.ptr s2.ctr 0 0) [.nils, .nils, .nils, .nils] := hq
    have hK := hK.fresh hkq (fun g hg => by rw [List.mem_singleton.1 hg]; omega)
    refine w_val rfl rfl (op_pure rfl) ?_
    refine w_nil ?_
    refine then_n ?_
    refine wc_ret ?_
    repeat first | refine then_r ?_ | refine out_r ?_ | refine round_r ?_ | refine cut_r ?_ | refine sc_r ?_
    exact ⟨_, res_cell2 rfl rfl rfl hq rfl, hK, _, congrArg (fun e => AV.tup [AV.agg [.nils, .nils, .nils, .nils], .int .i64 e]) (linkE_many (hra.trans h15) (hrb.trans h19) (by omega)).symm, linkM_err (by rw [linkE_many (hra.trans h15) (hrb.trans h19) (by omega)]; decide)⟩
  simp only [decide_eq_false_iff_not, gt_iff_lt] at h39
  refine w_val rfl rfl (op_fld rfl rfl rfl rfl (by decide) (by assumption) (Nat.le_of_ble_eq_true rfl)) ?_
  refine w_val rfl rfl (op_load rfl rfl (Pt.fld (by assumption) _ (Nat.le_of_ble_eq_true rfl)) rfl) ?_
  refine w_val rfl rfl (op_len rfl rfl rfl rfl rfl (by assumption)) ?_
  refine w_val rfl rfl (op_fld rfl rfl rfl rfl (by decide) (by assumption) (Nat.le_of_ble_eq_true rfl)) ?_
  refine w_val rfl rfl (op_load rfl rfl (Pt.fld (by assumption) _ (Nat.le_of_ble_eq_true rfl)) rfl) ?_
  refine w_val rfl rfl (op_len rfl rfl rfl rfl rfl (by assumption)) ?_
  refine w_val rfl rfl (op_add rfl rfl (by unfold In64; omega)) ?_
  refine w_val rfl rfl (op_pure rfl) ?_
  refine w_val rfl rfl (op_pure rfl) ?_
  refine w_val rfl rfl (op_pure rfl) ?_
  refine w_split (i := 49) rfl (fun h49 => ?_) (fun h49 => ?_)
  · simp only [decide_eq_true_eq, gt_iff_lt] at h49
    refine w_off rfl rfl ?_
    refine w_off rfl rfl ?_
    refine w_off rfl rfl ?_
    refine w_off rfl rfl ?_
    refine w_off rfl rfl ?_
    refine w_off rfl rfl ?_
    refine w_off rfl rfl ?_
    refine w_off rfl rfl ?_
    refine w_val rfl rfl (op_pure rfl) ?_
    refine w_nil ?_
    refine then_n ?_
    repeat refine wc_seq ?_
    refine wc_cond_t rfl ?_
    repeat refine wc_seq ?_
    refine wc_region ?_
    refine w_val rfl rfl (op_pure rfl) ?_
    refine w_store_all (old := [.nils, .nils, .nils, .nils]) rfl rfl rfl rfl rfl (by rfl) rfl hK.ok hp4 (by simp [AV.gs]) ?_
    intro sq hq hkq hcq
    have hq : Pt sq.h (.ptr s2.ctr 0 0) [.nils, .nils, .nils, .nils] := hq
    have hK := hK.fresh hkq (fun g hg => by rw [List.mem_singleton.1 hg]; omega)
    refine w_val rfl rfl (op_pure rfl) ?_
    refine w_nil ?_
    refine then_n ?_
    refine wc_ret ?_
    repeat first | refine then_r ?_ | refine out_r ?_ | refine round_r ?_ | refine cut_r ?_ | refine sc_r ?_
    exact ⟨_, res_cell2 rfl rfl rfl hq rfl, hK, _, congrArg (fun e => AV.tup [AV.agg [.nils, .nils, .nils, .nils], .int .i64 e]) (linkE_many (hra.trans h15) (hrb.trans h19) (by omega)).symm, linkM_err (by rw [linkE_many (hra.trans h15) (hrb.trans h19) (by omega)]; decide)⟩
  simp only [decide_eq_false_iff_not, gt_iff_lt] at h49
  refine w_val rfl rfl (op_fld rfl rfl rfl rfl (by decide) (by assumption) (Nat.le_of_ble_eq_true rfl)) ?_
  refine w_val rfl rfl (op_load rfl rfl (Pt.fld (by assumption) _ (Nat.le_of_ble_eq_true rfl)) rfl) ?_
  refine w_val rfl rfl (op_len rfl rfl rfl rfl rfl (by assumption)) ?_
  refine w_val rfl rfl (op_fld rfl rfl rfl rfl (by decide) (by assumption) (Nat.le_of_ble_eq_true rfl)) ?_
  refine w_val rfl rfl (op_load rfl rfl (Pt.fld (by assumption) _ (Nat.le_of_ble_eq_true rfl)) rfl) ?_
  refine w_val rfl rfl (op_len rfl rfl rfl rfl rfl (by assumption)) ?_
  refine w_val rfl rfl (op_add rfl rfl (by unfold In64; omega)) ?_
  refine w_val rfl rfl (op_pure rfl) ?_
  refine w_val rfl rfl (op_pure rfl) ?_
  refine w_nil ?_
  refine then_n ?_
  repeat refine wc_seq ?_
  refine wc_condT rfl (fun h58 => ?_) (fun h58 => ?_)
  · simp only [decide_eq_true_eq, gt_iff_lt] at h58
    repeat refine wc_seq ?_
    refine wc_region ?_
    refine w_val rfl rfl (op_pure rfl) ?_
    refine w_store_all (old := [.nils, .nils, .nils, .nils]) rfl rfl rfl rfl rfl (by rfl) rfl hK.ok hp4 (by simp [AV.gs]) ?_
    intro sq hq hkq hcq
    have hq : Pt sq.h (.ptr s2.ctr 0 0) [.nils, .nils, .nils, .nils] := hq
    have hK := hK.fresh hkq (fun g hg => by rw [List.mem_singleton.1 hg]; omega)
    refine w_val rfl rfl (op_pure rfl) ?_
    refine w_nil ?_
    refine then_n ?_
    refine wc_ret ?_
    repeat first | refine then_r ?_ | refine out_r ?_ | refine round_r ?_ | refine cut_r ?_ | refine sc_r ?_
    exact ⟨_, res_cell2 rfl rfl rfl hq rfl, hK, _, congrArg (fun e => AV.tup [AV.agg [.nils, .nils, .nils, .nils], .int .i64 e]) (linkE_many (hra.trans h15) (hrb.trans h19) (by omega)).symm, linkM_err (by rw [linkE_many (hra.trans h15) (hrb.trans h19) (by omega)]; decide)⟩
  simp only [decide_eq_false_iff_not, gt_iff_lt] at h58
  refine wc_skip ?_
  refine then_n ?_
  repeat refine wc_seq ?_
  have hE : linkE ma mb = 0 := linkE_ok (hra.trans h15) (hrb.trans h19) (by omega)
  have hmany : ¬ (32 < ma.globals.length + mb.globals.length ∨ 16 < ma.arrays.length + mb.arrays.length ∨ 16 < ma.channels.length + mb.channels.length ∨ 32 < ma.funcs.length + mb.funcs.length) := by omega
  clear h29 h39 h49 h58
  refine wc_region ?_
  refine w_alloc rfl rfl rfl rfl hK.ok ?_
  intro s6 hp6 hk6 hc6
  have hp6 : Pt s6.h (.ptr s5.ctr 0 0) [.nils, .nils, .nils, .nils] := hp6
  have hK := hK.two hk6
  have hpa := hpa.keep0 hk6
  have hpb := hpb.keep0 hk6
  have hp4 := hp4.keep0 hk6
  refine w_nil ?_
  refine then_n ?_
  repeat refine wc_seq ?_
  refine wc_region ?_
  refine w_val rfl rfl (op_fld rfl rfl rfl rfl (by decide) (by assumption) (Nat.le_of_ble_eq_true rfl)) ?_
  refine w_val rfl rfl (op_load rfl rfl (by assumption) rfl) ?_
  refine w_val rfl rfl (op_fld rfl rfl rfl rfl (by decide) (by assumption) (Nat.le_of_ble_eq_true rfl)) ?_
  refine w_val rfl rfl (op_load rfl rfl (by assumption) rfl) ?_
  refine w_append (cs := []) rfl rfl rfl rfl rfl rfl rfl rfl rfl (by decide) hK.ok (row_nils _ _) (fun _ => rfl) (hga.keep0 hK) (by simp only [List.length_map, List.length_nil, maxBytes]; omega) (by simp only [List.length_map, List.length_nil, maxBytes]; omega) ?_
  rintro g1 s7 hg1 hk7 - hg7 ng1 -
  rw [List.nil_append] at hg1
  have hk7 : Keep [] s6 s7 := hk7
  have hc7 := hk7.ctr
  have lg1 : ∀ g ∈ g1.gs, s6.ctr ≤ g := by
    intro g hg
    rcases hg7 with e | e
    · rw [e] at hg; cases hg
    · rw [e] at hg; rw [List.mem_singleton.1 hg]; exact Nat.le_refl _
  have hK := hK.two hk7
  have hpa := hpa.keep0 hk7
  have hpb := hpb.keep0 hk7
  have hp4 := hp4.keep0 hk7
  have hp6 := hp6.keep0 hk7
  refine w_val rfl rfl (op_fld rfl rfl rfl rfl (by decide) (by assumption) (Nat.le_of_ble_eq_true rfl)) ?_
  refine w_store_fld (o := 0) rfl rfl rfl rfl (by rw [AV.cells_leaf hg1.leaf]; rfl) (by simp only [AV.cells_leaf hg1.leaf, List.all_cons, List.all_nil, hg1.leaf]; rfl) hK.ok hp6 (by simp [AV.gs]) (by rw [AV.cells_leaf hg1.leaf]; exact Nat.le_of_ble_eq_true rfl) ?_
  intro s8 hp6' hk8 hc8
  have hp6 : Pt s8.h (.ptr s5.ctr 0 0) [g1, .nils, .nils, .nils] := by rw [AV.cells_leaf hg1.leaf] at hp6'; exact hp6'
  have hK := hK.fresh hk8 (fun g hg => by rw [List.mem_singleton.1 hg]; omega)
  have hpa := hpa.keep hk8 (fun g hg h => by rw [List.mem_singleton.1 hg] at h; have := List.mem_singleton.1 h; omega)
  have hpb := hpb.keep hk8 (fun g hg h => by rw [List.mem_singleton.1 hg] at h; have := List.mem_singleton.1 h; omega)
  have hp4 := hp4.keep hk8 (fun g hg h => by rw [List.mem_singleton.1 hg] at h; have := List.mem_singleton.1 h; omega)
  have hg1 := hg1.keep hk8 (fun g hg h => by have e1 := List.mem_singleton.1 h; have e2 := lg1 g hg; omega)
  refine w_nil ?_
  refine then_n ?_
  repeat refine wc_seq ?_
  refine wc_region ?_
  refine w_val rfl rfl (op_fld rfl rfl rfl rfl (by decide) (by assumption) (Nat.le_of_ble_eq_true rfl)) ?_
  refine w_val rfl rfl (op_load rfl rfl (by assumption) rfl) ?_
  refine w_val rfl rfl (op_fld rfl rfl rfl rfl (by decide) (by assumption) (Nat.le_of_ble_eq_true rfl)) ?_
  refine w_val rfl rfl (op_load rfl rfl (by assumption) rfl) ?_
  refine w_append rfl rfl rfl rfl rfl rfl rfl rfl rfl (by decide) hK.ok hg1 ng1 (hgb.keep0 hK) (by simp only [List.length_map, maxBytes]; omega) (by simp only [List.length_map, maxBytes]; omega) ?_
  rintro g2 s9 hg2 hk9 - hg9 ng2 -
  rw [← List.map_append] at hg2
  have hc9 := hk9.ctr
  have lg2 : ∀ g ∈ g2.gs, s6.ctr ≤ g := by
    intro g hg
    rcases hg9 with e | e
    · rw [e] at hg; have := lg1 g hg; omega
    · rw [e] at hg; rw [List.mem_singleton.1 hg]; omega
  have hK := hK.fresh hk9 (fun g hg => by have := lg1 g hg; omega)
  have ug2 := hg2.lt hK.ok
  have hpa := hpa.keep hk9 (fun g hg h => by rw [List.mem_singleton.1 hg] at h; have := lg1 _ h; omega)
  have hpb := hpb.keep hk9 (fun g hg h => by rw [List.mem_singleton.1 hg] at h; have := lg1 _ h; omega)
  have hp4 := hp4.keep hk9 (fun g hg h => by rw [List.mem_singleton.1 hg] at h; have := lg1 _ h; omega)
  have hp6 := hp6.keep hk9 (fun g hg h => by rw [List.mem_singleton.1 hg] at h; have := lg1 _ h; omega)
  refine w_val rfl rfl (op_fld rfl rfl rfl rfl (by decide) (by assumption) (Nat.le_of_ble_eq_true rfl)) ?_
  refine w_store_fld (o := 0) rfl rfl rfl rfl (by rw [AV.cells_leaf hg2.leaf]; rfl) (by simp only [AV.cells_leaf hg2.leaf, List.all_cons, List.all_nil, hg2.leaf]; rfl) hK.ok hp6 (by simp [AV.gs]) (by rw [AV.cells_leaf hg2.leaf]; exact Nat.le_of_ble_eq_true rfl) ?_
  intro s10 hp6' hk10 hc10
  have hp6 : Pt s10.h (.ptr s5.ctr 0 0) [g2, .nils, .nils, .nils] := by rw [AV.cells_leaf hg2.leaf] at hp6'; exact hp6'
  have hK := hK.fresh hk10 (fun g hg => by rw [List.mem_singleton.1 hg]; omega)
  have hpa := hpa.keep hk10 (fun g hg h => by rw [List.mem_singleton.1 hg] at h; have := List.mem_singleton.1 h; omega)
  have hpb := hpb.keep hk10 (fun g hg h => by rw [List.mem_singleton.1 hg] at h; have := List.mem_singleton.1 h; omega)
  have hp4 := hp4.keep hk10 (fun g hg h => by rw [List.mem_singleton.1 hg] at h; have := List.mem_singleton.1 h; omega)
  have hg2 := hg2.keep hk10 (fun g hg h => by have e1 := List.mem_singleton.1 h; have e2 := lg2 g hg; omega)
  refine w_nil ?_
  refine then_n ?_
  repeat refine wc_seq ?_
  refine wc_region ?_
  refine w_val rfl rfl (op_fld rfl rfl rfl rfl (by decide) (by assumption) (Nat.le_of_ble_eq_true rfl)) ?_
  refine w_val rfl rfl (op_load rfl rfl (Pt.fld (by assumption) _ (Nat.le_of_ble_eq_true rfl)) rfl) ?_
  refine w_val rfl rfl (op_fld rfl rfl rfl rfl (by decide) (by assumption) (Nat.le_of_ble_eq_true rfl)) ?_
  refine w_val rfl rfl (op_load rfl rfl (Pt.fld (by assumption) _ (Nat.le_of_ble_eq_true rfl)) rfl) ?_
  refine w_append (cs := []) rfl rfl rfl rfl rfl rfl rfl rfl rfl (by decide) hK.ok (row_nils _ _) (fun _ => rfl) (haa.keep0 hK) (by simp only [List.length_map, List.length_nil, maxBytes]; omega) (by simp only [List.length_map, List.length_nil, maxBytes]; omega) ?_
  rintro a1 s11 ha1 hk11 - hg11 na1 -
  rw [List.nil_append] at ha1
  have hk11 : Keep [] s10 s11 := hk11
  have hc11 := hk11.ctr
  have la1 : ∀ g ∈ a1.gs, s10.ctr ≤ g := by
    intro g hg
    rcases hg11 with e | e
    · rw [e] at hg; cases hg
    · rw [e] at hg; rw [List.mem_singleton.1 hg]; exact Nat.le_refl _
  have hK := hK.two hk11
  have hpa := hpa.keep0 hk11
  have hpb := hpb.keep0 hk11
  have hp4 := hp4.keep0 hk11
  have hp6 := hp6.keep0 hk11
  have hg2 := hg2.keep0 hk11
  refine w_val rfl rfl (op_fld rfl rfl rfl rfl (by decide) (by assumption) (Nat.le_of_ble_eq_true rfl)) ?_
  refine w_store_fld (o := 1) rfl rfl rfl rfl (by rw [AV.cells_leaf ha1.leaf]; rfl) (by simp only [AV.cells_leaf ha1.leaf, List.all_cons, List.all_nil, ha1.leaf]; rfl) hK.ok hp6 (by simp [AV.gs]) (by rw [AV.cells_leaf ha1.leaf]; exact Nat.le_of_ble_eq_true rfl) ?_
  intro s12 hp6' hk12 hc12
  have hp6 : Pt s12.h (.ptr s5.ctr 0 0) [g2, a1, .nils, .nils] := by rw [AV.cells_leaf ha1.leaf] at hp6'; exact hp6'
  have hK := hK.fresh hk12 (fun g hg => by rw [List.mem_singleton.1 hg]; omega)
  have hpa := hpa.keep hk12 (fun g hg h => by rw [List.mem_singleton.1 hg] at h; have := List.mem_singleton.1 h; omega)
  have hpb := hpb.keep hk12 (fun g hg h => by rw [List.mem_singleton.1 hg] at h; have := List.mem_singleton.1 h; omega)
  have hp4 := hp4.keep hk12 (fun g hg h => by rw [List.mem_singleton.1 hg] at h; have := List.mem_singleton.1 h; omega)
  have hg2 := hg2.keep hk12 (fun g hg h => by have e1 := List.mem_singleton.1 h; have e2 := lg2 g hg; omega)
  have ha1 := ha1.keep hk12 (fun g hg h => by have e1 := List.mem_singleton.1 h; have e2 := la1 g hg; omega)
  refine w_nil ?_
  refine then_n ?_
  repeat refine wc_seq ?_
  refine wc_region ?_
  refine w_val rfl rfl (op_fld rfl rfl rfl rfl (by decide) (by assumption) (Nat.le_of_ble_eq_true rfl)) ?_
  refine w_val rfl rfl (op_load rfl rfl (Pt.fld (by assumption) _ (Nat.le_of_ble_eq_true rfl)) rfl) ?_
  refine w_val rfl rfl (op_fld rfl rfl rfl rfl (by decide) (by assumption) (Nat.le_of_ble_eq_true rfl)) ?_
  refine w_val rfl rfl (op_load rfl rfl (Pt.fld (by assumption) _ (Nat.le_of_ble_eq_true rfl)) rfl) ?_
  refine w_append rfl rfl rfl rfl rfl rfl rfl rfl rfl (by decide) hK.ok ha1 na1 (hab.keep0 hK) (by simp only [List.length_map, maxBytes]; omega) (by simp only [List.length_map, maxBytes]; omega) ?_
  rintro a2 s13 ha2 hk13 - hg13 na2 -
  rw [← List.map_append] at ha2
  have hc13 := hk13.ctr
  have la2 : ∀ g ∈ a2.gs, s6.ctr ≤ g := by
    intro g hg
    rcases hg13 with e | e
    · rw [e] at hg; have := la1 g hg; omega
    · rw [e] at hg; rw [List.mem_singleton.1 hg]; omega
  have hK := hK.fresh hk13 (fun g hg => by have := la1 g hg; omega)
  have ua2 := ha2.lt hK.ok
  have hpa := hpa.keep hk13 (fun g hg h => by rw [List.mem_singleton.1 hg] at h; have := la1 _ h; omega)
  have hpb := hpb.keep hk13 (fun g hg h => by rw [List.mem_singleton.1 hg] at h; have := la1 _ h; omega)
  have hp4 := hp4.keep hk13 (fun g hg h => by rw [List.mem_singleton.1 hg] at h; have := la1 _ h; omega)
  have hp6 := hp6.keep hk13 (fun g hg h => by rw [List.mem_singleton.1 hg] at h; have := la1 _ h; omega)
  have hg2 := hg2.keep hk13 (fun g hg h => by have := ug2 g hg; have := la1 g h; omega)
  refine w_val rfl rfl (op_fld rfl rfl rfl rfl (by decide) (by assumption) (Nat.le_of_ble_eq_true rfl)) ?_
  refine w_store_fld (o := 1) rfl rfl rfl rfl (by rw [AV.cells_leaf ha2.leaf]; rfl) (by simp only [AV.cells_leaf ha2.leaf, List.all_cons, List.all_nil, ha2.leaf]; rfl) hK.ok hp6 (by simp [AV.gs]) (by rw [AV.cells_leaf ha2.leaf]; exact Nat.le_of_ble_eq_true rfl) ?_
  intro s14 hp6' hk14 hc14
  have hp6 : Pt s14.h (.ptr s5.ctr 0 0) [g2, a2, .nils, .nils] := by rw [AV.cells_leaf ha2.leaf] at hp6'; exact hp6'
  have hK := hK.fresh hk14 (fun g hg => by rw [List.mem_singleton.1 hg]; omega)
  have hpa := hpa.keep hk14 (fun g hg h => by rw [List.mem_singleton.1 hg] at h; have := List.mem_singleton.1 h; omega)
  have hpb := hpb.keep hk14 (fun g hg h => by rw [List.mem_singleton.1 hg] at h; have := List.mem_singleton.1 h; omega)
  have hp4 := hp4.keep hk14 (fun g hg h => by rw [List.mem_singleton.1 hg] at h; have := List.mem_singleton.1 h; omega)
  have hg2 := hg2.keep hk14 (fun g hg h => by have e1 := List.mem_singleton.1 h; have e2 := lg2 g hg; omega)
  have ha2 := ha2.keep hk14 (fun g hg h => by have e1 := List.mem_singleton.1 h; have e2 := la2 g hg; omega)
  refine w_nil ?_
  refine then_n ?_
  repeat refine wc_seq ?_
  refine wc_region ?_
  refine w_val rfl rfl (op_fld rfl rfl rfl rfl (by decide) (by assumption) (Nat.le_of_ble_eq_true rfl)) ?_
  refine w_val rfl rfl (op_load rfl rfl (Pt.fld (by assumption) _ (Nat.le_of_ble_eq_true rfl)) rfl) ?_
  refine w_val rfl rfl (op_fld rfl rfl rfl rfl (by decide) (by assumption) (Nat.le_of_ble_eq_true rfl)) ?_
  refine w_val rfl rfl (op_load rfl rfl (Pt.fld (by assumption) _ (Nat.le_of_ble_eq_true rfl)) rfl) ?_
  refine w_append (cs := []) rfl rfl rfl rfl rfl rfl rfl rfl rfl (by decide) hK.ok (row_nils _ _) (fun _ => rfl) (hha.keep0 hK) (by simp only [List.length_map, List.length_nil, maxBytes]; omega) (by simp only [List.length_map, List.length_nil, maxBytes]; omega) ?_
  rintro c1 s15 hc1 hk15 - hg15 nc1 -
  rw [List.nil_append] at hc1
  have hk15 : Keep [] s14 s15 := hk15
  have hc15 := hk15.ctr
  have lc1 : ∀ g ∈ c1.gs, s14.ctr ≤ g := by
    intro g hg
    rcases hg15 with e | e
    · rw [e] at hg; cases hg
    · rw [e] at hg; rw [List.mem_singleton.1 hg]; exact Nat.le_refl _
  have hK := hK.two hk15
  have hpa := hpa.keep0 hk15
  have hpb := hpb.keep0 hk15
  have hp4 := hp4.keep0 hk15
  have hp6 := hp6.keep0 hk15
  have hg2 := hg2.keep0 hk15
  have ha2 := ha2.keep0 hk15
  refine w_val rfl rfl (op_fld rfl rfl rfl rfl (by decide) (by assumption) (Nat.le_of_ble_eq_true rfl)) ?_
  refine w_store_fld (o := 2) rfl rfl rfl rfl (by rw [AV.cells_leaf hc1.leaf]; rfl) (by simp only [AV.cells_leaf hc1.leaf, List.all_cons, List.all_nil, hc1.leaf]; rfl) hK.ok hp6 (by simp [AV.gs]) (by rw [AV.cells_leaf hc1.leaf]; exact Nat.le_of_ble_eq_true rfl) ?_
  intro s16 hp6' hk16 hc16
  have hp6 : Pt s16.h (.ptr s5.ctr 0 0) [g2, a2, c1, .nils] := by rw [AV.cells_leaf hc1.leaf] at hp6'; exact hp6'
  have hK := hK.fresh hk16 (fun g hg => by rw [List.mem_singleton.1 hg]; omega)
  have hpa := hpa.keep hk16 (fun g hg h => by rw [List.mem_singleton.1 hg] at h; have := List.mem_singleton.1 h; omega)
  have hpb := hpb.keep hk16 (fun g hg h => by rw [List.mem_singleton.1 hg] at h; have := List.mem_singleton.1 h; omega)
  have hp4 := hp4.keep hk16 (fun g hg h => by rw [List.mem_singleton.1 hg] at h; have := List.mem_singleton.1 h; omega)
  have hg2 := hg2.keep hk16 (fun g hg h => by have e1 := List.mem_singleton.1 h; have e2 := lg2 g hg; omega)
  have ha2 := ha2.keep hk16 (fun g hg h => by have e1 := List.mem_singleton.1 h; have e2 := la2 g hg; omega)
  have hc1 := hc1.keep hk16 (fun g hg h => by have e1 := List.mem_singleton.1 h; have e2 := lc1 g hg; omega)
  refine w_nil ?_
  refine then_n ?_
  repeat refine wc_seq ?_
  refine wc_region ?_
  refine w_val rfl rfl (op_fld rfl rfl rfl rfl (by decide) (by assumption) (Nat.le_of_ble_eq_true rfl)) ?_
  refine w_val rfl rfl (op_load rfl rfl (Pt.fld (by assumption) _ (Nat.le_of_ble_eq_true rfl)) rfl) ?_
  refine w_val rfl rfl (op_fld rfl rfl rfl rfl (by decide) (by assumption) (Nat.le_of_ble_eq_true rfl)) ?_
  refine w_val rfl rfl (op_load rfl rfl (Pt.fld (by assumption) _ (Nat.le_of_ble_eq_true rfl)) rfl) ?_
  refine w_append rfl rfl rfl rfl rfl rfl rfl rfl rfl (by decide) hK.ok hc1 nc1 (hhb.keep0 hK) (by simp only [List.length_map, maxBytes]; omega) (by simp only [List.length_map, maxBytes]; omega) ?_
  rintro c2 s17 hc2 hk17 - hg17 nc2 -
  rw [← List.map_append] at hc2
  have hc17 := hk17.ctr
  have lc2 : ∀ g ∈ c2.gs, s6.ctr ≤ g := by
    intro g hg
    rcases hg17 with e | e
    · rw [e] at hg; have := lc1 g hg; omega
    · rw [e] at hg; rw [List.mem_singleton.1 hg]; omega
  have hK := hK.fresh hk17 (fun g hg => by have := lc1 g hg; omega)
  have uc2 := hc2.lt hK.ok
  have hpa := hpa.keep hk17 (fun g hg h => by rw [List.mem_singleton.1 hg] at h; have := lc1 _ h; omega)
  have hpb := hpb.keep hk17 (fun g hg h => by rw [List.mem_singleton.1 hg] at h; have := lc1 _ h; omega)
  have hp4 := hp4.keep hk17 (fun g hg h => by rw [List.mem_singleton.1 hg] at h; have := lc1 _ h; omega)
  have hp6 := hp6.keep hk17 (fun g hg h => by rw [List.mem_singleton.1 hg] at h; have := lc1 _ h; omega)
  have hg2 := hg2.keep hk17 (fun g hg h => by have := ug2 g hg; have := lc1 g h; omega)
  have ha2 := ha2.keep hk17 (fun g hg h => by have := ua2 g hg; have := lc1 g h; omega)
  refine w_val rfl rfl (op_fld rfl rfl rfl rfl (by decide) (by assumption) (Nat.le_of_ble_eq_true rfl)) ?_
  refine w_store_fld (o := 2) rfl rfl rfl rfl (by rw [AV.cells_leaf hc2.leaf]; rfl) (by simp only [AV.cells_leaf hc2.leaf, List.all_cons, List.all_nil, hc2.leaf]; rfl) hK.ok hp6 (by simp [AV.gs]) (by rw [AV.cells_leaf hc2.leaf]; exact Nat.le_of_ble_eq_true rfl) ?_
  intro s18 hp6' hk18 hc18
  have hp6 : Pt s18.h (.ptr s5.ctr 0 0) [g2, a2, c2, .nils] := by rw [AV.cells_leaf hc2.leaf] at hp6'; exact hp6'
  have hK := hK.fresh hk18 (fun g hg => by rw [List.mem_singleton.1 hg]; omega)
  have hpa := hpa.keep hk18 (fun g hg h => by rw [List.mem_singleton.1 hg] at h; have := List.mem_singleton.1 h; omega)
  have hpb := hpb.keep hk18 (fun g hg h => by rw [List.mem_singleton.1 hg] at h; have := List.mem_singleton.1 h; omega)
  have hp4 := hp4.keep hk18 (fun g hg h => by rw [List.mem_singleton.1 hg] at h; have := List.mem_singleton.1 h; omega)
  have hg2 := hg2.keep hk18 (fun g hg h => by have e1 := List.mem_singleton.1 h; have e2 := lg2 g hg; omega)
  have ha2 := ha2.keep hk18 (fun g hg h => by have e1 := List.mem_singleton.1 h; have e2 := la2 g hg; omega)
  have hc2 := hc2.keep hk18 (fun g hg h => by have e1 := List.mem_singleton.1 h; have e2 := lc2 g hg; omega)
  refine w_nil ?_
  refine then_n ?_
  repeat refine wc_seq ?_
  refine wc_region ?_
  refine w_val rfl rfl (op_fld rfl rfl rfl rfl (by decide) (by assumption) (Nat.le_of_ble_eq_true rfl)) ?_
  refine w_val rfl rfl (op_load rfl rfl (Pt.fld (by assumption) _ (Nat.le_of_ble_eq_true rfl)) rfl) ?_
  refine w_val rfl rfl (op_fld rfl rfl rfl rfl (by decide) (by assumption) (Nat.le_of_ble_eq_true rfl)) ?_
  refine w_val rfl rfl (op_load rfl rfl (Pt.fld (by assumption) _ (Nat.le_of_ble_eq_true rfl)) rfl) ?_
  refine w_append (cs := []) rfl rfl rfl rfl rfl rfl rfl rfl rfl (by decide) hK.ok (row_nils _ _) (fun _ => rfl) (hrfa.keep0 hK) (by simp only [List.length_nil, maxBytes]; omega) (by simp only [List.length_nil, maxBytes]; omega) ?_
  rintro f1 s19 hf1 hk19 - hg19 nf1 -
  have hf1 : Row s19.h 6 f1 csfa := hf1
  have hk19 : Keep [] s18 s19 := hk19
  have hc19 := hk19.ctr
  have lf1 : ∀ g ∈ f1.gs, s18.ctr ≤ g := by
    intro g hg
    rcases hg19 with e | e
    · rw [e] at hg; cases hg
    · rw [e] at hg; rw [List.mem_singleton.1 hg]; exact Nat.le_refl _
  have hK := hK.two hk19
  have hpa := hpa.keep0 hk19
  have hpb := hpb.keep0 hk19
  have hp4 := hp4.keep0 hk19
  have hp6 := hp6.keep0 hk19
  have hg2 := hg2.keep0 hk19
  have ha2 := ha2.keep0 hk19
  have hc2 := hc2.keep0 hk19
  refine w_val rfl rfl (op_fld rfl rfl rfl rfl (by decide) (by assumption) (Nat.le_of_ble_eq_true rfl)) ?_
  refine w_store_fld (o := 3) rfl rfl rfl rfl (by rw [AV.cells_leaf hf1.leaf]; rfl) (by simp only [AV.cells_leaf hf1.leaf, List.all_cons, List.all_nil, hf1.leaf]; rfl) hK.ok hp6 (by simp [AV.gs]) (by rw [AV.cells_leaf hf1.leaf]; exact Nat.le_of_ble_eq_true rfl) ?_
  intro s20 hp6' hk20 hc20
  have hp6 : Pt s20.h (.ptr s5.ctr 0 0) [g2, a2, c2, f1] := by rw [AV.cells_leaf hf1.leaf] at hp6'; exact hp6'
  have hK := hK.fresh hk20 (fun g hg => by rw [List.mem_singleton.1 hg]; omega)
  have hpa := hpa.keep hk20 (fun g hg h => by rw [List.mem_singleton.1 hg] at h; have := List.mem_singleton.1 h; omega)
  have hpb := hpb.keep hk20 (fun g hg h => by rw [List.mem_singleton.1 hg] at h; have := List.mem_singleton.1 h; omega)
  have hp4 := hp4.keep hk20 (fun g hg h => by rw [List.mem_singleton.1 hg] at h; have := List.mem_singleton.1 h; omega)
  have hg2 := hg2.keep hk20 (fun g hg h => by have e1 := List.mem_singleton.1 h; have e2 := lg2 g hg; omega)
  have ha2 := ha2.keep hk20 (fun g hg h => by have e1 := List.mem_singleton.1 h; have e2 := la2 g hg; omega)
  have hc2 := hc2.keep hk20 (fun g hg h => by have e1 := List.mem_singleton.1 h; have e2 := lc2 g hg; omega)
  have hf1 := hf1.keep hk20 (fun g hg h => by have e1 := List.mem_singleton.1 h; have e2 := lf1 g hg; omega)
  refine w_nil ?_
  refine then_n ?_
  repeat refine wc_seq ?_
  have hB : Bld 0 s20.ctr s20 6 (FuncRH s.ctr s6.ctr) f1 (ma.funcs ++ (mb.funcs.take 0).map (turnF ma)) := by
    refine ⟨csfa, hf1, nf1, fun g hg => ⟨Nat.zero_le _, hf1.lt hK.ok g hg⟩, by simp [hlfa], fun i x c h1 h2 => ?_⟩
    rw [List.take_zero, List.map_nil, List.append_nil] at h1
    exact FuncRF.of (hFa i x c h1 h2) hok hK fun g hg => ⟨⟨Nat.zero_le _, by have := hK.ctr; omega, fun h => by have := lf1 g h; omega⟩, .inl hg⟩
  have hcM : s18.ctr ≤ s20.ctr := by omega
  clear hf1 nf1
  refine wc_region ?_
  refine w_val rfl rfl (op_pure rfl) ?_
  refine w_nil ?_
  refine then_n ?_
  repeat refine wc_seq ?_
  refine wc_block ?_
  refine wc_loop_at (fun j m sI => ∃ (k : Nat) (f : AV), j = mb.funcs.length - k ∧ k ≤ mb.funcs.length ∧ m = [(2, .ptr s.ctr 0 0), (3, .ptr s1.ctr 0 0), (4, .ptr s2.ctr 0 0), (6, .ptr s5.ctr 0 0), (7, .int .i64 (k : Nat))] ∧ Keep [] s sI ∧ Pt sI.h (.ptr s.ctr 0 0) [vga, vaa, vha, vfa] ∧ Pt sI.h (.ptr s1.ctr 0 0) [vgb, vab, vhb, vfb] ∧ Pt sI.h (.ptr s2.ctr 0 0) [.nils, .nils, .nils, .nils] ∧ Row sI.h 1 g2 ((ma.globals ++ mb.globals).map lC) ∧ Row sI.h 2 a2 ((ma.arrays ++ mb.arrays).map aC) ∧ Row sI.h 1 c2 ((ma.channels ++ mb.channels).map lC) ∧ s18.ctr ≤ sI.ctr ∧ Pt sI.h (.ptr s5.ctr 0 0) [g2, a2, c2, f] ∧ (∀ g ∈ f.gs, s18.ctr ≤ g) ∧ Bld 0 sI.ctr sI 6 (FuncRH s.ctr s6.ctr) f (ma.funcs ++ (mb.funcs.take k).map (turnF ma))) mb.funcs.length
    [(2, .ptr s.ctr 0 0), (3, .ptr s1.ctr 0 0), (4, .ptr s2.ctr 0 0), (6, .ptr s5.ctr 0 0), (7, .int .i64 ((0 : Nat) : Int))] (Sub.cons rfl (Sub.cons rfl (Sub.cons rfl (Sub.cons rfl (Sub.cons rfl (Sub.nil _)))))) ⟨0, f1, by simp, by simp, rfl, hK, hpa, hpb, hp4, hg2, ha2, hc2, hcM, hp6, lf1, hB⟩ ?_
  clear hK hpa hpb hp4 hg2 ha2 hc2 hp6 lf1 hB hcM
  rintro j m sI ⟨k, f, rfl, hkn, rfl, hK, hpa, hpb, hp4, hg2, ha2, hc2, hcI, hp6, lf, hB⟩
  repeat refine wc_seq ?_
  refine wc_region ?_
  refine w_val rfl rfl (op_pure rfl) ?_
  refine w_val rfl rfl (op_fld rfl rfl rfl rfl (by decide) (by assumption) (Nat.le_of_ble_eq_true rfl)) ?_
  refine w_val rfl rfl (op_load rfl rfl (Pt.fld (by assumption) _ (Nat.le_of_ble_eq_true rfl)) rfl) ?_
  refine w_val rfl rfl (op_len rfl rfl rfl rfl rfl (by assumption)) ?_
  refine w_val rfl rfl (op_pure rfl) ?_
  refine w_nil ?_
  refine then_n ?_
  repeat refine wc_seq ?_
  refine wc_condT rfl (fun h106 => ?_) (fun h106 => ?_)
  · simp only [decide_eq_true_eq] at h106
    refine wc_skip ?_
    refine then_n ?_
    repeat refine wc_seq ?_
    refine wc_block ?_
    repeat refine wc_seq ?_
    obtain ⟨x, hx⟩ : ∃ x, mb.funcs[k]? = some x := ⟨_, List.getElem?_eq_getElem (by omega)⟩
    obtain ⟨cx, hcx⟩ : ∃ c, csfb[k]? = some c := ⟨_, List.getElem?_eq_getElem (by omega)⟩
    have hfx := hFb k x cx hx hcx
    have hzx := hfx.leaf.2
    obtain ⟨vp, vr, vc, rfl, hvp, hvr, hvc⟩ := hfx
    have hsx := hsb x (List.mem_of_getElem? hx)
    have hx3 := hsx.2.2
    have hsc : vc.slen = some x.code.length := hvc.slenF
    have hvcl := hvc.lt hok
    refine wc_region ?_
    refine w_val rfl rfl (op_fld rfl rfl rfl rfl (by decide) (by assumption) (Nat.le_of_ble_eq_true rfl)) ?_
    refine w_val rfl rfl (op_load rfl rfl (Pt.fld (by assumption) _ (Nat.le_of_ble_eq_true rfl)) rfl) ?_
    refine w_val rfl rfl (op_pure rfl) ?_
    refine w_val rfl rfl (op_idx rfl rfl (natA_cast _ _) rfl rfl rfl rfl (Row.keep0 (by assumption) hK) (by omega)) ?_
    refine w_val rfl rfl (op_load rfl rfl (Pt.keep0 (Row.pt (by assumption) (by assumption)) hK) rfl) ?_
    refine w_alloc rfl rfl rfl rfl hK.ok ?_
    intro sa hp8 hka hca
    have hK := hK.two hka
    have hpa := hpa.keep0 hka
    have hpb := hpb.keep0 hka
    have hp4 := hp4.keep0 hka
    have hp6 := hp6.keep0 hka
    have hg2 := hg2.keep0 hka
    have ha2 := ha2.keep0 hka
    have hc2 := hc2.keep0 hka
    have hB := hB.keep good_funcr hka (fun g hg => by cases hg)
    refine w_store_all rfl rfl rfl rfl rfl (by rfl) hzx hK.ok hp8 (by simp [AV.gs]) ?_
    intro sb hp8 hkb hcb
    have hp8 : Pt sb.h (.ptr sI.ctr 0 0) [.int .u64 x.level, vp, vr, .int .i64 x.locals, .int .i64 x.stack, vc] := hp8
    have hK := hK.fresh hkb (fun g hg => by rw [List.mem_singleton.1 hg]; omega)
    have hpa := hpa.keep hkb (fun g hg h => by rw [List.mem_singleton.1 hg] at h; have := List.mem_singleton.1 h; omega)
    have hpb := hpb.keep hkb (fun g hg h => by rw [List.mem_singleton.1 hg] at h; have := List.mem_singleton.1 h; omega)
    have hp4 := hp4.keep hkb (fun g hg h => by rw [List.mem_singleton.1 hg] at h; have := List.mem_singleton.1 h; omega)
    have hp6 := hp6.keep hkb (fun g hg h => by rw [List.mem_singleton.1 hg] at h; have := List.mem_singleton.1 h; omega)
    have hg2 := hg2.keep hkb (fun g hg h => by have e1 := List.mem_singleton.1 h; have e2 := ug2 g hg; omega)
    have ha2 := ha2.keep hkb (fun g hg h => by have e1 := List.mem_singleton.1 h; have e2 := ua2 g hg; omega)
    have hc2 := hc2.keep hkb (fun g hg h => by have e1 := List.mem_singleton.1 h; have e2 := uc2 g hg; omega)
    have hB := hB.keep good_funcr hkb (fun g hg => by rw [List.mem_singleton.1 hg]; exact Nat.le_refl _)
    refine w_nil ?_
    refine then_n ?_
    repeat refine wc_seq ?_
    refine wc_region ?_
    refine w_val rfl rfl (op_pure rfl) ?_
    refine w_nil ?_
    refine then_n ?_
    repeat refine wc_seq ?_
    refine wc_region ?_
    refine w_val rfl rfl (op_pure rfl) ?_
    refine w_nil ?_
    refine then_n ?_
    repeat refine wc_seq ?_
    refine wc_block ?_
    refine wc_loop_at (fun j m sJ => ∃ (q : Nat) (w : AV), j = x.code.length - q ∧ q ≤ x.code.length ∧ m = [(2, .ptr s.ctr 0 0), (3, .ptr s1.ctr 0 0), (4, .ptr s2.ctr 0 0), (6, .ptr s5.ctr 0 0), (7, .int .i64 (k : Nat)), (8, .ptr sI.ctr 0 0), (9, w), (10, .int .i64 (q : Nat))] ∧ Keep [] s sJ ∧ Pt sJ.h (.ptr s.ctr 0 0) [vga, vaa, vha, vfa] ∧ Pt sJ.h (.ptr s1.ctr 0 0) [vgb, vab, vhb, vfb] ∧ Pt sJ.h (.ptr s2.ctr 0 0) [.nils, .nils, .nils, .nils] ∧ Row sJ.h 1 g2 ((ma.globals ++ mb.globals).map lC) ∧ Row sJ.h 2 a2 ((ma.arrays ++ mb.arrays).map aC) ∧ Row sJ.h 1 c2 ((ma.channels ++ mb.channels).map lC) ∧ sb.ctr ≤ sJ.ctr ∧ Pt sJ.h (.ptr s5.ctr 0 0) [g2, a2, c2, f] ∧ Bld 0 sI.ctr sJ 6 (FuncRH s.ctr s6.ctr) f (ma.funcs ++ (mb.funcs.take k).map (turnF ma)) ∧ Pt sJ.h (.ptr sI.ctr 0 0) [.int .u64 x.level, vp, vr, .int .i64 x.locals, .int .i64 x.stack, vc] ∧
        Row sJ.h 2 w (((x.code.take q).map (turnI ma)).map inC) ∧ (w.gs = [] → w = .nils) ∧ ∀ g ∈ w.gs, sb.ctr ≤ g) x.code.length
      [(2, .ptr s.ctr 0 0), (3, .ptr s1.ctr 0 0), (4, .ptr s2.ctr 0 0), (6, .ptr s5.ctr 0 0), (7, .int .i64 (k : Nat)), (8, .ptr sI.ctr 0 0), (9, .nils), (10, .int .i64 ((0 : Nat) : Int))] (Sub.cons rfl (Sub.cons rfl (Sub.cons rfl (Sub.cons rfl (Sub.cons rfl (Sub.cons rfl (Sub.cons rfl (Sub.cons rfl (Sub.nil _))))))))) ⟨0, .nils, by simp, by simp, rfl, hK, hpa, hpb, hp4, hg2, ha2, hc2, Nat.le_refl _, hp6, hB, hp8, rfl, fun _ => rfl, fun g hg => by cases hg⟩ ?_
    clear hK hpa hpb hp4 hg2 ha2 hc2 hp6 hB hp8
    rintro j1 m1 sJ ⟨q, w, rfl, hqn, rfl, hK, hpa, hpb, hp4, hg2, ha2, hc2, hcJ, hp6, hB, hp8, hw, nw, lw⟩
    repeat refine wc_seq ?_
    refine wc_region ?_
    refine w_val rfl rfl (op_pure rfl) ?_
    refine w_val rfl rfl (op_fld rfl rfl rfl rfl (by decide) (by assumption) (Nat.le_of_ble_eq_true rfl)) ?_
    refine w_val rfl rfl (op_load rfl rfl (Pt.fld (by assumption) _ (Nat.le_of_ble_eq_true rfl)) rfl) ?_
    refine w_val rfl rfl (op_len rfl rfl rfl rfl rfl (by assumption)) ?_
    refine w_val rfl rfl (op_pure rfl) ?_
    refine w_nil ?_
    refine then_n ?_
    repeat refine wc_seq ?_
    refine wc_condT rfl (fun h118 => ?_) (fun h118 => ?_)
    · simp only [decide_eq_true_eq] at h118
      refine wc_skip ?_
      refine then_n ?_
      repeat refine wc_seq ?_
      refine wc_block ?_
      repeat refine wc_seq ?_
      obtain ⟨y, hy⟩ : ∃ x', x.code[q]? = some x' := ⟨_, List.getElem?_eq_getElem (by omega)⟩
      have uw := hw.lt hK.ok
      obtain ⟨hkN, hgN, hcN⟩ := newG_keep hK.ok ⟨[⟨[.int .i64 0, .int .i64 0], 0, none⟩]⟩
      have hv := rd_new (cs := [AV.int .i64 0, AV.int .i64 0]) hK.ok
      have hvN : Pt (sJ.newG ⟨[⟨[.int .i64 0, .int .i64 0], 0, none⟩]⟩).h (.ptr sJ.ctr 0 0) [.int .i64 0, .int .i64 0] := hv
      clear hv hgN
      refine wc_early (D := Old (sJ.newG ⟨[⟨[.int .i64 0, .int .i64 0], 0, none⟩]⟩) [sJ.ctr]) (A := [(7, sJ.ctr)]) (s0 := sJ.newG ⟨[⟨[.int .i64 0, .int .i64 0], 0, none⟩]⟩) (by kernel_rfl) rfl ?_
      generalize sJ.newG ⟨[⟨[.int .i64 0, .int .i64 0], 0, none⟩]⟩ = sN at hkN hcN hvN ⊢
      have hK := hK.two hkN
      have hpa := hpa.keep0 hkN
      have hpb := hpb.keep0 hkN
      have hp4 := hp4.keep0 hkN
      have hp6 := hp6.keep0 hkN
      have hg2 := hg2.keep0 hkN
      have ha2 := ha2.keep0 hkN
      have hc2 := hc2.keep0 hkN
      have hB := hB.keep good_funcr hkN (fun g hg => by cases hg)
      have hp8 := hp8.keep0 hkN
      have hw := hw.keep0 hkN
      have hR := Keep.refl hK.ok
      have hvcN := hvc.keep0 hK
      have hmN : ModR sN.h ma [vga, vaa, vha, vfa] := hva.keep0 hK
      have hXp : ∀ {c : Nat}, c < sJ.ctr → ∀ g ∈ [c], g ∉ [sJ.ctr] := fun hlt g hg h => by rw [List.mem_singleton.1 hg] at h; have := List.mem_singleton.1 h; omega
      have hXe : ∀ g ∈ (elemA vc q).gs, g ∉ [sJ.ctr] := fun g hg h => by have := hvcl g (elemA_gs _ _ g hg); have := List.mem_singleton.1 h; have := hK.ctr; omega
      refine we_load hR rfl rfl hpa rfl (hXp (by omega)) rfl rfl ?_
      refine we_val (fun _ => rfl) rfl rfl (op_fld rfl rfl rfl rfl (by decide) (Pt.bare hp8) (Nat.le_of_ble_eq_true rfl)) ?_
      refine we_load hR rfl rfl (hp8.fld 5 (Nat.le_of_ble_eq_true rfl)) rfl (hXp (by omega)) rfl rfl ?_
      refine we_val (fun _ => rfl) rfl rfl (op_pure rfl) ?_
      refine we_val (fun _ => rfl) rfl rfl (op_idxF rfl rfl (natA_cast _ _) rfl rfl rfl rfl (Row.bare hvcN) (by omega)) ?_
      refine we_load (v := .agg (inC y)) hR rfl rfl (Row.mk_pt hvcN hy) rfl hXe rfl rfl ?_
      refine we_call hR (fun p hp => by rw [List.mem_singleton.1 hp]; simp only; omega) rfl rfl (fun _ => rfl) (op_call rfl rfl rfl rfl) (turned_ok (y := y) hR.ok hma (hop (hrb.trans h19) x (List.mem_of_getElem? hx) y (List.mem_of_getElem? hy)) (ModR.bare hmN)) (fun _ _ h => h.1) ?_
      rintro _ sC ⟨-, rfl⟩ hkC
      generalize sC.join sN = sC at hkC ⊢
      have hcC := hkC.ctr
      have hK := hK.two hkC
      have hpa := hpa.keep0 hkC
      have hpb := hpb.keep0 hkC
      have hp4 := hp4.keep0 hkC
      have hp6 := hp6.keep0 hkC
      have hg2 := hg2.keep0 hkC
      have ha2 := ha2.keep0 hkC
      have hc2 := hc2.keep0 hkC
      have hB := hB.keep good_funcr hkC (fun g hg => by cases hg)
      have hp8 := hp8.keep0 hkC
      have hvN := hvN.keep0 hkC
      have hw := hw.keep0 hkC
      refine we_alloc rfl (List.mem_cons_self ..) ?_
      refine we_store_all (List.mem_cons_self ..) hK.ok (fun p hp _ => by rw [List.mem_singleton.1 hp]; kernel_rfl) rfl rfl rfl rfl rfl (by rfl) rfl hvN ?_
      intro sD hvN hkD hcD
      have hvN : Pt sD.h (.ptr sJ.ctr 0 0) (inC (turnI ma y)) := hvN
      have hK := hK.fresh hkD (fun g hg => by rw [List.mem_singleton.1 hg]; have := hK.ctr; omega)
      have hpa := hpa.keep hkD (fun g hg h => by rw [List.mem_singleton.1 hg] at h; have := List.mem_singleton.1 h; omega)
      have hpb := hpb.keep hkD (fun g hg h => by rw [List.mem_singleton.1 hg] at h; have := List.mem_singleton.1 h; omega)
      have hp4 := hp4.keep hkD (fun g hg h => by rw [List.mem_singleton.1 hg] at h; have := List.mem_singleton.1 h; omega)
      have hp6 := hp6.keep hkD (fun g hg h => by rw [List.mem_singleton.1 hg] at h; have := List.mem_singleton.1 h; omega)
      have hp8 := hp8.keep hkD (fun g hg h => by rw [List.mem_singleton.1 hg] at h; have := List.mem_singleton.1 h; omega)
      have hg2 := hg2.keep hkD (fun g hg h => by have e1 := List.mem_singleton.1 h; have e2 := ug2 g hg; omega)
      have ha2 := ha2.keep hkD (fun g hg h => by have e1 := List.mem_singleton.1 h; have e2 := ua2 g hg; omega)
      have hc2 := hc2.keep hkD (fun g hg h => by have e1 := List.mem_singleton.1 h; have e2 := uc2 g hg; omega)
      have hB := hB.keep good_funcr hkD (fun g hg => by rw [List.mem_singleton.1 hg]; omega)
      have hw := hw.keep hkD (fun g hg h => by have e1 := List.mem_singleton.1 h; have e2 := uw g hg; omega)
      refine we_nil ?_
      refine then_n ?_
      refine wc_region ?_
      refine w_val rfl rfl (op_pure rfl) ?_
      refine w_val rfl rfl (op_load rfl rfl (by assumption) rfl) ?_
      refine w_lit1 (c := inC (turnI ma y)) rfl rfl rfl rfl rfl rfl rfl (by decide) (by decide) rfl rfl rfl hK.ok ?_
      rintro bE sE hbE hkE hcE -
      have hK := hK.two hkE
      have hpa := hpa.keep0 hkE
      have hpb := hpb.keep0 hkE
      have hp4 := hp4.keep0 hkE
      have hp6 := hp6.keep0 hkE
      have hg2 := hg2.keep0 hkE
      have ha2 := ha2.keep0 hkE
      have hc2 := hc2.keep0 hkE
      have hB := hB.keep good_funcr hkE (fun g hg => by cases hg)
      have hp8 := hp8.keep0 hkE
      have hw := hw.keep0 hkE
      refine w_append (ns := [turnI ma y].map inC) rfl rfl rfl rfl rfl rfl rfl rfl rfl (by decide) hK.ok hw nw hbE (by simp only [List.length_map, List.length_nil, List.length_cons, List.length_take, maxBytes]; omega) (by simp only [List.length_map, List.length_nil, List.length_cons, List.length_take, maxBytes]; omega) ?_
      rintro w2 sG hw2 hkG - hgG nw2 -
      rw [← List.map_append, show (x.code.take q).map (turnI ma) ++ [turnI ma y] = (x.code.take (q + 1)).map (turnI ma) by rw [← take_snoc hy, List.map_append]; rfl] at hw2
      have hcG := hkG.ctr
      have lw2 : ∀ g ∈ w2.gs, sb.ctr ≤ g := by
        intro g hg
        rcases hgG with e | e
        · rw [e] at hg; exact lw g hg
        · rw [e] at hg; rw [List.mem_singleton.1 hg]; omega
      have hK := hK.fresh hkG (fun g hg => by have := lw g hg; have := hcI; omega)
      have hpa := hpa.keep hkG (fun g hg h => by rw [List.mem_singleton.1 hg] at h; have := lw _ h; omega)
      have hpb := hpb.keep hkG (fun g hg h => by rw [List.mem_singleton.1 hg] at h; have := lw _ h; omega)
      have hp4 := hp4.keep hkG (fun g hg h => by rw [List.mem_singleton.1 hg] at h; have := lw _ h; omega)
      have hp6 := hp6.keep hkG (fun g hg h => by rw [List.mem_singleton.1 hg] at h; have := lw _ h; omega)
      have hp8 := hp8.keep hkG (fun g hg h => by rw [List.mem_singleton.1 hg] at h; have := lw _ h; omega)
      have hg2 := hg2.keep hkG (fun g hg h => by have e1 := lw g h; have e2 := ug2 g hg; omega)
      have ha2 := ha2.keep hkG (fun g hg h => by have e1 := lw g h; have e2 := ua2 g hg; omega)
      have hc2 := hc2.keep hkG (fun g hg h => by have e1 := lw g h; have e2 := uc2 g hg; omega)
      have hB := hB.keep good_funcr hkG (fun g hg => by have := lw g hg; omega)
      refine w_val rfl rfl (op_pure rfl) ?_
      refine w_nil ?_
      refine out_n ?_
      refine then_n ?_
      refine wc_region ?_
      refine w_val rfl rfl (op_pure rfl) ?_
      refine w_val rfl rfl (op_add rfl rfl (by unfold In64; omega)) ?_
      refine w_val rfl rfl (op_pure rfl) ?_
      refine w_nil ?_
      exact round_n _ _ (by omega) (Sub.cons rfl (Sub.cons rfl (Sub.cons rfl (Sub.cons rfl (Sub.cons rfl (Sub.cons rfl (Sub.cons rfl (Sub.cons rfl (Sub.nil _))))))))) ⟨q + 1, w2, rfl, by omega, rfl, hK, hpa, hpb, hp4, hg2, ha2, hc2, by omega, hp6, hB, hp8, hw2, nw2, lw2⟩
    simp only [decide_eq_false_iff_not] at h118
    obtain rfl : q = x.code.length := by omega
    rw [List.take_length] at hw
    refine wc_exit ?_
    repeat first | refine then_x ?_ | refine round_x ?_ | refine cut_x ?_ | refine out_x' (by decide) ?_
    refine out_x ?_
    refine then_n ?_
    repeat refine wc_seq ?_
    refine wc_region ?_
    refine w_val rfl rfl (op_pure rfl) ?_
    refine w_val rfl rfl (op_fld rfl rfl rfl rfl (by decide) (by assumption) (Nat.le_of_ble_eq_true rfl)) ?_
    refine w_store_fld (o := 5) rfl rfl rfl rfl (by rw [AV.cells_leaf hw.leaf]; rfl) (by simp only [AV.cells_leaf hw.leaf, List.all_cons, List.all_nil, hw.leaf]; rfl) hK.ok hp8 (by simp [AV.gs]) (by rw [AV.cells_leaf hw.leaf]; exact Nat.le_of_ble_eq_true rfl) ?_
    intro sH hp8' hkH hcH
    have hp8 : Pt sH.h (.ptr sI.ctr 0 0) [.int .u64 x.level, vp, vr, .int .i64 x.locals, .int .i64 x.stack, w] := by rw [AV.cells_leaf hw.leaf] at hp8'; exact hp8'
    have hK := hK.fresh hkH (fun g hg => by rw [List.mem_singleton.1 hg]; omega)
    have hpa := hpa.keep hkH (fun g hg h => by rw [List.mem_singleton.1 hg] at h; have := List.mem_singleton.1 h; omega)
    have hpb := hpb.keep hkH (fun g hg h => by rw [List.mem_singleton.1 hg] at h; have := List.mem_singleton.1 h; omega)
    have hp4 := hp4.keep hkH (fun g hg h => by rw [List.mem_singleton.1 hg] at h; have := List.mem_singleton.1 h; omega)
    have hp6 := hp6.keep hkH (fun g hg h => by rw [List.mem_singleton.1 hg] at h; have := List.mem_singleton.1 h; omega)
    have hg2 := hg2.keep hkH (fun g hg h => by have e1 := List.mem_singleton.1 h; have e2 := ug2 g hg; omega)
    have ha2 := ha2.keep hkH (fun g hg h => by have e1 := List.mem_singleton.1 h; have e2 := ua2 g hg; omega)
    have hc2 := hc2.keep hkH (fun g hg h => by have e1 := List.mem_singleton.1 h; have e2 := uc2 g hg; omega)
    have hB := hB.keep good_funcr hkH (fun g hg => by rw [List.mem_singleton.1 hg]; exact Nat.le_refl _)
    have hw := hw.keep hkH (fun g hg h => by have e1 := List.mem_singleton.1 h; have e2 := lw g hg; omega)
    refine w_nil ?_
    refine then_n ?_
    refine wc_region ?_
    refine w_val rfl rfl (op_fld rfl rfl rfl rfl (by decide) (by assumption) (Nat.le_of_ble_eq_true rfl)) ?_
    refine w_val rfl rfl (op_load rfl rfl (Pt.fld (by assumption) _ (Nat.le_of_ble_eq_true rfl)) rfl) ?_
    refine w_val rfl rfl (op_load rfl rfl (by assumption) rfl) ?_
    have hzw : ([.int .u64 x.level, vp, vr, .int .i64 x.locals, .int .i64 x.stack, w] : List AV).all AV.leaf = true := by
      simp only [List.all_cons, List.all_nil, hvp.leaf, hvr.leaf, hw.leaf]; rfl
    refine w_lit1 (c := [.int .u64 x.level, vp, vr, .int .i64 x.locals, .int .i64 x.stack, w]) rfl rfl rfl rfl rfl rfl rfl (by decide) (by decide) rfl hzw rfl hK.ok ?_
    rintro bL sL hbL hkL hcL -
    have hK := hK.two hkL
    have hpa := hpa.keep0 hkL
    have hpb := hpb.keep0 hkL
    have hp4 := hp4.keep0 hkL
    have hp6 := hp6.keep0 hkL
    have hg2 := hg2.keep0 hkL
    have ha2 := ha2.keep0 hkL
    have hc2 := hc2.keep0 hkL
    have hB := hB.keep good_funcr hkL (fun g hg => by cases hg)
    have hw := hw.keep0 hkL
    have hfg := hB.gs
    refine w_app_bld good_funcr (z := turnF ma x) (sz := 6) rfl rfl rfl rfl rfl rfl rfl rfl rfl (by decide) rfl hK.ok hB (by omega) (Nat.zero_le _) hbL
      ⟨vp, vr, w, rfl, hvp.keep0 hK, hvr.keep0 hK, hw, fun g hg => ⟨⟨Nat.zero_le _, by have := hvp.lt hok g hg; have := hK.ctr; omega, fun h => by have := hvp.lt hok g hg; have := lf g h; omega⟩, .inl (hvp.lt hok g hg)⟩,
        fun g hg => ⟨⟨Nat.zero_le _, by have := hvr.lt hok g hg; have := hK.ctr; omega, fun h => by have := hvr.lt hok g hg; have := lf g h; omega⟩, .inl (hvr.lt hok g hg)⟩, fun g hg => ⟨⟨Nat.zero_le _, hw.lt hK.ok g hg, fun h => by have := lw g hg; have := (hfg g h).2; omega⟩, .inr (by have := lw g hg; omega)⟩⟩
      (by simp only [List.length_map, List.length_append, List.length_take, maxBytes]; omega) (by simp only [List.length_map, List.length_append, List.length_take, maxBytes]; omega) ?_
    rintro f2 sO hB2 hkO hgO
    have hcO := hkO.ctr
    rw [List.append_assoc, show (mb.funcs.take k).map (turnF ma) ++ [turnF ma x] = (mb.funcs.take (k + 1)).map (turnF ma) by rw [← take_snoc hx, List.map_append]; rfl] at hB2
    have lf2 : ∀ g ∈ f2.gs, s18.ctr ≤ g := by
      intro g hg
      rcases hgO with e | e
      · rw [e] at hg; exact lf g hg
      · rw [e] at hg; rw [List.mem_singleton.1 hg]; omega
    have hK := hK.fresh hkO (fun g hg => by have := lf g hg; omega)
    have hpa := hpa.keep hkO (fun g hg h => by rw [List.mem_singleton.1 hg] at h; have := lf _ h; omega)
    have hpb := hpb.keep hkO (fun g hg h => by rw [List.mem_singleton.1 hg] at h; have := lf _ h; omega)
    have hp4 := hp4.keep hkO (fun g hg h => by rw [List.mem_singleton.1 hg] at h; have := lf _ h; omega)
    have hp6 := hp6.keep hkO (fun g hg h => by rw [List.mem_singleton.1 hg] at h; have := lf _ h; omega)
    have hg2 := hg2.keep hkO (fun g hg h => by have e1 := lf g h; have e2 := ug2 g hg; omega)
    have ha2 := ha2.keep hkO (fun g hg h => by have e1 := lf g h; have e2 := ua2 g hg; omega)
    have hc2 := hc2.keep hkO (fun g hg h => by have e1 := lf g h; have e2 := uc2 g hg; omega)
    have hf2 : f2.leaf = true := hB2.leaf
    refine w_val rfl rfl (op_fld rfl rfl rfl rfl (by decide) (by assumption) (Nat.le_of_ble_eq_true rfl)) ?_
    refine w_store_fld (o := 3) rfl rfl rfl rfl (by rw [AV.cells_leaf hf2]; rfl) (by simp only [AV.cells_leaf hf2, List.all_cons, List.all_nil, hf2]; rfl) hK.ok hp6 (by simp [AV.gs]) (by rw [AV.cells_leaf hf2]; exact Nat.le_of_ble_eq_true rfl) ?_
    intro sP hp6' hkP hcP
    have hp6 : Pt sP.h (.ptr s5.ctr 0 0) [g2, a2, c2, f2] := by rw [AV.cells_leaf hf2] at hp6'; exact hp6'
    have hK := hK.fresh hkP (fun g hg => by rw [List.mem_singleton.1 hg]; omega)
    have hpa := hpa.keep hkP (fun g hg h => by rw [List.mem_singleton.1 hg] at h; have := List.mem_singleton.1 h; omega)
    have hpb := hpb.keep hkP (fun g hg h => by rw [List.mem_singleton.1 hg] at h; have := List.mem_singleton.1 h; omega)
    have hp4 := hp4.keep hkP (fun g hg h => by rw [List.mem_singleton.1 hg] at h; have := List.mem_singleton.1 h; omega)
    have hg2 := hg2.keep hkP (fun g hg h => by have e1 := List.mem_singleton.1 h; have e2 := lg2 g hg; omega)
    have ha2 := ha2.keep hkP (fun g hg h => by have e1 := List.mem_singleton.1 h; have e2 := la2 g hg; omega)
    have hc2 := hc2.keep hkP (fun g hg h => by have e1 := List.mem_singleton.1 h; have e2 := lc2 g hg; omega)
    have hB2 := hB2.keepH hkP (fun g hg => by rw [List.mem_singleton.1 hg]; omega) (fun g hg => by have := lf2 g hg; omega)
    refine w_nil ?_
    refine out_n ?_
    refine then_n ?_
    refine wc_region ?_
    refine w_val rfl rfl (op_pure rfl) ?_
    refine w_val rfl rfl (op_add rfl rfl (by unfold In64; omega)) ?_
    refine w_val rfl rfl (op_pure rfl) ?_
    refine w_nil ?_
    exact round_n _ _ (by omega) (Sub.cons rfl (Sub.cons rfl (Sub.cons rfl (Sub.cons rfl (Sub.cons rfl (Sub.nil _)))))) ⟨k + 1, f2, rfl, by omega, rfl, hK, hpa, hpb, hp4, hg2, ha2, hc2, by omega, hp6, lf2, by rw [hcP]; exact hB2⟩
  simp only [decide_eq_false_iff_not] at h106
  obtain rfl : k = mb.funcs.length := by omega
  rw [List.take_length] at hB
  refine wc_exit ?_
  repeat first | refine then_x ?_ | refine round_x ?_ | refine cut_x ?_ | refine out_x' (by decide) ?_
  refine out_x ?_
  refine then_n ?_
  repeat refine wc_seq ?_
  refine wc_region ?_
  refine w_val rfl rfl (op_load rfl rfl (by assumption) rfl) ?_
  have hzm : ([g2, a2, c2, f] : List AV).all AV.leaf = true := by
    simp only [List.all_cons, List.all_nil, hg2.leaf, ha2.leaf, hc2.leaf, hB.leaf]; rfl
  refine w_store_all (old := [.nils, .nils, .nils, .nils]) rfl rfl rfl rfl rfl (by rfl) hzm hK.ok hp4 (by simp [AV.gs]) ?_
  intro sq hq hkq hcq
  have hq : Pt sq.h (.ptr s2.ctr 0 0) [g2, a2, c2, f] := hq
  have hK := hK.fresh hkq (fun g hg => by rw [List.mem_singleton.1 hg]; omega)
  have hg2 := hg2.keep hkq (fun g hg h => by have e1 := List.mem_singleton.1 h; have e2 := lg2 g hg; omega)
  have ha2 := ha2.keep hkq (fun g hg h => by have e1 := List.mem_singleton.1 h; have e2 := la2 g hg; omega)
  have hc2 := hc2.keep hkq (fun g hg h => by have e1 := List.mem_singleton.1 h; have e2 := lc2 g hg; omega)
  have hB := hB.keepH hkq (fun g hg => by rw [List.mem_singleton.1 hg]; omega) (fun g hg => by have := lf g hg; omega)
  refine w_val rfl rfl (op_pure rfl) ?_
  refine w_nil ?_
  refine then_n ?_
  refine wc_ret ?_
  repeat first | refine then_r ?_ | refine out_r ?_ | refine round_r ?_ | refine cut_r ?_ | refine sc_r ?_
  exact ⟨_, res_cell2 rfl rfl rfl hq rfl, hK, _, congrArg (fun e => AV.tup [AV.agg [g2, a2, c2, f], .int .i64 e]) hE.symm, linkM_ok hE hg2 ha2 hc2 hB⟩
end Go.Ab
/- What a right module's instructions are. -/
namespace Go.Ab
theorem fo_some {β : Type} {p : Nat → Option β} {n : Nat} {r : β} (h : fo p n = some r) : ∃ i, p i = some r := by
  induction n with
  | zero => cases h
  | succ n ih =>
    unfold fo at h
    cases e : fo p n with
    | none => rw [e] at h; exact ⟨n, h⟩
    | some b => rw [e] at h; cases h; exact ih e
theorem fo_none {β : Type} {p : Nat → Option β} {n : Nat} (h : fo p n = none) : ∀ i, i < n → p i = none := by
  induction n with
  | zero => intro i hi; omega
  | succ n ih =>
    unfold fo at h
    cases e : fo p n with
    | some b => rw [e] at h; cases h
    | none =>
      rw [e] at h
      intro i hi
      by_cases hin : i = n
      · rw [hin]; exact h
      · exact ih e i (by omega)
section
variable {mm : ModL} {x : FuncL} {y : InstrL}
theorem insP_err {f a : Nat} {r : Fault} (h : insP mm x f a = some r) : ¬ r.1 = 0 := by
  unfold insP at h
  split at h
  · split at h
    · cases h
    · rename_i hn
      cases h
      exact hn
  · cases h
theorem funP_err {f : Nat} {r : Fault} (h : funP mm f = some r) : ¬ r.1 = 0 := by
  unfold funP at h
  split at h
  · split at h
    · obtain ⟨i, hi⟩ := fo_some h
      exact insP_err hi
    · rename_i hn
      cases h
      exact hn
  · cases h
theorem arrP_err {i : Nat} {r : Fault} (h : arrP mm i = some r) : ¬ r.1 = 0 := by
  unfold arrP at h
  split at h
  · split at h
    · cases h; exact fun e => by simp at e
    · cases h
  · cases h
theorem okM_ins (h : okM mm = true) (hx : x ∈ mm.funcs) (hy : y ∈ x.code) : instrE mm x y = 0 := by
  have h1 : (checkF mm).1 = 0 := by
    unfold okM at h
    simp only [Bool.and_eq_true, beq_iff_eq] at h
    exact h.1
  unfold checkF at h1
  split at h1
  · cases h1
  · split at h1
    · rename_i r hr
      obtain ⟨i, hi⟩ := fo_some hr
      exact absurd h1 (arrP_err hi)
    · split at h1
      · rename_i r hr
        obtain ⟨i, hi⟩ := fo_some hr
        exact absurd h1 (funP_err hi)
      · rename_i hf
        obtain ⟨f, hfx⟩ := List.getElem?_of_mem hx
        obtain ⟨a, hay⟩ := List.getElem?_of_mem hy
        have h2 := fo_none hf f (List.getElem?_eq_some_iff.1 hfx).1
        unfold funP at h2
        rw [hfx] at h2
        simp only at h2
        split at h2
        · have h3 := fo_none h2 a (List.getElem?_eq_some_iff.1 hay).1
          unfold insP at h3
          rw [hay] at h3
          simp only at h3
          split at h3
          · rename_i h4
            unfold insE at h4
            split at h4
            · cases h4
            · exact h4
          · cases h3
        · cases h2
theorem okM_small (hs : mm.small) (h : okM mm = true) : ∀ x ∈ mm.funcs, ∀ y ∈ x.code, OpSmall y := by
  intro x hx y hy ho
  have h0 := okM_ins h hx hy
  obtain ⟨h1, h3, h2, h4, -⟩ := hs
  have key : ∀ n : Nat, n ≤ 2097152 → rngE y.a n = 0 → 0 ≤ y.a ∧ y.a ≤ 2097152 := by
    intro n hn hr
    unfold rngE at hr
    split at hr
    · cases hr
    · omega
  rcases ho with ⟨k1, k2⟩ | k | k
  · by_cases e : y.op = 35 ∨ y.op = 36
    · rw [ins_glo e] at h0; exact key _ h1 h0
    · rw [ins_arr (by omega)] at h0; exact key _ h3 h0
  · rw [ins_cal k] at h0; exact key _ h4 h0
  · rw [ins_snd k] at h0; exact key _ h2 h0
end
end Go.Ab
/- A module in memory of its own. -/
namespace Go.Ab
/-- A list that is chosen element by element. -/
theorem list_choice {β : Type} {P : Nat → β → Prop} : ∀ n : Nat, (∀ i, i < n → ∃ y, P i y) → ∃ l : List β, l.length = n ∧ ∀ i y, l[i]? = some y → P i y
  | 0, _ => ⟨[], rfl, fun i y h => by simp at h⟩
  | n + 1, h => by
    obtain ⟨l, h1, h2⟩ := list_choice n (fun i hi => h i (by omega))
    obtain ⟨y, hy⟩ := h n (by omega)
    refine ⟨l ++ [y], by simp [h1], fun i z hz => ?_⟩
    by_cases hi : i < l.length
    · rw [List.getElem?_append_left hi] at hz; exact h2 i z hz
    · have hlt := (List.getElem?_eq_some_iff.1 hz).1
      rw [List.length_append, List.length_singleton] at hlt
      have e : i = l.length := by omega
      rw [e, List.getElem?_append_right (Nat.le_refl _), Nat.sub_self] at hz
      simp at hz
      subst hz
      rw [e, h1]; exact hy
/-- No group in common. -/
def Dis (u v : AV) : Prop := ∀ g ∈ u.gs, g ∉ v.gs
theorem Dis.symm {u v : AV} (h : Dis u v) : Dis v u := fun g hg k => h g k hg
theorem Dis.lt {u v : AV} {b : Nat} (h : ∀ g ∈ u.gs, g < b) (k : ∀ g ∈ v.gs, b ≤ g) : Dis u v := fun g hg hv => by have := h g hg; have := k g hv; omega
theorem dis_clip {u v : AV} (h : Dis u v) : Dis (clipA u) v := fun g hg => h g (by rwa [clipA_gs] at hg)
abbrev FM := FuncL × AV × AV × AV
def fC (q : FM) : List AV := [.int .u64 q.1.level, q.2.1, q.2.2.1, .int .i64 q.1.locals, .int .i64 q.1.stack, q.2.2.2]
structure MemM where
  vg : AV
  va : AV
  vh : AV
  vf : AV
  fs : List FM
def MemM.cells (M : MemM) : List AV := [M.vg, M.va, M.vh, M.vf]
def MemM.labs (M : MemM) : List AV := M.vg :: M.vh :: M.fs.flatMap fun q => [q.2.1, q.2.2.1]
def MemM.cods (M : MemM) : List AV := M.fs.map fun q => q.2.2.2
def MemM.all (M : MemM) : List AV := M.va :: M.vf :: (M.labs ++ M.cods)
structure ModO (H : Tr Grp) (mm : ModL) (M : MemM) : Prop where
  g : Row H 1 M.vg (mm.globals.map lC)
  a : Row H 2 M.va (mm.arrays.map aC)
  ch : Row H 1 M.vh (mm.channels.map lC)
  f : Row H 6 M.vf (M.fs.map fC)
  fs : M.fs.map (·.1) = mm.funcs
  each : ∀ q ∈ M.fs, Row H 1 q.2.1 (q.1.params.map lC) ∧ Row H 1 q.2.2.1 (q.1.results.map lC) ∧ Row H 2 q.2.2.2 (q.1.code.map inC)
  dis : M.all.Pairwise Dis
  nil : ∀ v ∈ M.all, v.gs = [] → v = .nils
theorem ModO.r {h : Tr Grp} {mm : ModL} {M : MemM} (k : ModO h mm M) : ModR h mm M.cells := by
  refine ⟨_, _, _, _, rfl, k.g, k.a, k.ch, M.fs.map fC, k.f, by rw [← k.fs]; simp, fun i x c h1 h2 => ?_⟩
  rw [← k.fs, List.getElem?_map] at h1
  rw [List.getElem?_map] at h2
  cases e : M.fs[i]? with
  | none => rw [e] at h1; cases h1
  | some q =>
    rw [e] at h1 h2
    cases h1
    cases h2
    obtain ⟨k1, k2, k3⟩ := k.each q (List.mem_of_getElem? e)
    exact ⟨_, _, _, rfl, k1, k2, k3⟩
theorem ModO.keep {s s' : St} {mm : ModL} {M : MemM} {Y : List Nat} (k : ModO s.h mm M) (h : Keep Y s s') (hY : ∀ v ∈ M.all, ∀ g ∈ v.gs, g ∉ Y) : ModO s'.h mm M where
  g := k.g.keep h (hY _ (by simp only [MemM.all, MemM.labs, List.mem_cons, List.mem_append, true_or, or_true]))
  a := k.a.keep h (hY _ (by simp only [MemM.all, List.mem_cons, true_or]))
  ch := k.ch.keep h (hY _ (by simp only [MemM.all, MemM.labs, List.mem_cons, List.mem_append, true_or, or_true]))
  f := k.f.keep h (hY _ (by simp only [MemM.all, List.mem_cons, true_or, or_true]))
  fs := k.fs
  each := fun q hq => by
    obtain ⟨k1, k2, k3⟩ := k.each q hq
    refine ⟨k1.keep h (hY q.2.1 ?_), k2.keep h (hY q.2.2.1 ?_), k3.keep h (hY q.2.2.2 ?_)⟩
    · simp only [MemM.all, MemM.labs, List.mem_cons, List.mem_append, List.mem_flatMap]; exact .inr (.inr (.inl (.inr (.inr ⟨q, hq, .inl rfl⟩))))
    · simp only [MemM.all, MemM.labs, List.mem_cons, List.mem_append, List.mem_flatMap]; exact .inr (.inr (.inl (.inr (.inr ⟨q, hq, .inr (.inl rfl)⟩))))
    · simp only [MemM.all, MemM.cods, List.mem_cons, List.mem_append, List.mem_map]; exact .inr (.inr (.inr ⟨q, hq, rfl⟩))
  dis := k.dis
  nil := k.nil
/-- The empty module. -/
theorem ModO.empty (h : Tr Grp) : ModO h ⟨[], [], [], []⟩ ⟨.nils, .nils, .nils, .nils, []⟩ where
  g := rfl
  a := rfl
  ch := rfl
  f := rfl
  fs := rfl
  each := fun q hq => by cases hq
  dis := by simp [MemM.all, MemM.labs, MemM.cods, Dis, AV.gs]
  nil := by simp [MemM.all, MemM.labs, MemM.cods]
theorem modO_of {h : Tr Grp} {mm : ModL} {vg va vh vf : AV} {qs : List (FuncL × Nat × Nat)} {css : List (List AV)} {a b : Nat} (hg : Row h 1 vg (mm.globals.map lC)) (ha : Row h 2 va (mm.arrays.map aC)) (hh : Row h 1 vh (mm.channels.map lC)) (hf : Row h 6 vf css)
    (hl : css.length = qs.length) (hx : ∀ (i : Nat) (q : FuncL × Nat × Nat) (c : List AV), qs[i]? = some q → css[i]? = some c → FuncQ h (Fr a b vf.gs) q c) (hap : Apart a b qs) (hq : qs.map (·.1) = mm.funcs)
    (dgf : Dis vg vf) (daf : Dis va vf) (dhf : Dis vh vf) (dga : Dis vg va) (dgh : Dis vg vh) (dah : Dis va vh) (lg : ∀ g ∈ vg.gs, b ≤ g) (la : ∀ g ∈ va.gs, b ≤ g) (lh : ∀ g ∈ vh.gs, b ≤ g)
    (ng : vg.gs = [] → vg = .nils) (na : va.gs = [] → va = .nils) (nh : vh.gs = [] → vh = .nils) (nf : vf.gs = [] → vf = .nils) :
    ∃ fs, ModO h mm ⟨vg, va, vh, vf, fs⟩ ∧ ∀ q ∈ fs, ∀ v ∈ [q.2.1, q.2.2.1, q.2.2.2], ∀ g ∈ v.gs, a ≤ g ∧ g < b := by
  obtain ⟨fs, hfl, hfs⟩ := list_choice (P := fun i (f : FM) => ∃ q, qs[i]? = some q ∧ f.1 = q.1 ∧ css[i]? = some (fC f) ∧ Row h 1 f.2.1 (f.1.params.map lC) ∧ Row h 1 f.2.2.1 (f.1.results.map lC) ∧ Row h 2 f.2.2.2 (f.1.code.map inC) ∧
      (∀ v ∈ [f.2.1, f.2.2.1, f.2.2.2], ∀ g ∈ v.gs, (q.2.1 ≤ g ∧ g < q.2.2) ∧ g ∉ vf.gs) ∧ Dis f.2.1 f.2.2.1 ∧ Dis f.2.1 f.2.2.2 ∧ Dis f.2.2.1 f.2.2.2 ∧ (∀ v ∈ [f.2.1, f.2.2.1, f.2.2.2], v.gs = [] → v = .nils)) qs.length (fun i hi => by
    have e1 : qs[i]? = some qs[i] := List.getElem?_eq_getElem hi
    have e2 : css[i]? = some (css[i]'(by omega)) := List.getElem?_eq_getElem (by omega)
    obtain ⟨vp, vr, vc, e, h1, h2, h3, f1, f2, f3, d1, d2, d3, n1, n2, n3⟩ := hx i _ _ e1 e2
    refine ⟨(qs[i].1, vp, vr, vc), qs[i], e1, rfl, ?_, h1, h2, h3, ?_, d1, d2, d3, ?_⟩
    · rw [e2, e]; rfl
    · intro v hv g hg
      simp only [List.mem_cons, List.not_mem_nil, or_false] at hv
      rcases hv with rfl | rfl | rfl
      · exact ⟨(f1 g hg).1, (f1 g hg).2.2.2⟩
      · exact ⟨(f2 g hg).1, (f2 g hg).2.2.2⟩
      · exact ⟨(f3 g hg).1, (f3 g hg).2.2.2⟩
    · intro v hv hn
      simp only [List.mem_cons, List.not_mem_nil, or_false] at hv
      rcases hv with rfl | rfl | rfl
      · exact n1 hn
      · exact n2 hn
      · exact (n3 hn).elim)
  have hcss : css = fs.map fC := by
    refine List.ext_getElem? fun i => ?_
    rw [List.getElem?_map]
    cases e : fs[i]? with
    | none =>
      have := List.getElem?_eq_none_iff.1 e
      rw [List.getElem?_eq_none (by omega)]; rfl
    | some f =>
      obtain ⟨q, -, -, e2, -⟩ := hfs i f e
      rw [e2]; rfl
  have hfun : fs.map (·.1) = mm.funcs := by
    rw [← hq]
    refine List.ext_getElem? fun i => ?_
    rw [List.getElem?_map, List.getElem?_map]
    cases e : fs[i]? with
    | none =>
      have := List.getElem?_eq_none_iff.1 e
      rw [List.getElem?_eq_none (by omega)]; rfl
    | some f =>
      obtain ⟨q, e1, e2, -⟩ := hfs i f e
      rw [e1]; simp only [Option.map_some, e2]
  have hmem : ∀ f ∈ fs, ∃ q, q ∈ qs ∧ Row h 1 f.2.1 (f.1.params.map lC) ∧ Row h 1 f.2.2.1 (f.1.results.map lC) ∧ Row h 2 f.2.2.2 (f.1.code.map inC) ∧
      (∀ v ∈ [f.2.1, f.2.2.1, f.2.2.2], ∀ g ∈ v.gs, (q.2.1 ≤ g ∧ g < q.2.2) ∧ g ∉ vf.gs) ∧ Dis f.2.1 f.2.2.1 ∧ Dis f.2.1 f.2.2.2 ∧ Dis f.2.2.1 f.2.2.2 ∧ (∀ v ∈ [f.2.1, f.2.2.1, f.2.2.2], v.gs = [] → v = .nils) := by
    intro f hf
    obtain ⟨i, hi⟩ := List.getElem?_of_mem hf
    obtain ⟨q, e1, -, -, r⟩ := hfs i f hi
    exact ⟨q, List.mem_of_getElem? e1, r⟩
  have hpw : fs.Pairwise fun f f' => ∀ u ∈ [f.2.1, f.2.2.1, f.2.2.2], ∀ w ∈ [f'.2.1, f'.2.2.1, f'.2.2.2], Dis u w := by
    rw [List.pairwise_iff_getElem]
    intro i j hi hj hij u hu w hw g hg hg'
    obtain ⟨q, e1, -, -, -, -, -, r1, -⟩ := hfs i _ (List.getElem?_eq_getElem hi)
    obtain ⟨q', e1', -, -, -, -, -, r1', -⟩ := hfs j _ (List.getElem?_eq_getElem hj)
    have hp := (List.pairwise_iff_getElem.1 hap.pw) i j (List.getElem?_eq_some_iff.1 e1).1 (List.getElem?_eq_some_iff.1 e1').1 hij
    rw [(List.getElem?_eq_some_iff.1 e1).2, (List.getElem?_eq_some_iff.1 e1').2] at hp
    have := r1 u hu g hg
    have := r1' w hw g hg'
    omega
  have hbd : ∀ f ∈ fs, ∀ v ∈ [f.2.1, f.2.2.1, f.2.2.2], ∀ g ∈ v.gs, (a ≤ g ∧ g < b) ∧ g ∉ vf.gs := by
    intro f hf v hv g hg
    obtain ⟨q, hq, -, -, -, r, -⟩ := hmem f hf
    have h1 := r v hv g hg
    have h2 := hap.lo q hq
    exact ⟨by omega, h1.2⟩
  have m1 : ∀ f : FM, f.2.1 ∈ [f.2.1, f.2.2.1, f.2.2.2] := fun f => List.mem_cons_self ..
  have m2 : ∀ f : FM, f.2.2.1 ∈ [f.2.1, f.2.2.1, f.2.2.2] := fun f => List.mem_cons_of_mem _ (List.mem_cons_self ..)
  have m3 : ∀ f : FM, f.2.2.2 ∈ [f.2.1, f.2.2.1, f.2.2.2] := fun f => List.mem_cons_of_mem _ (List.mem_cons_of_mem _ (List.mem_cons_self ..))
  have hin : ∀ v ∈ fs.flatMap (fun q => [q.2.1, q.2.2.1]), ∃ f ∈ fs, v ∈ [f.2.1, f.2.2.1, f.2.2.2] := by
    intro v hv
    obtain ⟨f, hf, hv⟩ := List.mem_flatMap.1 hv
    refine ⟨f, hf, ?_⟩
    rcases List.mem_cons.1 hv with rfl | hv
    · exact m1 f
    · rw [List.mem_singleton.1 hv]; exact m2 f
  have hin2 : ∀ v ∈ fs.map (fun q => q.2.2.2), ∃ f ∈ fs, v ∈ [f.2.1, f.2.2.1, f.2.2.2] := by
    intro v hv
    obtain ⟨f, hf, rfl⟩ := List.mem_map.1 hv
    exact ⟨f, hf, m3 f⟩
  have hin3 : ∀ v ∈ fs.flatMap (fun q => [q.2.1, q.2.2.1]) ++ fs.map (fun q => q.2.2.2), ∃ f ∈ fs, v ∈ [f.2.1, f.2.2.1, f.2.2.2] := by
    intro v hv
    rcases List.mem_append.1 hv with hv | hv
    · exact hin v hv
    · exact hin2 v hv
  have hup : ∀ w : AV, (∀ g ∈ w.gs, b ≤ g) → ∀ v ∈ fs.flatMap (fun q => [q.2.1, q.2.2.1]) ++ fs.map (fun q => q.2.2.2), Dis w v := by
    intro w hw v hv g hg hg'
    obtain ⟨f, hf, hv'⟩ := hin3 v hv
    have := hbd f hf v hv' g hg'
    have := hw g hg
    omega
  refine ⟨fs, ⟨hg, ha, hh, by rw [← hcss]; exact hf, hfun, fun f hf => ?_, ?_, ?_⟩, fun f hf v hv g hg => (hbd f hf v hv g hg).1⟩
  · obtain ⟨q, -, h1, h2, h3, -⟩ := hmem f hf
    exact ⟨h1, h2, h3⟩
  · simp only [MemM.all, MemM.labs, MemM.cods, List.cons_append, List.pairwise_cons]
    refine ⟨fun v hv => ?_, fun v hv => ?_, fun v hv => ?_, fun v hv => hup vh lh v hv, ?_⟩
    · rcases List.mem_cons.1 hv with rfl | hv
      · exact daf
      rcases List.mem_cons.1 hv with rfl | hv
      · exact dga.symm
      rcases List.mem_cons.1 hv with rfl | hv
      · exact dah
      exact hup va la v hv
    · rcases List.mem_cons.1 hv with rfl | hv
      · exact dgf.symm
      rcases List.mem_cons.1 hv with rfl | hv
      · exact dhf.symm
      obtain ⟨f, hf, hv'⟩ := hin3 v hv
      exact Dis.symm fun g hg => (hbd f hf v hv' g hg).2
    · rcases List.mem_cons.1 hv with rfl | hv
      · exact dgh
      exact hup vg lg v hv
    · rw [List.pairwise_append]
      refine ⟨?_, ?_, ?_⟩
      · rw [List.pairwise_flatMap]
        refine ⟨fun f hf => ?_, hpw.imp fun {f f'} h u hu w hw => ?_⟩
        · obtain ⟨q, -, -, -, -, -, d1, -⟩ := hmem f hf
          refine List.pairwise_cons.2 ⟨fun w hw => by rw [List.mem_singleton.1 hw]; exact d1, List.pairwise_singleton _ _⟩
        · refine h u ?_ w ?_
          · rcases List.mem_cons.1 hu with rfl | hu
            · exact m1 f
            · rw [List.mem_singleton.1 hu]; exact m2 f
          · rcases List.mem_cons.1 hw with rfl | hw
            · exact m1 f'
            · rw [List.mem_singleton.1 hw]; exact m2 f'
      · rw [List.pairwise_map]
        exact hpw.imp fun {f f'} h => h _ (m3 f) _ (m3 f')
      · intro u hu w hw
        obtain ⟨f, hf, hu⟩ := List.mem_flatMap.1 hu
        obtain ⟨f', hf', rfl⟩ := List.mem_map.1 hw
        obtain ⟨i, hi⟩ := List.getElem?_of_mem hf
        obtain ⟨j, hj⟩ := List.getElem?_of_mem hf'
        have hu' : u ∈ [f.2.1, f.2.2.1, f.2.2.2] := by
          rcases List.mem_cons.1 hu with rfl | hu
          · exact m1 f
          · rw [List.mem_singleton.1 hu]; exact m2 f
        obtain ⟨hi1, hi2⟩ := List.getElem?_eq_some_iff.1 hi
        obtain ⟨hj1, hj2⟩ := List.getElem?_eq_some_iff.1 hj
        have hpw' := List.pairwise_iff_getElem.1 hpw
        rcases Nat.lt_trichotomy i j with hij | hij | hij
        · have := hpw' i j hi1 hj1 hij
          rw [hi2, hj2] at this
          exact this u hu' _ (m3 f')
        · subst hij
          rw [hi] at hj
          cases hj
          obtain ⟨q, -, -, -, -, -, d1, d2, d3, -⟩ := hmem f hf
          rcases List.mem_cons.1 hu with rfl | hu
          · exact d2
          · rw [List.mem_singleton.1 hu]; exact d3
        · have := hpw' j i hj1 hi1 hij
          rw [hi2, hj2] at this
          exact (this _ (m3 f') u hu').symm
  · intro v hv
    simp only [MemM.all, MemM.labs, MemM.cods, List.cons_append] at hv
    rcases List.mem_cons.1 hv with rfl | hv
    · exact na
    rcases List.mem_cons.1 hv with rfl | hv
    · exact nf
    rcases List.mem_cons.1 hv with rfl | hv
    · exact ng
    rcases List.mem_cons.1 hv with rfl | hv
    · exact nh
    obtain ⟨f, hf, hv'⟩ := hin3 v hv
    obtain ⟨q, -, -, -, -, -, -, -, -, n⟩ := hmem f hf
    exact n v hv'
end Go.Ab
/- What a function owns, in one list of chunks: each with its groups, all apart; rules that turn the list. -/
namespace Go.Ab
structure Chunk where
  F : Nat → Prop
  P : Tr Grp → Prop
  kp : ∀ {Y : List Nat} {s s' : St}, P s.h → Keep Y s s' → (∀ g ∈ Y, ¬ F g) → P s'.h
def ptC (p : AV) (cs : List AV) : Chunk := ⟨fun g => g ∈ p.gs, fun h => Pt h p cs, fun k h hY => k.keep h fun g hg hy => hY g hy hg⟩
def rowC (v : AV) (sz : Nat) (css : List (List AV)) : Chunk := ⟨fun g => g ∈ v.gs, fun h => Row h sz v css ∧ (v.gs = [] → v = .nils), fun k h hY => ⟨k.1.keep h fun g hg hy => hY g hy hg, k.2⟩⟩
def emC : Chunk := ⟨fun _ => False, fun _ => True, fun _ _ _ => trivial⟩
def mapC (g : Nat) (es : List (AV × AV)) : Chunk := ⟨fun x => x = g, fun h => MapAt h g es, fun k h hY => k.keep h fun hy => hY g hy rfl⟩
def bldC {α : Type} (R : RP α) (hG : Good R) (F : Nat → Prop) (sz : Nat) (v : AV) (xs : List α) : Chunk :=
  ⟨F, fun h => ∃ css, Row h sz v css ∧ (v.gs = [] → v = .nils) ∧ (∀ g ∈ v.gs, F g) ∧ css.length = xs.length ∧ ∀ (i : Nat) (x : α) (c : List AV), xs[i]? = some x → css[i]? = some c → R h (fun g => F g ∧ g ∉ v.gs) x c,
   fun ⟨css, h1, h2, h3, h4, h5⟩ h hY => ⟨css, h1.keep h fun g hg hy => hY g hy (h3 g hg), h2, h3, h4, fun i x c k1 k2 => hG.keep (h5 i x c k1 k2) h fun g hy hF => hY g hy hF.1⟩⟩
structure SH (s0 : St) (L : List Chunk) (s : St) : Prop where
  K : Keep [] s0 s
  own : ∀ (i : Nat) (c : Chunk), L[i]? = some c → c.P s.h ∧ ∀ g, c.F g → s0.ctr ≤ g ∧ g < s.ctr
  dis : ∀ (i j : Nat) (c d : Chunk), i ≠ j → L[i]? = some c → L[j]? = some d → ∀ g, c.F g → ¬ d.F g
section
variable {s0 s s' : St} {L : List Chunk} {c c' d : Chunk} {i j : Nat} {Y : List Nat}
theorem SH.ok (h : SH s0 L s) : s.Ok := h.K.ok
theorem SH.start (hok : s.Ok) : SH s [] s := ⟨Keep.refl hok, fun i c h => by simp at h, fun i j c d _ h => by simp at h⟩
theorem SH.get (h : SH s0 L s) (i : Nat) (hi : L[i]? = some c) : c.P s.h := (h.own i c hi).1
theorem SH.bd (h : SH s0 L s) (i : Nat) (hi : L[i]? = some c) : ∀ g, c.F g → s0.ctr ≤ g ∧ g < s.ctr := (h.own i c hi).2
theorem SH.row {v : AV} {sz : Nat} {css : List (List AV)} (h : SH s0 L s) (i : Nat) (hi : L[i]? = some (rowC v sz css)) : Row s.h sz v css := (h.get i hi).1
theorem SH.nls {v : AV} {sz : Nat} {css : List (List AV)} (h : SH s0 L s) (i : Nat) (hi : L[i]? = some (rowC v sz css)) : v.gs = [] → v = .nils := (h.get i hi).2
theorem SH.pt {p : AV} {cs : List AV} (h : SH s0 L s) (i : Nat) (hi : L[i]? = some (ptC p cs)) : Pt s.h p cs := h.get i hi
theorem SH.mov (h : SH s0 L s) (k : Keep [] s s') : SH s0 L s' :=
  ⟨h.K.two k, fun i c hi => ⟨c.kp (h.own i c hi).1 k (fun g hg => by cases hg), fun g hg => ⟨((h.own i c hi).2 g hg).1, Nat.lt_of_lt_of_le ((h.own i c hi).2 g hg).2 k.ctr⟩⟩, h.dis⟩
theorem SH.add (h : SH s0 L s) (k : Keep [] s s') (c : Chunk) (hP : c.P s'.h) (hF : ∀ g, c.F g → s.ctr ≤ g ∧ g < s'.ctr) : SH s0 (L ++ [c]) s' := by
  have hm := h.mov k
  have hc := h.K.ctr
  have key : ∀ (i : Nat) (x : Chunk), (L ++ [c])[i]? = some x → (i < L.length ∧ L[i]? = some x) ∨ (i = L.length ∧ x = c) := by
    intro i x hi
    by_cases hl : i < L.length
    · rw [List.getElem?_append_left hl] at hi; exact .inl ⟨hl, hi⟩
    · have h1 := (List.getElem?_eq_some_iff.1 hi).1
      rw [List.length_append, List.length_singleton] at h1
      have e : i = L.length := by omega
      subst e
      rw [List.getElem?_append_right (Nat.le_refl _), Nat.sub_self] at hi
      simp at hi
      exact .inr ⟨rfl, hi.symm⟩
  refine ⟨hm.K, fun i x hi => ?_, fun i j x y hij hi hj g hx hy => ?_⟩
  · rcases key i x hi with ⟨-, h1⟩ | ⟨-, rfl⟩
    · exact hm.own i x h1
    · exact ⟨hP, fun g hg => ⟨Nat.le_trans hc (hF g hg).1, (hF g hg).2⟩⟩
  · rcases key i x hi with ⟨h0, h1⟩ | ⟨h1, rfl⟩ <;> rcases key j y hj with ⟨k0, k1⟩ | ⟨k1, rfl⟩
    · exact h.dis i j x y hij h1 k1 g hx hy
    · have := (h.own i x h1).2 g hx; have := hF g hy; omega
    · have := (h.own j y k1).2 g hy; have := hF g hx; omega
    · omega
theorem getElem?_set_cases {α : Type} {L : List α} {i j : Nat} {c x : α} (h : (L.set i c)[j]? = some x) : (j = i ∧ x = c ∧ i < L.length) ∨ (j ≠ i ∧ L[j]? = some x) := by
  rw [List.getElem?_set] at h
  split at h
  · rename_i e
    split at h
    · cases h; exact .inl ⟨e.symm, rfl, by omega⟩
    · cases h
  · exact .inr ⟨by omega, h⟩
theorem SH.upd (h : SH s0 L s) (i : Nat) (hi : L[i]? = some c) (k : Keep Y s s') (hY : ∀ g ∈ Y, c.F g) (c' : Chunk) (hP : c'.P s'.h) (hF : ∀ g, c'.F g → c.F g ∨ (s.ctr ≤ g ∧ g < s'.ctr)) : SH s0 (L.set i c') s' := by
  have hc := h.K.ctr
  have hk := k.ctr
  refine ⟨h.K.fresh k fun g hg => ((h.own i c hi).2 g (hY g hg)).1, fun j x hj => ?_, fun a b x y hab ha hb g hx hy => ?_⟩
  · rcases getElem?_set_cases hj with ⟨-, rfl, -⟩ | ⟨hne, hj⟩
    · refine ⟨hP, fun g hg => ?_⟩
      rcases hF g hg with h1 | h1
      · have := (h.own i c hi).2 g h1; omega
      · omega
    · obtain ⟨k1, k2⟩ := h.own j x hj
      refine ⟨x.kp k1 k fun g hg hx => h.dis j i x c hne hj hi g hx (hY g hg), fun g hg => ?_⟩
      have := k2 g hg; omega
  · rcases getElem?_set_cases ha with ⟨e1, e1', -⟩ | ⟨hne, ha'⟩ <;> rcases getElem?_set_cases hb with ⟨e2, e2', -⟩ | ⟨hne2, hb'⟩
    · omega
    · rw [e1'] at hx
      rcases hF g hx with h1 | h1
      · exact h.dis i b c y (by omega) hi hb' g h1 hy
      · have := (h.own b y hb').2 g hy; omega
    · rw [e2'] at hy
      rcases hF g hy with h1 | h1
      · exact h.dis a i x c (by omega) ha' hi g hx h1
      · have := (h.own a x ha').2 g hx; omega
    · exact h.dis a b x y hab ha' hb' g hx hy
/-- The same memory, told otherwise. -/
theorem SH.as (h : SH s0 L s) (i : Nat) (hi : L[i]? = some c) (c' : Chunk) (hP : c'.P s.h) (hF : ∀ g, c'.F g → c.F g) : SH s0 (L.set i c') s :=
  h.upd i hi (Keep.refl h.ok) (fun g hg => by cases hg) c' hP fun g hg => .inl (hF g hg)
/-- Two chunks as one. -/
theorem SH.mrg (h : SH s0 L s) (i j : Nat) (_hij : i ≠ j) (hi : L[i]? = some c) (hj : L[j]? = some d) (c' : Chunk) (hP : c'.P s.h) (hF : ∀ g, c'.F g → c.F g ∨ d.F g) : SH s0 ((L.set j emC).set i c') s := by
  refine ⟨h.K, fun a x ha => ?_, fun a b x y hab ha hb g hx hy => ?_⟩
  · rcases getElem?_set_cases ha with ⟨-, rfl, -⟩ | ⟨-, ha⟩
    · exact ⟨hP, fun g hg => (hF g hg).elim ((h.own i c hi).2 g) ((h.own j d hj).2 g)⟩
    · rcases getElem?_set_cases ha with ⟨-, rfl, -⟩ | ⟨-, ha⟩
      · exact ⟨trivial, fun g hg => hg.elim⟩
      · exact h.own a x ha
  · rcases getElem?_set_cases ha with ⟨e1, e1', -⟩ | ⟨n1, ha'⟩ <;> rcases getElem?_set_cases hb with ⟨e2, e2', -⟩ | ⟨n2, hb'⟩
    · omega
    · rw [e1'] at hx
      rcases getElem?_set_cases hb' with ⟨-, e3, -⟩ | ⟨n3, hb''⟩
      · rw [e3] at hy; exact hy
      · rcases hF g hx with h1 | h1
        · exact h.dis i b c y (by omega) hi hb'' g h1 hy
        · exact h.dis j b d y (by omega) hj hb'' g h1 hy
    · rw [e2'] at hy
      rcases getElem?_set_cases ha' with ⟨-, e3, -⟩ | ⟨n3, ha''⟩
      · rw [e3] at hx; exact hx
      · rcases hF g hy with h1 | h1
        · exact h.dis a i x c (by omega) ha'' hi g hx h1
        · exact h.dis a j x d (by omega) ha'' hj g hx h1
    · rcases getElem?_set_cases ha' with ⟨-, e3, -⟩ | ⟨n3, ha''⟩
      · rw [e3] at hx; exact hx
      · rcases getElem?_set_cases hb' with ⟨-, e4, -⟩ | ⟨n4, hb''⟩
        · rw [e4] at hy; exact hy
        · exact h.dis a b x y hab ha'' hb'' g hx hy
def pickL (L : List Chunk) : List Nat → Option (List Chunk)
  | [] => some []
  | j :: r => match L[j]?, pickL L r with
    | some c, some l => some (c :: l)
    | _, _ => none
theorem pickL_get : ∀ {js : List Nat} {L L' : List Chunk}, pickL L js = some L' → ∀ (i : Nat) (c : Chunk), L'[i]? = some c → ∃ j, js[i]? = some j ∧ L[j]? = some c
  | [], L, L', h, i, c, hi => by cases h; simp at hi
  | j :: r, L, L', h, i, c, hi => by
    unfold pickL at h
    split at h
    · rename_i x l hx hl
      cases h
      cases i with
      | zero => simp at hi; subst hi; exact ⟨j, rfl, hx⟩
      | succ i =>
        obtain ⟨k, h1, h2⟩ := pickL_get hl i c (by simpa using hi)
        exact ⟨k, by simpa using h1, h2⟩
    · cases h
/-- Some of the chunks, in another order. -/
theorem SH.sel {L' : List Chunk} (h : SH s0 L s) (js : List Nat) (hL : pickL L js = some L') (hn : js.Nodup) : SH s0 L' s := by
  refine ⟨h.K, fun i c hi => ?_, fun a b x y hab ha hb => ?_⟩
  · obtain ⟨k, -, h2⟩ := pickL_get hL i c hi
    exact h.own k c h2
  · obtain ⟨p, p1, p2⟩ := pickL_get hL a x ha
    obtain ⟨q, q1, q2⟩ := pickL_get hL b y hb
    refine h.dis p q x y (fun e => hab ?_) p2 q2
    subst e
    exact (List.getElem?_inj (List.getElem?_eq_some_iff.1 p1).1 hn).1 (p1.trans q1.symm)
theorem SH.nil (h : SH s0 L s) (sz : Nat) : SH s0 (L ++ [rowC .nils sz []]) s := h.add (Keep.refl h.ok) _ ⟨rfl, fun _ => rfl⟩ fun g hg => by cases hg
end
theorem row_newb {s s' : St} {sz : Nat} {v : AV} {css : List (List AV)} (_k : Keep [] s s') (_h : Row s'.h sz v css) (hv : v.gs = [s.ctr]) (hc : s'.ctr = s.ctr + 1) : ∀ g ∈ v.gs, s.ctr ≤ g ∧ g < s'.ctr := fun g hg => by
  rw [hv] at hg; rw [List.mem_singleton.1 hg]; omega
section
variable {P : Program} {T : Tab} {K : FuncId → Option Bool} {nt : Nat} {ops : Array Oper} {rest : List Oper} {m : Sy} {s s0 : St} {Q : Sy → St → Prop} {d ty : Nat} {pos : String} {af : Array Edge} {g : Option (Nat × Bool)} {L : List Chunk}
theorem ws_alloc {e : TypeId} {i : TI} (hS : SH s0 L s) (hg : guardY ops m g = some true) (hd : Nat.ble (d + 1) nt = true) (hT : T e = some i) (hz : i.zero.all AV.leaf = true)
    (k : ∀ c s', SH s0 (L ++ [ptC (.ptr c 0 0) i.zero]) s' → Keep [] s s' → W P T K nt ops rest ((d, .ptr c 0 0) :: m) s' Q) : W P T K nt ops (⟨some d, .alloc e, ty, pos, af, g⟩ :: rest) m s Q := by
  refine w_alloc hg hd hT hz hS.ok fun s' hp hk hc => k _ s' (hS.add hk _ hp fun g hg => ?_) hk
  rw [List.mem_singleton.1 hg]; omega
theorem ws_box {e : TypeId} {x : Operand} {v : AV} (hS : SH s0 L s) (hg : guardY ops m g = some true) (hd : Nat.ble (d + 1) nt = true) (hx : evY m x = some v) (hz : v.cells.all AV.leaf = true)
    (k : ∀ c s', SH s0 (L ++ [ptC (.ptr c 0 0) v.cells]) s' → Keep [] s s' → W P T K nt ops rest ((d, .ptr c 0 0) :: m) s' Q) : W P T K nt ops (⟨some d, .box e x, ty, pos, af, g⟩ :: rest) m s Q := by
  refine w_box hg hd hx hz hS.ok fun s' hp hk hc => k _ s' (hS.add hk _ hp fun g hg => ?_) hk
  rw [List.mem_singleton.1 hg]; omega
theorem ws_store {tt : TypeId} {a x : Operand} {i : TI} {u : AV} {c o : Nat} {cs : List AV} (n : Nat) (hS : SH s0 L s) (hn : L[n]? = some (ptC (.ptr c 0 0) cs)) (hg : guardY ops m g = some true) (ha : evY m a = some (.ptr c 0 o)) (hx : evY m x = some u) (hT : T tt = some i) (hl : u.cells.length = i.size)
    (hz : u.cells.all AV.leaf = true) (hlo : o + u.cells.length ≤ cs.length)
    (k : ∀ s', SH s0 (L.set n (ptC (.ptr c 0 0) (over cs o u.cells))) s' → W P T K nt ops rest m s' Q) : W P T K nt ops (⟨none, .store tt a x, ty, pos, af, g⟩ :: rest) m s Q := by
  refine w_store_fld (o := o) hg (p := .ptr c 0 0) (by rw [ha]; simp only [fldA, Nat.zero_add]) hx hT hl hz hS.ok (hS.pt n hn) (by simp [AV.gs]) hlo fun s' hp hk hc => k s' (hS.upd n hn hk (fun g hg => hg) _ hp fun g hg => .inl hg)
theorem ws_storeL {tt : TypeId} {a x : Operand} {i : TI} {u : AV} {c o : Nat} {cs : List AV} (n : Nat) (hS : SH s0 L s) (hn : L[n]? = some (ptC (.ptr c 0 0) cs)) (hg : guardY ops m g = some true) (ha : evY m a = some (.ptr c 0 o)) (hx : evY m x = some u) (hT : T tt = some i) (h1 : i.size = 1)
    (hu : u.leaf = true) (hlo : o < cs.length)
    (k : ∀ s', SH s0 (L.set n (ptC (.ptr c 0 0) (cs.set o u))) s' → W P T K nt ops rest m s' Q) : W P T K nt ops (⟨none, .store tt a x, ty, pos, af, g⟩ :: rest) m s Q := by
  have hc : u.cells = [u] := AV.cells_leaf hu
  refine ws_store n hS hn hg ha hx hT (by rw [hc, h1]; rfl) (by rw [hc]; simp [hu]) (by rw [hc]; exact hlo) fun s' h => k s' ?_
  have : over cs o u.cells = cs.set o u := by
    rw [hc]; unfold over
    rw [List.set_eq_take_append_cons_drop, if_pos hlo]
    simp
  rwa [this] at h
theorem op_fldP {st : TypeId} {x : Operand} {f : Nat} {i : TI} {fs : List (Nat × Nat × Bool)} {off sz : Nat} {ag : Bool} {c j o : Nat} (hx : evY m x = some (.ptr c j o)) (hT : T st = some i) (hs : i.sh = .struct fs) (hf : fs[f]? = some (off, sz, ag)) (hz : sz ≠ 0) :
    ∀ t, Has t nt m → evOp T (.fieldAddr st x f) t s = some (.val (.ptr c j (o + off)), s) := by
  intro t ht
  obtain ⟨sh, size, bytes, zero, flat⟩ := i
  cases hs
  simp only [evOp, hT, hf, evY_ok ht hx, hz, if_false]
theorem Pt.at {h : Tr Grp} {c o : Nat} {cs : List AV} (k : Pt h (.ptr c 0 0) cs) (ho : o ≤ cs.length) : Pt h (.ptr c 0 o) (cs.drop o) := by
  have := k.fld o ho
  rwa [fldA, Nat.zero_add] at this
theorem op_loadC {tt : TypeId} {a : Operand} {i : TI} {c o : Nat} {v : AV} {cs : List AV} (n : Nat) (hS : SH s0 L s) (hn : L[n]? = some (ptC (.ptr c 0 0) cs)) (hx : evY m a = some (.ptr c 0 o)) (hT : T tt = some i) (ho : o ≤ cs.length) (hc : loadC i (cs.drop o) = some v) :
    ∀ t, Has t nt m → evOp T (.load tt a) t s = some (.val v, s) := op_load hx hT ((hS.pt n hn).at ho) hc
theorem ws_append {tt e : TypeId} {x y : Operand} {args : Array Operand} {tys : Array TypeId} {i ie : TI} {a b : AV} {sz : Nat} {cs ns : List (List AV)} (n : Nat) (hS : SH s0 L s) (hn : L[n]? = some (rowC a sz cs)) (hg : guardY ops m g = some true) (hd : Nat.ble (d + 1) nt = true) (h1 : args.toList = [x, y]) (h2 : tys.toList = [tt, tt])
    (hx : evY m x = some a) (hy : evY m y = some b) (hT : T tt = some i) (hs : i.sh = .slice e) (he : T e = some ie) (hsz : ie.size = sz) (h0 : sz ≠ 0) (hb : Row s.h sz b ns)
    (hb1 : (cs.length + ns.length) * ie.bytes ≤ maxBytes) (hb2 : cs.length + ns.length ≤ maxBytes)
    (k : ∀ v s', SH s0 (L.set n (rowC v sz (cs ++ ns))) s' → W P T K nt ops rest ((d, v) :: m) s' Q) :
    W P T K nt ops (⟨some d, .call ⟨.builtin .append, args, tys⟩, ty, pos, af, g⟩ :: rest) m s Q := by
  subst hsz
  refine w_append hg hd h1 h2 hx hy hT hs he h0 hS.ok (hS.row n hn) (hS.nls n hn) hb hb1 hb2 fun v s' hv hk hle hvg hvn _ => k v s' (hS.upd n hn hk (fun g hg => hg) _ ⟨hv, hvn⟩ fun g hg => ?_)
  rcases hvg with h | h
  · exact .inl (by have hg : _ ∈ v.gs := hg; rwa [h] at hg)
  · have hg : _ ∈ v.gs := hg
    exact .inr ⟨by rw [h] at hg; rw [List.mem_singleton.1 hg]; exact Nat.le_refl _, hv.lt hk.ok _ hg⟩
/-- append of one element that was just built. -/
theorem ws_lit1 {tt e : TypeId} {parts : Array (Nat × Operand)} {i ie : TI} {ps : List (Nat × AV)} {c : List AV} {sz : Nat} (hS : SH s0 L s) (hg : guardY ops m g = some true) (hd : Nat.ble (d + 1) nt = true) (hT : T tt = some i) (hs : i.sh = .slice e) (he : T e = some ie) (hp : evPartsY m parts.toList = some ps)
    (hsz : ie.size = sz) (hz : ie.zero.length = ie.size) (h0 : ie.size ≠ 0) (h24 : ie.size ≤ 2 ^ 24) (hf : fillA (fun n => some (n * ie.size, ie.size)) ie.zero ps = some c) (hl : c.all AV.leaf = true) (hcl : c.length = ie.size)
    (k : ∀ v s', SH s0 L s' → Keep [] s s' → Row s'.h sz v [c] → W P T K nt ops rest ((d, v) :: m) s' Q) : W P T K nt ops (⟨some d, .buildSlice tt 1 parts, ty, pos, af, g⟩ :: rest) m s Q := by
  subst hsz
  exact w_lit1 hg hd hT hs he hp hz h0 h24 hf hl hcl hS.ok fun v s' hv hk hc hvg => k v s' (hS.mov hk) hk hv
theorem ws_make {tt e : TypeId} {x y : Operand} {i ie : TI} {n sz : Nat} {_vn _vn' : AV} (hS : SH s0 L s) (hg : guardY ops m g = some true) (hd : Nat.ble (d + 1) nt = true) (hT : T tt = some i) (hs : i.sh = .slice e) (he : T e = some ie) (hx : evY m x = some (.int .i64 n)) (hy : evY m y = some (.int .i64 n))
    (hsz : ie.size = sz) (hz : ie.zero.length = ie.size) (h0 : ie.size ≠ 0) (hl : ie.zero.all AV.leaf = true) (hb : n * ie.bytes ≤ maxBytes) (hb' : n ≤ 140737488355328)
    (k : ∀ v s', SH s0 (L ++ [rowC v sz (List.replicate n ie.zero)]) s' → v.gs ≠ [] → Keep [] s s' → W P T K nt ops rest ((d, v) :: m) s' Q) : W P T K nt ops (⟨some d, .makeSlice tt x y, ty, pos, af, g⟩ :: rest) m s Q := by
  subst hsz
  exact w_make hg hd hT hs he hx hy hz h0 hl hb hb' hS.ok fun v s' hv hk hc hvg => k v s' (hS.add hk _ ⟨hv, fun h => by rw [hvg] at h; cases h⟩ (row_newb hk hv hvg hc)) (by rw [hvg]; simp) hk
theorem ws_storeE {tt : TypeId} {a x : Operand} {i : TI} {r u : AV} {j sz : Nat} {cs : List (List AV)} (n : Nat) (hS : SH s0 L s) (hn : L[n]? = some (rowC r sz cs)) (hg : guardY ops m g = some true) (ha : evY m a = some (elemA r j)) (hx : evY m x = some u) (hT : T tt = some i) (hl : u.cells.length = i.size) (hsz : i.size = sz)
    (hz : u.cells.all AV.leaf = true) (hj : j < cs.length)
    (k : ∀ s', SH s0 (L.set n (rowC r sz (cs.set j u.cells))) s' → W P T K nt ops rest m s' Q) : W P T K nt ops (⟨none, .store tt a x, ty, pos, af, g⟩ :: rest) m s Q := by
  have hr := hS.row n hn
  have hne : r.gs ≠ [] := fun h => by
    have := hS.nls n hn h
    subst this
    cases (hr : cs = [])
    simp at hj
  exact w_store_row hg ha hx hT hl hsz hz hS.ok hr hne hj fun s' hv hk hc => k s' (hS.upd n hn hk (fun g hg => hg) _ ⟨hv, fun h => (hne h).elim⟩ fun g hg => .inl hg)
end
end Go.Ab
/- link.Link. -/
namespace Go.Ab
open Go.Proofs
theorem MapAt.lt {s : St} {g : Nat} {es : List (AV × AV)} (k : MapAt s.h g es) (hok : s.Ok) : g < s.ctr := by
  rcases Nat.lt_or_ge g s.ctr with h | h
  · exact h
  · have := hok g h
    rw [show Tr.get s.h g = _ from k] at this
    cases this
theorem linkO_err {h : Tr Grp} {a b : ModL} (k : ¬ linkE a b = 0) : ModO h (linkM a b) ⟨.nils, .nils, .nils, .nils, []⟩ := by
  rw [show linkM a b = ⟨[], [], [], []⟩ from if_neg k]
  exact ModO.empty h
theorem turnC_id (x : FuncL) : turnC id x = x := by
  unfold turnC; rw [List.map_id]
theorem Lent.ng {α : Type} {h : Tr Grp} {sz : Nat} {f : α → List AV} {mk : List AV} {v : AV} {xs : List α} (k : Lent h sz f mk v xs) : v.gs ≠ [] := by
  obtain ⟨u, rfl, hu, -⟩ := k
  rw [cutA_gs]; exact hu
theorem Apart.app {a b c : Nat} {qs qs2 : List (FuncL × Nat × Nat)} (h : Apart a b qs) (k : Apart b c qs2) {c' : Nat} (h1 : a ≤ b ∧ b ≤ c') (h2 : c ≤ c') : Apart a c' (qs ++ qs2) := by
  refine ⟨?_, fun q hq => ?_⟩
  · rw [List.pairwise_append]
    exact ⟨h.pw, k.pw, fun p hp q hq => Nat.le_trans (h.lo p hp).2 (k.lo q hq).1⟩
  · rcases List.mem_append.1 hq with hq | hq
    · have := h.lo q hq; omega
    · have := k.lo q hq; omega
theorem map_same {β : Type} {f : β → β} (h : ∀ x, f x = x) {l : List β} : l.map f = l := by
  rw [show f = id from funext h, List.map_id]
def data2 {α : Type} (a : AV) (x : List α) (b : AV) (y : List α) : List (AV × List α) := [(a, x), (b, y)]
theorem data2_flat {α : Type} {a b : AV} {x y : List α} : (data2 a x b y).flatMap (·.2) = x ++ y := by simp [data2]
theorem row2 {α : Type} {h : Tr Grp} {sz : Nat} {f : α → List AV} {a b : AV} {x y : List α} (ha : Row h sz a (x.map f)) (hb : Row h sz b (y.map f)) : ∀ p ∈ data2 a x b y, Row h sz p.1 (p.2.map f) := by
  intro p hp
  rcases List.mem_cons.1 hp with rfl | hp
  · exact ha
  · rw [List.mem_singleton.1 hp]; exact hb
theorem fill2 {a b : AV} (ha : a.leaf = true) (hb : b.leaf = true) : fillA (fun n => some (n * 1, 1)) (List.replicate 2 [AV.nils]).flatten [(0, a), (1, b)] = some [a, b] := by
  simp [fillA, AV.cells_leaf ha, AV.cells_leaf hb, over, List.replicate]
theorem eqB2 {a b : AV} (ha : AV.eqB a a = true) (hb : AV.eqB b b = true) : AV.eqBs [a, b] [a, b] = true := by
  simp [AV.eqBs, ha, hb]
theorem dis_clip2 {u v : AV} (h : Dis u v) : Dis (clipA u) (clipA v) := fun g hg h' => h g (by rwa [clipA_gs] at hg) (by rwa [clipA_gs] at h')
/-- A group that is there. -/
def gpC (c : Nat) (G : Grp) : Chunk := ⟨fun g => g = c, fun h => Tr.get h c = some G, fun k h hY => h.keep _ (fun hy => hY _ hy rfl) _ k⟩
theorem SH.new {s0 s : St} {L : List Chunk} (h : SH s0 L s) (G : Grp) : SH s0 (L ++ [gpC s.ctr G]) (s.newG G) :=
  h.add (newG_keep h.ok G).1 _ (newG_keep h.ok G).2.1 fun g hg => by cases hg; exact ⟨Nat.le_refl _, Nat.lt_succ_self _⟩
theorem SH.new3 {s0 s : St} {L : List Chunk} {cs cs2 cs3 : List AV} (h : SH s0 L s) : SH s0 (L ++ [gpC s.ctr ⟨[⟨cs, 0, none⟩]⟩] ++ [gpC (s.ctr + 1) ⟨[⟨cs2, 0, none⟩]⟩] ++ [gpC (s.ctr + 2) ⟨[⟨cs3, 0, none⟩]⟩]) (((s.newG ⟨[⟨cs, 0, none⟩]⟩).newG ⟨[⟨cs2, 0, none⟩]⟩).newG ⟨[⟨cs3, 0, none⟩]⟩) :=
  ((h.new _).new _).new _
theorem gp_row {h : Tr Grp} {c sz k : Nat} {cs : List AV} {rs : List (List AV)} (hg : Tr.get h c = some ⟨[⟨cs, 0, none⟩]⟩) (hk : k = rs.length) (h0 : sz ≠ 0) (hc : cs = rs.flatten) (hcs : ∀ x ∈ rs, x.length = sz ∧ x.all AV.leaf = true) : Row h sz (.slc c 0 0 sz k k true) rs := by
  subst hc hk
  refine ⟨rfl, h0, rfl, Nat.le_refl _, hcs, [], ?_⟩
  rw [List.append_nil, ← flat_len fun c hc => (hcs c hc).1]
  unfold rdH
  rw [hg]
  simp only
  rw [Grp.read_mk (V := ⟨rs.flatten, 0, none⟩) rfl rfl (by simp)]
  rw [List.drop_zero, List.take_length]
/-- A literal's cells are laid over what stood there. -/
theorem SH.lit {s0 s : St} {L : List Chunk} {c : Nat} {G : Grp} {cs : List AV} {rs : List (List AV)} {sz k : Nat} (h : SH s0 L s) (n : Nat) (hn : L[n]? = some (gpC c G)) (hk : k = rs.length) (h0 : sz ≠ 0) (hc : cs = rs.flatten) (hcs : ∀ x ∈ rs, x.length = sz ∧ x.all AV.leaf = true) :
    SH s0 (L.set n (rowC (.slc c 0 0 sz k k true) sz rs)) (s.setG c ⟨[⟨cs, 0, none⟩]⟩) :=
  h.upd n hn (setG_keep h.ok (h.get n hn) _) (fun g hg => List.mem_singleton.1 hg) _ ⟨gp_row (by show Tr.get (Tr.set _ s.h c) c = _; rw [Tr.get_set, if_pos rfl]) hk h0 hc hcs, fun e => by cases e⟩ fun g hg => .inl (List.mem_singleton.1 hg)
theorem SH.litD {s0 s : St} {L : List Chunk} {c : Nat} {cs : List AV} {rs : List (List AV)} {sz k : Nat} (h : SH s0 L s) (n : Nat) (hn : L[n]? = some (gpC c ⟨[⟨cs, 0, none⟩]⟩)) (hk : k = rs.length) (h0 : sz ≠ 0) (hc : cs = rs.flatten) (hcs : ∀ x ∈ rs, x.length = sz ∧ x.all AV.leaf = true) :
    SH s0 (L.set n (rowC (.slc c 0 0 sz k k true) sz rs)) s :=
  h.as n hn _ ⟨gp_row (h.get n hn) hk h0 hc hcs, fun e => by cases e⟩ fun g hg => List.mem_singleton.1 hg
theorem turn_in {ma : ModL} {y : InstrL} (hma : ma.small) (h : OpSmall y) (hy : In64 y.a) : In64 (y.a + moreE ma y.op) := by
  obtain ⟨h1, h2, h3, h4, -⟩ := hma
  unfold OpSmall at h
  unfold moreE
  unfold In64 at hy ⊢
  by_cases e1 : y.op = 35 ∨ y.op = 36
  · rw [if_pos e1]; have := h (.inl (by omega)); omega
  rw [if_neg e1]
  by_cases e2 : y.op = 37 ∨ y.op = 38
  · rw [if_pos e2]; have := h (.inl (by omega)); omega
  rw [if_neg e2]
  by_cases e3 : y.op = 47
  · rw [if_pos e3]; have := h (.inr (.inr e3)); omega
  rw [if_neg e3]
  by_cases e4 : y.op = 45
  · rw [if_pos e4]; have := h (.inr (.inl e4)); omega
  rw [if_neg e4]
  omega
set_option maxRecDepth 10000 in
set_option maxHeartbeats 100000000 in
theorem link_ok {s : St} {ca cb : List AV} {ma mb : ModL} (hok : s.Ok) (hma : ma.small) (hmb : mb.small) (hva' : ModLR s.h ma ca) (hvb' : ModLR s.h mb cb) (hin : ∀ x ∈ mb.funcs, ∀ y ∈ x.code, In64 y.a) :
    CallS Try.prog Tt Kt 28 [.agg ca, .agg cb] s (fun r s' => Keep [] s s' ∧ ∃ M : MemM, r = .tup [.agg M.cells, .int .i64 (linkE ma mb)] ∧ ModO s'.h (linkM ma mb) M ∧ ∀ v ∈ M.all, ∀ g ∈ v.gs, s.ctr ≤ g) := by
  have hva := hva'.to
  have hvb := hvb'.to
  have hza := hva.leaf.2
  have hzb := hvb.leaf.2
  obtain ⟨vga, vaa, vha, vfa, rfl, lga, laa, lha, hfa⟩ := hva'
  obtain ⟨vgb, vab, vhb, vfb, rfl, lgb, lab, lhb, hfb⟩ := hvb'
  have hga := lga.row
  have nghga := lga.ng
  have haa := laa.row
  have nghaa := laa.ng
  have hha := lha.row
  have nghha := lha.ng
  have hgb := lgb.row
  have nghgb := lgb.ng
  have hab := lab.row
  have nghab := lab.ng
  have hhb := lhb.row
  have nghhb := lhb.ng
  have hsga : vga.slen = some ma.globals.length := hga.slenF
  have hsgb : vgb.slen = some mb.globals.length := hgb.slenF
  have hsaa : vaa.slen = some ma.arrays.length := haa.slenF
  have hsab : vab.slen = some mb.arrays.length := hab.slenF
  have hsha : vha.slen = some ma.channels.length := hha.slenF
  have hshb : vhb.slen = some mb.channels.length := hhb.slenF
  have hfa := hfa.row (R' := FuncLR) fun _ _ h => h
  have hfb := hfb.row (R' := FuncLR) fun _ _ h => h
  have hsfa : vfa.slen = some ma.funcs.length := by obtain ⟨css, h1, h2, -⟩ := hfa; rw [h1.slen, h2]
  have hsfb : vfb.slen = some mb.funcs.length := by obtain ⟨css, h1, h2, -⟩ := hfb; rw [h1.slen, h2]
  obtain ⟨ha1, ha3, ha2, ha4, hsa⟩ := id hma
  obtain ⟨hb1, hb3, hb2, hb4, hsb⟩ := id hmb
  refine call_of (fn := Try.f28) (nt := 90) Try.func28 rfl rfl rfl ?_
  repeat refine wc_seq ?_
  have hS := SH.start hok
  refine wc_region ?_
  refine ws_box hS rfl rfl rfl hza ?_
  rintro p0 z hS hk
  have hS : SH s [_] z := hS
  have hK := hS.K
  refine ws_box hS rfl rfl rfl hzb ?_
  rintro p1 z hS hk
  have hS : SH s [_, _] z := hS
  have hK := hS.K
  refine ws_alloc hS rfl rfl rfl rfl ?_
  rintro p2 z hS hk
  have hS : SH s [_, _, _] z := hS
  have hK := hS.K
  refine w_val rfl rfl (op_pure rfl) ?_
  refine w_nil ?_
  refine then_n ?_
  repeat refine wc_seq ?_
  refine wc_region ?_
  refine w_val rfl rfl (op_loadC 0 hS rfl rfl rfl (Nat.le_of_ble_eq_true rfl) rfl) ?_
  refine w_call rfl rfl (op_call rfl rfl rfl rfl) (right_ok hK.ok hma (ModR.keep0 hva hK)) ?_
  rintro _ z ⟨hk, rfl⟩
  have hS := hS.mov hk
  have hK := hS.K
  generalize ra0 : ((checkF ma).1 == 0 && ((checkF ma).2.1 == 0 && ((checkF ma).2.2 == 0 && true))) = ra
  have hra : okM ma = ra := ra0
  refine w_val rfl rfl (op_pure rfl) ?_
  refine w_val rfl rfl (op_pure rfl) ?_
  refine w_split (i := 11) rfl (fun h11 => ?_) (fun h11 => ?_)
  · simp only [Bool.not_eq_true'] at h11
    refine w_off rfl rfl ?_
    refine w_off rfl rfl ?_
    refine w_off rfl rfl ?_
    refine w_val rfl rfl (op_pure rfl) ?_
    refine w_nil ?_
    refine then_n ?_
    repeat refine wc_seq ?_
    refine wc_cond_t rfl ?_
    repeat refine wc_seq ?_
    refine wc_region ?_
    refine w_val rfl rfl (op_pure rfl) ?_
    refine ws_store 2 hS rfl rfl rfl rfl rfl rfl (by rfl) (Nat.le_of_ble_eq_true rfl) ?_
    rintro z hS
    have hS : SH s [_, _, _] z := hS
    have hK := hS.K
    refine w_val rfl rfl (op_pure rfl) ?_
    refine w_nil ?_
    refine then_n ?_
    refine wc_ret ?_
    repeat first | refine then_r ?_ | refine out_r ?_ | refine round_r ?_ | refine cut_r ?_ | refine sc_r ?_
    exact ⟨_, res_cell2 rfl rfl rfl (hS.pt 2 rfl) rfl, hK, ⟨.nils, .nils, .nils, .nils, []⟩, congrArg (fun e => AV.tup [AV.agg [.nils, .nils, .nils, .nils], .int .i64 e]) (linkE_a (hra.trans h11)).symm, linkO_err (by rw [linkE_a (hra.trans h11)]; decide), fun v hv g hg => by simp [MemM.all, MemM.labs, MemM.cods] at hv; subst hv; cases hg⟩
  simp only [Bool.not_eq_false'] at h11
  refine w_val rfl rfl (op_loadC 1 hS rfl rfl rfl (Nat.le_of_ble_eq_true rfl) rfl) ?_
  refine w_call rfl rfl (op_call rfl rfl rfl rfl) (right_ok hK.ok hmb (ModR.keep0 hvb hK)) ?_
  rintro _ z ⟨hk, rfl⟩
  have hS := hS.mov hk
  have hK := hS.K
  generalize rb0 : ((checkF mb).1 == 0 && ((checkF mb).2.1 == 0 && ((checkF mb).2.2 == 0 && true))) = rb
  have hrb : okM mb = rb := rb0
  refine w_val rfl rfl (op_pure rfl) ?_
  refine w_val rfl rfl (op_pure rfl) ?_
  refine w_nil ?_
  refine then_n ?_
  repeat refine wc_seq ?_
  refine wc_condT rfl (fun h15 => ?_) (fun h15 => ?_)
  · simp only [Bool.not_eq_true'] at h15
    repeat refine wc_seq ?_
    refine wc_region ?_
    refine w_val rfl rfl (op_pure rfl) ?_
    refine ws_store 2 hS rfl rfl rfl rfl rfl rfl (by rfl) (Nat.le_of_ble_eq_true rfl) ?_
    rintro z hS
    have hS : SH s [_, _, _] z := hS
    have hK := hS.K
    refine w_val rfl rfl (op_pure rfl) ?_
    refine w_nil ?_
    refine then_n ?_
    refine wc_ret ?_
    repeat first | refine then_r ?_ | refine out_r ?_ | refine round_r ?_ | refine cut_r ?_ | refine sc_r ?_
    exact ⟨_, res_cell2 rfl rfl rfl (hS.pt 2 rfl) rfl, hK, ⟨.nils, .nils, .nils, .nils, []⟩, congrArg (fun e => AV.tup [AV.agg [.nils, .nils, .nils, .nils], .int .i64 e]) (linkE_b (hrb.trans h15)).symm, linkO_err (by rw [linkE_b (hrb.trans h15)]; decide), fun v hv g hg => by simp [MemM.all, MemM.labs, MemM.cods] at hv; subst hv; cases hg⟩
  simp only [Bool.not_eq_false'] at h15
  refine wc_skip ?_
  refine then_n ?_
  repeat refine wc_seq ?_
  refine wc_region ?_
  refine w_val rfl rfl (op_fldP rfl rfl rfl rfl (by decide)) ?_
  refine w_val rfl rfl (op_loadC 0 hS rfl rfl rfl (Nat.le_of_ble_eq_true rfl) rfl) ?_
  refine w_val rfl rfl (op_len rfl rfl rfl rfl rfl (by assumption)) ?_
  refine w_val rfl rfl (op_fldP rfl rfl rfl rfl (by decide)) ?_
  refine w_val rfl rfl (op_loadC 1 hS rfl rfl rfl (Nat.le_of_ble_eq_true rfl) rfl) ?_
  refine w_val rfl rfl (op_len rfl rfl rfl rfl rfl (by assumption)) ?_
  refine w_val rfl rfl (op_add rfl rfl (by unfold In64; omega)) ?_
  refine w_val rfl rfl (op_pure rfl) ?_
  refine w_val rfl rfl (op_pure rfl) ?_
  refine w_split (i := 25) rfl (fun h25 => ?_) (fun h25 => ?_)
  · simp only [decide_eq_true_eq, gt_iff_lt] at h25
    refine w_off rfl rfl ?_
    refine w_off rfl rfl ?_
    refine w_off rfl rfl ?_
    refine w_off rfl rfl ?_
    refine w_off rfl rfl ?_
    refine w_off rfl rfl ?_
    refine w_off rfl rfl ?_
    refine w_off rfl rfl ?_
    refine w_val rfl rfl (op_pure rfl) ?_
    refine w_val rfl rfl (op_pure rfl) ?_
    refine w_off rfl rfl ?_
    refine w_off rfl rfl ?_
    refine w_off rfl rfl ?_
    refine w_off rfl rfl ?_
    refine w_off rfl rfl ?_
    refine w_off rfl rfl ?_
    refine w_off rfl rfl ?_
    refine w_off rfl rfl ?_
    refine w_val rfl rfl (op_pure rfl) ?_
    refine w_val rfl rfl (op_pure rfl) ?_
    refine w_off rfl rfl ?_
    refine w_off rfl rfl ?_
    refine w_off rfl rfl ?_
    refine w_off rfl rfl ?_
    refine w_off rfl rfl ?_
    refine w_off rfl rfl ?_
    refine w_off rfl rfl ?_
    refine w_off rfl rfl ?_
    refine w_val rfl rfl (op_pure rfl) ?_
    refine w_nil ?_
    refine then_n ?_
    repeat refine wc_seq ?_
    refine wc_cond_t rfl ?_
    repeat refine wc_seq ?_
    refine wc_region ?_
    refine w_val rfl rfl (op_pure rfl) ?_
    refine ws_store 2 hS rfl rfl rfl rfl rfl rfl (by rfl) (Nat.le_of_ble_eq_true rfl) ?_
    rintro z hS
    have hS : SH s [_, _, _] z := hS
    have hK := hS.K
    refine w_val rfl rfl (op_pure rfl) ?_
    refine w_nil ?_
    refine then_n ?_
    refine wc_ret ?_
    repeat first | refine then_r ?_ | refine out_r ?_ | refine round_r ?_ | refine cut_r ?_ | refine sc_r ?_
    exact ⟨_, res_cell2 rfl rfl rfl (hS.pt 2 rfl) rfl, hK, ⟨.nils, .nils, .nils, .nils, []⟩, congrArg (fun e => AV.tup [AV.agg [.nils, .nils, .nils, .nils], .int .i64 e]) (linkE_many (hra.trans h11) (hrb.trans h15) (by omega)).symm, linkO_err (by rw [linkE_many (hra.trans h11) (hrb.trans h15) (by omega)]; decide), fun v hv g hg => by simp [MemM.all, MemM.labs, MemM.cods] at hv; subst hv; cases hg⟩
  simp only [decide_eq_false_iff_not, gt_iff_lt] at h25
  refine w_val rfl rfl (op_fldP rfl rfl rfl rfl (by decide)) ?_
  refine w_val rfl rfl (op_loadC 0 hS rfl rfl rfl (Nat.le_of_ble_eq_true rfl) rfl) ?_
  refine w_val rfl rfl (op_len rfl rfl rfl rfl rfl (by assumption)) ?_
  refine w_val rfl rfl (op_fldP rfl rfl rfl rfl (by decide)) ?_
  refine w_val rfl rfl (op_loadC 1 hS rfl rfl rfl (Nat.le_of_ble_eq_true rfl) rfl) ?_
  refine w_val rfl rfl (op_len rfl rfl rfl rfl rfl (by assumption)) ?_
  refine w_val rfl rfl (op_add rfl rfl (by unfold In64; omega)) ?_
  refine w_val rfl rfl (op_pure rfl) ?_
  refine w_val rfl rfl (op_pure rfl) ?_
  refine w_val rfl rfl (op_pure rfl) ?_
  refine w_split (i := 35) rfl (fun h35 => ?_) (fun h35 => ?_)
  · simp only [decide_eq_true_eq, gt_iff_lt] at h35
    refine w_off rfl rfl ?_
    refine w_off rfl rfl ?_
    refine w_off rfl rfl ?_
    refine w_off rfl rfl ?_
    refine w_off rfl rfl ?_
    refine w_off rfl rfl ?_
    refine w_off rfl rfl ?_
    refine w_off rfl rfl ?_
    refine w_val rfl rfl (op_pure rfl) ?_
    refine w_val rfl rfl (op_pure rfl) ?_
    refine w_off rfl rfl ?_
    refine w_off rfl rfl ?_
    refine w_off rfl rfl ?_
    refine w_off rfl rfl ?_
    refine w_off rfl rfl ?_
    refine w_off rfl rfl ?_
    refine w_off rfl rfl ?_
    refine w_off rfl rfl ?_
    refine w_val rfl rfl (op_pure rfl) ?_
    refine w_nil ?_
    refine then_n ?_
    repeat refine wc_seq ?_
    refine wc_cond_t rfl ?_
    repeat refine wc_seq ?_
    refine wc_region ?_
    refine w_val rfl rfl (op_pure rfl) ?_
    refine ws_store 2 hS rfl rfl rfl rfl rfl rfl (by rfl) (Nat.le_of_ble_eq_true rfl) ?_
    rintro z hS
    have hS : SH s [_, _, _] z := hS
    have hK := hS.K
    refine w_val rfl rfl (op_pure rfl) ?_
    refine w_nil ?_
    refine then_n ?_
    refine wc_ret ?_
    repeat first | refine then_r ?_ | refine out_r ?_ | refine round_r ?_ | refine cut_r ?_ | refine sc_r ?_
    exact ⟨_, res_cell2 rfl rfl rfl (hS.pt 2 rfl) rfl, hK, ⟨.nils, .nils, .nils, .nils, []⟩, congrArg (fun e => AV.tup [AV.agg [.nils, .nils, .nils, .nils], .int .i64 e]) (linkE_many (hra.trans h11) (hrb.trans h15) (by omega)).symm, linkO_err (by rw [linkE_many (hra.trans h11) (hrb.trans h15) (by omega)]; decide), fun v hv g hg => by simp [MemM.all, MemM.labs, MemM.cods] at hv; subst hv; cases hg⟩
  simp only [decide_eq_false_iff_not, gt_iff_lt] at h35
  refine w_val rfl rfl (op_fldP rfl rfl rfl rfl (by decide)) ?_
  refine w_val rfl rfl (op_loadC 0 hS rfl rfl rfl (Nat.le_of_ble_eq_true rfl) rfl) ?_
  refine w_val rfl rfl (op_len rfl rfl rfl rfl rfl (by assumption)) ?_
  refine w_val rfl rfl (op_fldP rfl rfl rfl rfl (by decide)) ?_
  refine w_val rfl rfl (op_loadC 1 hS rfl rfl rfl (Nat.le_of_ble_eq_true rfl) rfl) ?_
  refine w_val rfl rfl (op_len rfl rfl rfl rfl rfl (by assumption)) ?_
  refine w_val rfl rfl (op_add rfl rfl (by unfold In64; omega)) ?_
  refine w_val rfl rfl (op_pure rfl) ?_
  refine w_val rfl rfl (op_pure rfl) ?_
  refine w_val rfl rfl (op_pure rfl) ?_
  refine w_split (i := 45) rfl (fun h45 => ?_) (fun h45 => ?_)
  · simp only [decide_eq_true_eq, gt_iff_lt] at h45
    refine w_off rfl rfl ?_
    refine w_off rfl rfl ?_
    refine w_off rfl rfl ?_
    refine w_off rfl rfl ?_
    refine w_off rfl rfl ?_
    refine w_off rfl rfl ?_
    refine w_off rfl rfl ?_
    refine w_off rfl rfl ?_
    refine w_val rfl rfl (op_pure rfl) ?_
    refine w_nil ?_
    refine then_n ?_
    repeat refine wc_seq ?_
    refine wc_cond_t rfl ?_
    repeat refine wc_seq ?_
    refine wc_region ?_
    refine w_val rfl rfl (op_pure rfl) ?_
    refine ws_store 2 hS rfl rfl rfl rfl rfl rfl (by rfl) (Nat.le_of_ble_eq_true rfl) ?_
    rintro z hS
    have hS : SH s [_, _, _] z := hS
    have hK := hS.K
    refine w_val rfl rfl (op_pure rfl) ?_
    refine w_nil ?_
    refine then_n ?_
    refine wc_ret ?_
    repeat first | refine then_r ?_ | refine out_r ?_ | refine round_r ?_ | refine cut_r ?_ | refine sc_r ?_
    exact ⟨_, res_cell2 rfl rfl rfl (hS.pt 2 rfl) rfl, hK, ⟨.nils, .nils, .nils, .nils, []⟩, congrArg (fun e => AV.tup [AV.agg [.nils, .nils, .nils, .nils], .int .i64 e]) (linkE_many (hra.trans h11) (hrb.trans h15) (by omega)).symm, linkO_err (by rw [linkE_many (hra.trans h11) (hrb.trans h15) (by omega)]; decide), fun v hv g hg => by simp [MemM.all, MemM.labs, MemM.cods] at hv; subst hv; cases hg⟩
  simp only [decide_eq_false_iff_not, gt_iff_lt] at h45
  refine w_val rfl rfl (op_fldP rfl rfl rfl rfl (by decide)) ?_
  refine w_val rfl rfl (op_loadC 0 hS rfl rfl rfl (Nat.le_of_ble_eq_true rfl) rfl) ?_
  refine w_val rfl rfl (op_len rfl rfl rfl rfl rfl (by assumption)) ?_
  refine w_val rfl rfl (op_fldP rfl rfl rfl rfl (by decide)) ?_
  refine w_val rfl rfl (op_loadC 1 hS rfl rfl rfl (Nat.le_of_ble_eq_true rfl) rfl) ?_
  refine w_val rfl rfl (op_len rfl rfl rfl rfl rfl (by assumption)) ?_
  refine w_val rfl rfl (op_add rfl rfl (by unfold In64; omega)) ?_
  refine w_val rfl rfl (op_pure rfl) ?_
  refine w_val rfl rfl (op_pure rfl) ?_
  refine w_nil ?_
  refine then_n ?_
  repeat refine wc_seq ?_
  refine wc_condT rfl (fun h54 => ?_) (fun h54 => ?_)
  · simp only [decide_eq_true_eq, gt_iff_lt] at h54
    repeat refine wc_seq ?_
    refine wc_region ?_
    refine w_val rfl rfl (op_pure rfl) ?_
    refine ws_store 2 hS rfl rfl rfl rfl rfl rfl (by rfl) (Nat.le_of_ble_eq_true rfl) ?_
    rintro z hS
    have hS : SH s [_, _, _] z := hS
    have hK := hS.K
    refine w_val rfl rfl (op_pure rfl) ?_
    refine w_nil ?_
    refine then_n ?_
    refine wc_ret ?_
    repeat first | refine then_r ?_ | refine out_r ?_ | refine round_r ?_ | refine cut_r ?_ | refine sc_r ?_
    exact ⟨_, res_cell2 rfl rfl rfl (hS.pt 2 rfl) rfl, hK, ⟨.nils, .nils, .nils, .nils, []⟩, congrArg (fun e => AV.tup [AV.agg [.nils, .nils, .nils, .nils], .int .i64 e]) (linkE_many (hra.trans h11) (hrb.trans h15) (by omega)).symm, linkO_err (by rw [linkE_many (hra.trans h11) (hrb.trans h15) (by omega)]; decide), fun v hv g hg => by simp [MemM.all, MemM.labs, MemM.cods] at hv; subst hv; cases hg⟩
  simp only [decide_eq_false_iff_not, gt_iff_lt] at h54
  refine wc_skip ?_
  refine then_n ?_
  repeat refine wc_seq ?_
  have hE : linkE ma mb = 0 := linkE_ok (hra.trans h11) (hrb.trans h15) (by omega)
  have hmany : ¬ (32 < ma.globals.length + mb.globals.length ∨ 16 < ma.arrays.length + mb.arrays.length ∨ 16 < ma.channels.length + mb.channels.length ∨ 32 < ma.funcs.length + mb.funcs.length) := by omega
  clear h25 h35 h45 h54
  refine wc_region ?_
  refine w_val rfl rfl (op_loadC 0 hS rfl rfl rfl (Nat.le_of_ble_eq_true rfl) rfl) ?_
  refine w_call rfl rfl (op_call rfl rfl rfl rfl) (by_ok hK.ok (ModR.keep0 hva hK)) ?_
  rintro _ z ⟨hk, gm, rfl, hgm, hmap⟩
  have hS := hS.add hk (mapC gm (byL ma)) hmap (fun g hg => by cases hg; exact ⟨hgm, hmap.lt hk.ok⟩)
  have hS : SH s [_, _, _, _] z := hS
  have hK := hS.K
  refine ws_alloc hS rfl rfl rfl rfl ?_
  rintro p4 z hS hk
  have hS : SH s [_, _, _, _, _] z := hS
  have hK := hS.K
  refine ws_store 4 hS rfl rfl rfl rfl rfl rfl rfl (Nat.le_of_ble_eq_true rfl) ?_
  rintro z hS
  have hS : SH s [_, _, _, _, _] z := hS
  have hK := hS.K
  have hops := okM_small hmb (hrb.trans h15)
  refine w_nil ?_
  refine then_n ?_
  repeat refine wc_seq ?_
  have hR := Keep.refl hS.ok
  have hKz := hK
  refine wc_draw (Old z []) (by kernel_rfl) rfl ?_
  refine wo_val (fun _ => rfl) rfl rfl (op_fldP rfl rfl rfl rfl (by decide)) ?_
  refine wo_load hR rfl rfl ((hS.pt 0 rfl).at (Nat.le_of_ble_eq_true rfl)) rfl (fun _ _ h => by cases h) rfl rfl ?_
  refine wo_call hR rfl rfl (fun _ => rfl) (op_call rfl rfl rfl rfl) (all_ok (turn := id) (l := ma.funcs) hR.ok ha4 hsa (show RowR z.h 6 FuncLR vfa ma.funcs from RowR.keep0 FuncLR.keep0 hfa hK) (fun s' x y _ _ hk => turn1_ok hk.ok)) (fun _ _ h => h.1) ?_
  rintro va6 sB ⟨hkB, qsa, hqa, hapa, hBa⟩ hRB
  have hkB : Keep [] z (sB.join z) := hkB.joined
  have hBa : Bld z.ctr (sB.join z).ctr (sB.join z) 6 FuncQ va6 qsa := hBa
  have hapa : Apart z.ctr (sB.join z).ctr qsa := hapa
  generalize sB.join z = sB at hkB hBa hapa hRB ⊢
  have hcB := hkB.ctr
  refine wo_val (fun _ => rfl) rfl rfl (op_fldP rfl rfl rfl rfl (by decide)) ?_
  refine wo_load hRB rfl rfl ((hS.pt 1 rfl).at (Nat.le_of_ble_eq_true rfl)) rfl (fun _ _ h => by cases h) rfl rfl ?_
  refine wo_val (fun _ => rfl) rfl rfl (op_pure rfl) ?_
  have hSB := hS.mov hkB
  refine wo_call hRB rfl rfl (fun _ => rfl) (op_call rfl rfl rfl rfl) (all_ok (turn := turnI ma) (l := mb.funcs) hRB.ok hb4 hsb (show RowR sB.h 6 FuncLR vfb mb.funcs from RowR.keep0 FuncLR.keep0 (RowR.keep0 FuncLR.keep0 hfb hK) hRB) (fun s' x y hx hy hk => turn2_ok hk.ok ((Pt.bare (hSB.pt 4 rfl)).keep0 hk) ((show MapAt sB.bare.h gm (byL ma) from hSB.get (c := mapC gm (byL ma)) 3 rfl).keep hk (fun h => (List.not_mem_nil h).elim)) (turn_in hma (hops x hx y hy) (hin x hx y hy)))) (fun _ _ h => h.1) ?_
  rintro vb6 sC ⟨hkC, qsb, hqb, hapb, hBb⟩ hRC
  have hkC : Keep [] sB (sC.join sB) := hkC.joined
  have hBb : Bld sB.ctr (sC.join sB).ctr (sC.join sB) 6 FuncQ vb6 qsb := hBb
  have hapb : Apart sB.ctr (sC.join sB).ctr qsb := hapb
  generalize sC.join sB = sC at hkC hBb hapb hRC ⊢
  have hcC := hkC.ctr
  have hBa := hBa.keep good_q hkC (fun g hg => by cases hg)
  obtain ⟨cssa, hra6, hna6, hga6, hla6, hxa6⟩ := hBa
  obtain ⟨cssb, hrb6, hnb6, hgb6, hlb6, hxb6⟩ := hBb
  have hqla : qsa.length = ma.funcs.length := by have := congrArg List.length hqa; simpa using this
  have hqlb : qsb.length = mb.funcs.length := by have := congrArg List.length hqb; simpa using this
  refine wo_append hRC (fun g hg => .inl (hga6 g hg).1) rfl rfl rfl rfl rfl rfl rfl rfl rfl (by decide) hra6 hna6 hrb6 (by rw [hla6, hlb6, hqla, hqlb]; simp only [maxBytes]; omega) (by rw [hla6, hlb6, hqla, hqlb]; simp only [maxBytes]; omega) ?_
  rintro v6 sD hv6 hkD - hg6 hn6 -
  refine wo_val (fun _ => rfl) rfl rfl (op_pure rfl) ?_
  refine wd_nil ?_
  have hcD := hkD.ctr
  have hB6 : Bld z.ctr sD.ctr sD 6 FuncQ v6 (qsa ++ qsb) := Bld.app good_q hra6 hga6 hla6 hxa6 hlb6 hxb6 (Nat.le_refl _) (Nat.le_refl _) hcC hcB hv6 hkD hg6 hn6
  have hap6 : Apart z.ctr sD.ctr (qsa ++ qsb) := Apart.app hapa hapb (by omega) (by omega)
  have hRD : Keep [] z sD := hRC.fresh hkD (fun g hg => (hga6 g hg).1)
  obtain ⟨css6, hr6, hn6, hg6, hl6, hx6⟩ := hB6
  have hS := hS.add hRD (bldC FuncQ good_q (fun g => z.ctr ≤ g ∧ g < sD.ctr) 6 v6 (qsa ++ qsb)) ⟨css6, hr6, hn6, hg6, hl6, fun i x c k1 k2 => good_q.mono (hx6 i x c k1 k2) fun g k => ⟨⟨k.1, k.2.1⟩, k.2.2⟩⟩ (fun g hg => hg)
  have hS : SH s [_, _, _, _, _, _] sD := hS
  have hK := hS.K
  clear hra6 hna6 hga6 hla6 hxa6 hrb6 hnb6 hgb6 hlb6 hxb6 hr6 hn6 hg6 hl6 hx6 hv6 css6 cssa cssb
  obtain ⟨a0, ha0⟩ : ∃ a, a = z.ctr := ⟨_, rfl⟩
  obtain ⟨b0, hb0⟩ : ∃ a, a = sD.ctr := ⟨_, rfl⟩
  rw [← ha0, ← hb0] at hap6
  have ha5 : s.ctr ≤ a0 := by have := hKz.ctr; omega
  refine then_n ?_
  repeat refine wc_seq ?_
  have hlg : ([vga, vgb] : List AV).all AV.leaf = true := by simp only [List.all_cons, List.all_nil, hga.leaf, hgb.leaf]; rfl
  have hla : ([vaa, vab] : List AV).all AV.leaf = true := by simp only [List.all_cons, List.all_nil, haa.leaf, hab.leaf]; rfl
  have hlh : ([vha, vhb] : List AV).all AV.leaf = true := by simp only [List.all_cons, List.all_nil, hha.leaf, hhb.leaf]; rfl
  have hcg : ([vga, vgb] : List AV) = ([[vga], [vgb]] : List (List AV)).flatten := rfl
  have hca : ([vaa, vab] : List AV) = ([[vaa], [vab]] : List (List AV)).flatten := rfl
  have hch : ([vha, vhb] : List AV) = ([[vha], [vhb]] : List (List AV)).flatten := rfl
  have hc2 : ∀ {x y : AV}, ([x, y] : List AV).all AV.leaf = true → ∀ c ∈ ([[x], [y]] : List (List AV)), c.length = 1 ∧ c.all AV.leaf = true := by
    intro x y h c hc
    simp only [List.all_cons, List.all_nil, Bool.and_true, Bool.and_eq_true] at h
    rcases List.mem_cons.1 hc with rfl | hc
    · simp [h.1]
    · rw [List.mem_singleton.1 hc]; simp [h.2]
  refine wc_early2 (D := Old (((sD.newG ⟨[⟨[vga, vgb], 0, none⟩]⟩).newG ⟨[⟨[vaa, vab], 0, none⟩]⟩).newG ⟨[⟨[vha, vhb], 0, none⟩]⟩) [p2]) (A := [(4, sD.ctr), (11, sD.ctr + 1), (18, sD.ctr + 2)]) (gs := [[], [], [], [], [vga, vgb], [], [], [], [], [], [], [vaa, vab], [], [], [], [], [], [], [vha, vhb], [], [], [], [], [], [], []]) (by kernel_rfl) (by kernel_rfl) (hoist_skip rfl (hoist_skip rfl (hoist_skip rfl (hoist_skip rfl (hoist_lit (cs := []) rfl rfl rfl (hoist_skip rfl (hoist_skip rfl (hoist_skip rfl (hoist_skip rfl (hoist_skip rfl (hoist_skip rfl (hoist_lit (cs := []) rfl rfl rfl (hoist_skip rfl (hoist_skip rfl (hoist_skip rfl (hoist_skip rfl (hoist_skip rfl (hoist_skip rfl (hoist_lit (cs := []) rfl rfl rfl (hoist_skip rfl (hoist_skip rfl (hoist_skip rfl (hoist_skip rfl (hoist_skip rfl (hoist_skip rfl (hoist_skip rfl (rfl))))))))))))))))))))))))))) ?_ (hoist_skip rfl (hoist_skip rfl (hoist_skip rfl (hoist_skip rfl (hoist_lit (cs := [vga, vgb]) rfl rfl hlg (hoist_skip rfl (hoist_skip rfl (hoist_skip rfl (hoist_skip rfl (hoist_skip rfl (hoist_skip rfl (hoist_lit (cs := [vaa, vab]) rfl rfl hla (hoist_skip rfl (hoist_skip rfl (hoist_skip rfl (hoist_skip rfl (hoist_skip rfl (hoist_skip rfl (hoist_lit (cs := [vha, vhb]) rfl rfl hlh (hoist_skip rfl (hoist_skip rfl (hoist_skip rfl (hoist_skip rfl (hoist_skip rfl (hoist_skip rfl (hoist_skip rfl (rfl))))))))))))))))))))))))))) ?_
  · have hk3 := (hS.new3 (cs := []) (cs2 := []) (cs3 := []))
    generalize ((sD.newG ⟨[⟨[], 0, none⟩]⟩).newG ⟨[⟨[], 0, none⟩]⟩).newG ⟨[⟨[], 0, none⟩]⟩ = w at hk3 ⊢
    have hS : SH s [_, _, _, _, _, _, _, _, _] w := hk3
    have hK := hS.K
    refine wg_val rfl rfl (op_fldP rfl rfl rfl rfl (by decide)) ?_
    refine wg_val rfl rfl (op_loadC 0 hS rfl rfl rfl (Nat.le_of_ble_eq_true rfl) rfl) ?_
    refine wg_val rfl rfl (op_fldP rfl rfl rfl rfl (by decide)) ?_
    refine wg_val rfl rfl (op_loadC 1 hS rfl rfl rfl (Nat.le_of_ble_eq_true rfl) rfl) ?_
    refine wg_lit rfl rfl rfl rfl rfl rfl (by decide) (by decide) (fill2 hga.leaf hgb.leaf) hlg ?_
    have hS := hS.lit (k := 2) 6 rfl rfl (by decide) hcg (hc2 hlg)
    have hS : SH s [_, _, _, _, _, _, _, _, _] _ := hS
    have hK := hS.K
    refine wg_call rfl rfl (op_call rfl rfl rfl rfl) (concatLabels_ok (data := data2 vga ma.globals vgb mb.globals) hK.ok (hS.row 6 rfl) (row2 (hga.keep0 hK) (hgb.keep0 hK)) (by simp [data2]; omega) (by simp [data2])) ?_
    rintro rg z ⟨hk, hrg, hng, -⟩
    have hS := hS.mov hk
    have hK := hS.K
    refine wg_call rfl rfl (op_call rfl rfl rfl rfl) (clipLabels_ok hrg hng) ?_
    rintro _ z ⟨rfl, rfl⟩
    refine wg_val rfl rfl (op_fldP rfl rfl rfl rfl (by decide)) ?_
    refine wg_val rfl rfl (op_loadC 0 hS rfl rfl rfl (Nat.le_of_ble_eq_true rfl) rfl) ?_
    refine wg_val rfl rfl (op_fldP rfl rfl rfl rfl (by decide)) ?_
    refine wg_val rfl rfl (op_loadC 1 hS rfl rfl rfl (Nat.le_of_ble_eq_true rfl) rfl) ?_
    refine wg_lit rfl rfl rfl rfl rfl rfl (by decide) (by decide) (fill2 haa.leaf hab.leaf) hla ?_
    have hS := hS.lit (k := 2) 7 rfl rfl (by decide) hca (hc2 hla)
    have hS : SH s [_, _, _, _, _, _, _, _, _] _ := hS
    have hK := hS.K
    refine wg_call rfl rfl (op_call rfl rfl rfl rfl) (concatArrays_ok (data := data2 vaa ma.arrays vab mb.arrays) hK.ok (hS.row 7 rfl) (row2 (haa.keep0 hK) (hab.keep0 hK)) (by simp [data2]; omega) (by simp [data2])) ?_
    rintro ra z ⟨hk, hra, hna, -⟩
    have hS := hS.mov hk
    have hK := hS.K
    refine wg_call rfl rfl (op_call rfl rfl rfl rfl) (clipArrays_ok hra hna) ?_
    rintro _ z ⟨rfl, rfl⟩
    refine wg_val rfl rfl (op_fldP rfl rfl rfl rfl (by decide)) ?_
    refine wg_val rfl rfl (op_loadC 0 hS rfl rfl rfl (Nat.le_of_ble_eq_true rfl) rfl) ?_
    refine wg_val rfl rfl (op_fldP rfl rfl rfl rfl (by decide)) ?_
    refine wg_val rfl rfl (op_loadC 1 hS rfl rfl rfl (Nat.le_of_ble_eq_true rfl) rfl) ?_
    refine wg_lit rfl rfl rfl rfl rfl rfl (by decide) (by decide) (fill2 hha.leaf hhb.leaf) hlh ?_
    have hS := hS.lit (k := 2) 8 rfl rfl (by decide) hch (hc2 hlh)
    have hS : SH s [_, _, _, _, _, _, _, _, _] _ := hS
    have hK := hS.K
    refine wg_call rfl rfl (op_call rfl rfl rfl rfl) (concatLabels_ok (data := data2 vha ma.channels vhb mb.channels) hK.ok (hS.row 8 rfl) (row2 (hha.keep0 hK) (hhb.keep0 hK)) (by simp [data2]; omega) (by simp [data2])) ?_
    rintro rh z ⟨hk, hrh, hnh, -⟩
    have hS := hS.mov hk
    have hK := hS.K
    refine wg_call rfl rfl (op_call rfl rfl rfl rfl) (clipLabels_ok hrh hnh) ?_
    rintro _ z ⟨rfl, rfl⟩
    have hrf := (hS.get 5 rfl)
    obtain ⟨css6, hr6, hn6, hg6, hl6, hx6⟩ := hrf
    have hlm : ([clipA rg, clipA ra, clipA rh, clipA v6] : List AV).all AV.leaf = true := by simp only [List.all_cons, List.all_nil, hrg.clip.leaf, hra.clip.leaf, hrh.clip.leaf, hr6.clip.leaf]; rfl
    refine wg_val rfl rfl (op_pure rfl) ?_
    refine wg_call rfl rfl (op_call rfl rfl rfl rfl) (clipFuncs_ok hr6 hn6) ?_
    rintro _ z ⟨rfl, rfl⟩
    refine wg_val rfl rfl (op_pure (v := .agg [clipA rg, clipA ra, clipA rh, clipA v6]) (build55 hrg.clip.leaf hra.clip.leaf hrh.clip.leaf hr6.clip.leaf)) ?_
    refine wg_store_all rfl rfl rfl rfl rfl (by rfl) hlm hS.ok (hS.pt 2 rfl) (by simp [AV.gs]) ?_
    rintro z hk
    refine wg_val rfl rfl (op_pure rfl) ?_
    exact wg_nil
  have hS := hS.new3 (cs := [vga, vgb]) (cs2 := [vaa, vab]) (cs3 := [vha, vhb])
  have hS := hS.litD (k := 2) 6 rfl rfl (by decide) hcg (hc2 hlg)
  have hS := hS.litD (k := 2) 7 rfl rfl (by decide) hca (hc2 hla)
  have hS := hS.litD (k := 2) 8 rfl rfl (by decide) hch (hc2 hlh)
  have hct : (((sD.newG ⟨[⟨[vga, vgb], 0, none⟩]⟩).newG ⟨[⟨[vaa, vab], 0, none⟩]⟩).newG ⟨[⟨[vha, vhb], 0, none⟩]⟩).ctr = sD.ctr + 3 := rfl
  generalize ((sD.newG ⟨[⟨[vga, vgb], 0, none⟩]⟩).newG ⟨[⟨[vaa, vab], 0, none⟩]⟩).newG ⟨[⟨[vha, vhb], 0, none⟩]⟩ = zR at *
  have hbz : b0 ≤ zR.ctr := by omega
  have hS : SH s [_, _, _, _, _, _, _, _, _] zR := hS
  have hK := hS.K
  have hR := Keep.refl hK.ok
  have hA : ∀ p ∈ [(4, sD.ctr), (11, sD.ctr + 1), (18, sD.ctr + 2)], p.2 < zR.ctr := by
    intro p hp
    simp only [List.mem_cons, List.not_mem_nil, or_false] at hp
    rcases hp with rfl | rfl | rfl <;> simp only <;> omega
  have hS0 := hS
  have hx0 : ∀ g ∈ [p0], g ∉ [p2] := fun g hg h => hS0.dis 0 2 _ _ (by decide) rfl rfl g hg h
  have hx1 : ∀ g ∈ [p1], g ∉ [p2] := fun g hg h => hS0.dis 1 2 _ _ (by decide) rfl rfl g hg h
  have hq : ∀ p ∈ [(4, sD.ctr), (11, sD.ctr + 1), (18, sD.ctr + 2)], p.2 = p2 → False := by
    intro p hp e
    simp only [List.mem_cons, List.not_mem_nil, or_false] at hp
    rcases hp with rfl | rfl | rfl
    · exact hS0.dis 6 2 _ _ (by decide) rfl rfl sD.ctr (List.mem_singleton.2 rfl) (List.mem_singleton.2 e)
    · exact hS0.dis 7 2 _ _ (by decide) rfl rfl (sD.ctr + 1) (List.mem_singleton.2 rfl) (List.mem_singleton.2 e)
    · exact hS0.dis 8 2 _ _ (by decide) rfl rfl (sD.ctr + 2) (List.mem_singleton.2 rfl) (List.mem_singleton.2 e)
  refine we_val (fun _ => rfl) rfl rfl (op_fldP rfl rfl rfl rfl (by decide)) ?_
  refine we_load hR rfl rfl ((hS0.pt 0 rfl).at (Nat.le_of_ble_eq_true rfl)) rfl hx0 rfl rfl ?_
  refine we_val (fun _ => rfl) rfl rfl (op_fldP rfl rfl rfl rfl (by decide)) ?_
  refine we_load hR rfl rfl ((hS0.pt 1 rfl).at (Nat.le_of_ble_eq_true rfl)) rfl hx1 rfl rfl ?_
  refine we_lit rfl (List.mem_cons_self ..) rfl rfl rfl rfl rfl (by decide) (by decide) (fill2 hga.leaf hgb.leaf) hlg (eqB2 (eqB_slc hga nghga) (eqB_slc hgb nghgb)) ?_
  refine we_call hR hA rfl rfl (fun _ => rfl) (op_call rfl rfl rfl rfl) (concatLabels_ok (data := data2 vga ma.globals vgb mb.globals) hR.ok (hS.row 6 rfl) (row2 (Row.bare (hga.keep0 hK)) (Row.bare (hgb.keep0 hK))) (by simp [data2]; omega) (by simp [data2])) (fun _ _ h => h.1) ?_
  rintro rg sC ⟨-, hrg, hng, hbg⟩ hk
  rw [data2_flat] at hrg
  have hrg : Row (sC.join zR).h 1 rg ((ma.globals ++ mb.globals).map lC) := hrg
  have hbgg : ∀ g ∈ rg.gs, b0 ≤ g := fun g hg => Nat.le_trans (Nat.le_trans hbz hR.ctr) (hbg g hg)
  have hR := hR.two hk
  have hS := hS.add hk (rowC rg 1 ((ma.globals ++ mb.globals).map lC)) ⟨hrg, hng⟩ (fun g hg => ⟨hbg g hg, hrg.lt hk.ok g hg⟩)
  have hK := hS.K
  clear hbg
  generalize sC.join zR = z at *
  have hS : SH s [_, _, _, _, _, _, _, _, _, _] z := hS
  refine we_call hR hA rfl rfl (fun _ => rfl) (op_call rfl rfl rfl rfl) (clipLabels_ok hrg hng) (fun _ _ h => by rw [h.1]; exact Keep.refl hR.ok) ?_
  rintro _ sC ⟨-, rfl⟩ hk
  have hR := hR.two hk
  have hS := hS.mov hk
  have hK := hS.K
  have hrg := hrg.keep0 hk
  generalize sC.join z = z at *
  refine we_val (fun _ => rfl) rfl rfl (op_fldP rfl rfl rfl rfl (by decide)) ?_
  refine we_load hR rfl rfl ((hS0.pt 0 rfl).at (Nat.le_of_ble_eq_true rfl)) rfl hx0 rfl rfl ?_
  refine we_val (fun _ => rfl) rfl rfl (op_fldP rfl rfl rfl rfl (by decide)) ?_
  refine we_load hR rfl rfl ((hS0.pt 1 rfl).at (Nat.le_of_ble_eq_true rfl)) rfl hx1 rfl rfl ?_
  refine we_lit rfl (List.mem_cons_of_mem _ (List.mem_cons_self ..)) rfl rfl rfl rfl rfl (by decide) (by decide) (fill2 haa.leaf hab.leaf) hla (eqB2 (eqB_slc haa nghaa) (eqB_slc hab nghab)) ?_
  refine we_call hR hA rfl rfl (fun _ => rfl) (op_call rfl rfl rfl rfl) (concatArrays_ok (data := data2 vaa ma.arrays vab mb.arrays) hR.ok (hS.row 7 rfl) (row2 (Row.bare (haa.keep0 hK)) (Row.bare (hab.keep0 hK))) (by simp [data2]; omega) (by simp [data2])) (fun _ _ h => h.1) ?_
  rintro ra sC ⟨-, hra, hna, hba⟩ hk
  rw [data2_flat] at hra
  have hra : Row (sC.join z).h 2 ra ((ma.arrays ++ mb.arrays).map aC) := hra
  have hbag : ∀ g ∈ ra.gs, b0 ≤ g := fun g hg => Nat.le_trans (Nat.le_trans hbz hR.ctr) (hba g hg)
  have hR := hR.two hk
  have hS := hS.add hk (rowC ra 2 ((ma.arrays ++ mb.arrays).map aC)) ⟨hra, hna⟩ (fun g hg => ⟨hba g hg, hra.lt hk.ok g hg⟩)
  have hrg := hrg.keep0 hk
  have hK := hS.K
  clear hba
  generalize sC.join z = z at *
  have hS : SH s [_, _, _, _, _, _, _, _, _, _, _] z := hS
  refine we_call hR hA rfl rfl (fun _ => rfl) (op_call rfl rfl rfl rfl) (clipArrays_ok hra hna) (fun _ _ h => by rw [h.1]; exact Keep.refl hR.ok) ?_
  rintro _ sC ⟨-, rfl⟩ hk
  have hR := hR.two hk
  have hS := hS.mov hk
  have hK := hS.K
  have hrg := hrg.keep0 hk
  have hra := hra.keep0 hk
  generalize sC.join z = z at *
  refine we_val (fun _ => rfl) rfl rfl (op_fldP rfl rfl rfl rfl (by decide)) ?_
  refine we_load hR rfl rfl ((hS0.pt 0 rfl).at (Nat.le_of_ble_eq_true rfl)) rfl hx0 rfl rfl ?_
  refine we_val (fun _ => rfl) rfl rfl (op_fldP rfl rfl rfl rfl (by decide)) ?_
  refine we_load hR rfl rfl ((hS0.pt 1 rfl).at (Nat.le_of_ble_eq_true rfl)) rfl hx1 rfl rfl ?_
  refine we_lit rfl (List.mem_cons_of_mem _ (List.mem_cons_of_mem _ (List.mem_cons_self ..))) rfl rfl rfl rfl rfl (by decide) (by decide) (fill2 hha.leaf hhb.leaf) hlh (eqB2 (eqB_slc hha nghha) (eqB_slc hhb nghhb)) ?_
  refine we_call hR hA rfl rfl (fun _ => rfl) (op_call rfl rfl rfl rfl) (concatLabels_ok (data := data2 vha ma.channels vhb mb.channels) hR.ok (hS.row 8 rfl) (row2 (Row.bare (hha.keep0 hK)) (Row.bare (hhb.keep0 hK))) (by simp [data2]; omega) (by simp [data2])) (fun _ _ h => h.1) ?_
  rintro rh sC ⟨-, hrh, hnh, hbh⟩ hk
  rw [data2_flat] at hrh
  have hrh : Row (sC.join z).h 1 rh ((ma.channels ++ mb.channels).map lC) := hrh
  have hbhg : ∀ g ∈ rh.gs, b0 ≤ g := fun g hg => Nat.le_trans (Nat.le_trans hbz hR.ctr) (hbh g hg)
  have hR := hR.two hk
  have hS := hS.add hk (rowC rh 1 ((ma.channels ++ mb.channels).map lC)) ⟨hrh, hnh⟩ (fun g hg => ⟨hbh g hg, hrh.lt hk.ok g hg⟩)
  have hrg := hrg.keep0 hk
  have hra := hra.keep0 hk
  have hK := hS.K
  clear hbh
  generalize sC.join z = z at *
  have hS : SH s [_, _, _, _, _, _, _, _, _, _, _, _] z := hS
  refine we_call hR hA rfl rfl (fun _ => rfl) (op_call rfl rfl rfl rfl) (clipLabels_ok hrh hnh) (fun _ _ h => by rw [h.1]; exact Keep.refl hR.ok) ?_
  rintro _ sC ⟨-, rfl⟩ hk
  have hR := hR.two hk
  have hS := hS.mov hk
  have hK := hS.K
  have hrg := hrg.keep0 hk
  have hra := hra.keep0 hk
  have hrh := hrh.keep0 hk
  generalize sC.join z = z at *
  obtain ⟨css6, hr6, hn6, hg6, hl6, hx6⟩ := hS.get 5 rfl
  have hlm : ([clipA rg, clipA ra, clipA rh, clipA v6] : List AV).all AV.leaf = true := by simp only [List.all_cons, List.all_nil, hrg.clip.leaf, hra.clip.leaf, hrh.clip.leaf, hr6.clip.leaf]; rfl
  refine we_val (fun _ => rfl) rfl rfl (op_pure rfl) ?_
  refine we_call hR hA rfl rfl (fun _ => rfl) (op_call rfl rfl rfl rfl) (clipFuncs_ok hr6 hn6) (fun _ _ h => by rw [h.1]; exact Keep.refl hR.ok) ?_
  rintro _ sC ⟨-, rfl⟩ hk
  have hR := hR.two hk
  have hS := hS.mov hk
  have hK := hS.K
  generalize sC.join z = z at *
  refine we_val (fun _ => rfl) rfl rfl (op_pure (build55 hrg.clip.leaf hra.clip.leaf hrh.clip.leaf hr6.clip.leaf)) ?_
  refine we_store_all (List.mem_cons_self ..) hS.ok (fun p hp e => (hq p hp e).elim) rfl rfl rfl rfl rfl (by rfl) hlm (hS.pt 2 rfl) ?_
  rintro z hp hk hc
  have hp : Pt z.h (.ptr p2 0 0) [clipA rg, clipA ra, clipA rh, clipA v6] := hp
  have hS := hS.upd 2 rfl hk (fun g hg => hg) (ptC (.ptr p2 0 0) [clipA rg, clipA ra, clipA rh, clipA v6]) hp (fun g hg => .inl hg)
  have hS : SH s [_, _, _, _, _, _, _, _, _, _, _, _] z := hS
  have hK := hS.K
  refine we_val (fun _ => rfl) rfl rfl (op_pure rfl) ?_
  refine we_nil ?_
  refine then_n ?_
  refine wc_ret ?_
  repeat first | refine then_r ?_ | refine out_r ?_ | refine round_r ?_ | refine cut_r ?_ | refine sc_r ?_
  obtain ⟨css6, hr6, hn6, hg6, hl6, hx6⟩ := hS.get 5 rfl
  have dg : Dis rg v6 := fun g hg h => hS.dis 9 5 _ _ (by decide) rfl rfl g hg (hg6 g h)
  have da : Dis ra v6 := fun g hg h => hS.dis 10 5 _ _ (by decide) rfl rfl g hg (hg6 g h)
  have dh : Dis rh v6 := fun g hg h => hS.dis 11 5 _ _ (by decide) rfl rfl g hg (hg6 g h)
  have dga : Dis rg ra := fun g hg h => hS.dis 9 10 _ _ (by decide) rfl rfl g hg h
  have dgh : Dis rg rh := fun g hg h => hS.dis 9 11 _ _ (by decide) rfl rfl g hg h
  have dah : Dis ra rh := fun g hg h => hS.dis 10 11 _ _ (by decide) rfl rfl g hg h
  have hgr := (hS.row 9 rfl).clip
  have har := (hS.row 10 rfl).clip
  have hhr := (hS.row 11 rfl).clip
  have hlo : ∀ {w : AV}, (∀ g ∈ w.gs, b0 ≤ g) → ∀ g ∈ (clipA w).gs, b0 ≤ g := fun h g hg => h g (by rwa [clipA_gs] at hg)
  have hnl : ∀ {w : AV}, (w.gs = [] → w = .nils) → (clipA w).gs = [] → clipA w = .nils := fun h e => by rw [clipA_gs] at e; rw [h e]; rfl
  have hmm : linkM ma mb = ⟨ma.globals ++ mb.globals, ma.arrays ++ mb.arrays, ma.channels ++ mb.channels, ma.funcs ++ mb.funcs.map (turnF ma)⟩ := if_pos hE
  obtain ⟨fs, hM, hfs⟩ := modO_of (mm := linkM ma mb) (a := a0) (b := b0) (by rw [hmm]; exact hgr) (by rw [hmm]; exact har) (by rw [hmm]; exact hhr) (hr6.clip) hl6
    (fun i q c k1 k2 => good_q.mono (hx6 i q c k1 k2) fun g k => ⟨by rw [ha0]; exact k.1.1, by rw [hb0]; exact k.1.2, by rw [clipA_gs]; exact k.2⟩) hap6 (by rw [hmm, List.map_append, hqa, hqb]; exact congrArg (· ++ mb.funcs.map (turnF ma)) (map_same turnC_id))
    (dis_clip2 dg) (dis_clip2 da) (dis_clip2 dh) (dis_clip2 dga) (dis_clip2 dgh) (dis_clip2 dah) (hlo hbgg) (hlo hbag) (hlo hbhg)
    (hnl (hS.nls 9 rfl)) (hnl (hS.nls 10 rfl)) (hnl (hS.nls 11 rfl)) (hnl hn6)
  refine ⟨_, res_cell2 rfl rfl rfl (hS.pt 2 rfl) rfl, hK, ⟨clipA rg, clipA ra, clipA rh, clipA v6, fs⟩, congrArg (fun e => AV.tup [AV.agg [clipA rg, clipA ra, clipA rh, clipA v6], .int .i64 e]) hE.symm, hM, fun v hv g hg => ?_⟩
  have h5 := hS.bd 5 rfl
  have hb9 : ∀ g ∈ rg.gs, s.ctr ≤ g ∧ _ := hS.bd 9 rfl
  have hb10 : ∀ g ∈ ra.gs, s.ctr ≤ g ∧ _ := hS.bd 10 rfl
  have hb11 : ∀ g ∈ rh.gs, s.ctr ≤ g ∧ _ := hS.bd 11 rfl
  simp only [MemM.all, MemM.labs, MemM.cods, List.cons_append, List.mem_cons, List.mem_append, List.mem_flatMap, List.mem_map, List.not_mem_nil, or_false] at hv
  rcases hv with rfl | rfl | rfl | rfl | ⟨q, hq, rfl | rfl⟩ | ⟨q, hq, rfl⟩
  · rw [clipA_gs] at hg; exact (hb10 g hg).1
  · rw [clipA_gs] at hg; exact (h5 g (hg6 g hg)).1
  · rw [clipA_gs] at hg; exact (hb9 g hg).1
  · rw [clipA_gs] at hg; exact (hb11 g hg).1
  · exact Nat.le_trans ha5 (hfs q hq _ (List.mem_cons_self ..) g hg).1
  · exact Nat.le_trans ha5 (hfs q hq _ (List.mem_cons_of_mem _ (List.mem_cons_self ..)) g hg).1
  · exact Nat.le_trans ha5 (hfs q hq _ (List.mem_cons_of_mem _ (List.mem_cons_of_mem _ (List.mem_cons_self ..))) g hg).1
end Go.Ab
/- Appending, with what it leaves of the rows of the same group; several rows that are apart. -/
namespace Go.Ab
/-- What appending leaves. -/
structure AppK (a v : AV) (s s' : St) (k : Nat) : Prop where
  fin : v.gs = a.gs → a.gs ≠ [] → finA s'.h v = finA s.h a + k
  rows : ∀ {sz' : Nat} {r : AV} {rs : List (List AV)}, Row s.h sz' r rs → (∀ g ∈ r.gs, g ∈ a.gs → finA s.h r ≤ finA s.h a) → Row s'.h sz' r rs ∧ finA s'.h r = finA s.h r
section
variable {P : Program} {T : Tab} {K : FuncId → Option Bool} {nt : Nat} {ops : Array Oper} {rest : List Oper} {m : Sy} {s s0 : St} {Q : Sy → St → Prop} {d ty : Nat} {pos : String} {af : Array Edge} {g : Option (Nat × Bool)} {L : List Chunk}
theorem w_appendK {tt e : TypeId} {x y : Operand} {args : Array Operand} {tys : Array TypeId} {i ie : TI} {a b : AV} {cs ns : List (List AV)} {sz : Nat} (hg : guardY ops m g = some true) (hd : Nat.ble (d + 1) nt = true) (h1 : args.toList = [x, y]) (h2 : tys.toList = [tt, tt])
    (hx : evY m x = some a) (hy : evY m y = some b) (hT : T tt = some i) (hs : i.sh = .slice e) (he : T e = some ie) (hsz : ie.size = sz) (h0 : sz ≠ 0) (hok : s.Ok) (ha : Row s.h sz a cs) (hro : a.gs = [] → a = .nils) (hb : Row s.h sz b ns)
    (hb1 : (cs.length + ns.length) * ie.bytes ≤ maxBytes) (hb2 : cs.length + ns.length ≤ maxBytes)
    (k : ∀ v s', Row s'.h sz v (cs ++ ns) → Keep a.gs s s' → s'.ctr ≤ s.ctr + 1 → (v.gs = a.gs ∨ v.gs = [s.ctr]) → (v.gs = [] → v = .nils) → (ns ≠ [] → v.gs ≠ []) → AppK a v s s' (ns.length * sz) → W P T K nt ops rest ((d, v) :: m) s' Q) :
    W P T K nt ops (⟨some d, .call ⟨.builtin .append, args, tys⟩, ty, pos, af, g⟩ :: rest) m s Q := by
  subst hsz
  obtain ⟨sh, size, bytes, zero, flat⟩ := i
  cases hs
  obtain ⟨v, s', e1, e2, e3, e4, e5, e6, e7⟩ := app_row hok h0 ha hro hb.cells hb1 hb2
  have hnl : ns.flatten.length = ns.length * ie.size := flat_len fun c hc => (hb.cells c hc).1
  obtain ⟨k1, k2⟩ := app_keep hok ha hro e1 hnl
  refine w_val hg hd (v := v) (s' := s') (fun t ht => ?_) (k v s' e2 e3 e4 e5 e6 e7 ⟨k1, fun h1 h2 => k2 h1 h2⟩)
  have hev : evsY m [x, y] = some [a, b] := by simp only [evsY, hx, hy]
  simp only [evOp, h1, h2, evsY_ok ht hev, callA, ne_eq, not_true_eq_false, if_false, hT, he, hb.slen, hb.elems, e1]
end
/-- Rows by number; of each, what G says. -/
def RowsI {α : Type} (h : Tr Grp) (sz : Nat) (f : α → List AV) (data : List (AV × List α)) (G : Nat → List α → Prop) : Prop :=
  ∀ (q : Nat) (p : AV × List α), data[q]? = some p → ∃ xs : List α, xs.length = p.2.length ∧ Row h sz p.1 (xs.map f) ∧ G q xs
section
variable {α : Type} {sz : Nat} {f : α → List AV} {data : List (AV × List α)} {G G' : Nat → List α → Prop} {s s' : St}
theorem pw_get {β : Type} {R : β → β → Prop} {l : List β} (h : l.Pairwise R) (hs : ∀ {a b}, R a b → R b a) {i j : Nat} {x y : β} (hx : l[i]? = some x) (hy : l[j]? = some y) (hij : i ≠ j) : R x y := by
  obtain ⟨h1, rfl⟩ := List.getElem?_eq_some_iff.1 hx
  obtain ⟨h2, rfl⟩ := List.getElem?_eq_some_iff.1 hy
  rw [List.pairwise_iff_getElem] at h
  rcases Nat.lt_or_gt_of_ne hij with k | k
  · exact h i j h1 h2 k
  · exact hs (h j i h2 h1 k)
theorem RowsI.upd (k : RowsI s.h sz f data G) (hd : (data.map (·.1)).Pairwise Dis) {i : Nat} {p : AV × List α} (hi : data[i]? = some p) (hk : Keep p.1.gs s s') {xs : List α} (hr : Row s'.h sz p.1 (xs.map f)) (hl : xs.length = p.2.length) (hG : G' i xs) (hG' : ∀ q xs, q ≠ i → G q xs → G' q xs) : RowsI s'.h sz f data G' := by
  intro q p' hq
  by_cases e : q = i
  · subst e
    rw [hi] at hq
    cases hq
    exact ⟨xs, hl, hr, hG⟩
  · obtain ⟨ys, h1, h2, h3⟩ := k q p' hq
    have hdis : Dis p'.1 p.1 := pw_get hd (fun h => h.symm) (i := q) (j := i) (by rw [List.getElem?_map, hq]; rfl) (by rw [List.getElem?_map, hi]; rfl) e
    exact ⟨ys, h1, h2.keep hk hdis, hG' q ys e h3⟩
theorem RowsI.keep (k : RowsI s.h sz f data G) {Y : List Nat} (hk : Keep Y s s') (hY : ∀ p ∈ data, ∀ g ∈ p.1.gs, g ∉ Y) : RowsI s'.h sz f data G := by
  intro q p hq
  obtain ⟨ys, h1, h2, h3⟩ := k q p hq
  exact ⟨ys, h1, h2.keep hk (hY p (List.mem_of_getElem? hq)), h3⟩
theorem RowsI.mono (k : RowsI s.h sz f data G) (h : ∀ q p xs, data[q]? = some p → xs.length = p.2.length → G q xs → G' q xs) : RowsI s.h sz f data G' := by
  intro q p hq
  obtain ⟨ys, h1, h2, h3⟩ := k q p hq
  exact ⟨ys, h1, h2, h q p ys hq h1 h3⟩
def fullM (mk : Nat → Nat → α) (i n : Nat) : List α := (List.range n).map (mk i)
theorem fullM_get (mk : Nat → Nat → α) {i n q : Nat} (h : q < n) : (fullM mk i n)[q]? = some (mk i q) := by
  simp [fullM, h]
theorem fullM_len (mk : Nat → Nat → α) (i n : Nat) : (fullM mk i n).length = n := by simp [fullM]
/-- So many marks are written. -/
def MarkG (mk : Nat → Nat → α) (i k : Nat) (q : Nat) (xs : List α) : Prop := (q < i → xs = fullM mk q xs.length) ∧ (q = i → xs.take k = fullM mk i (min k xs.length))
theorem MarkG.zero (mk : Nat → Nat → α) (q : Nat) (xs : List α) : MarkG mk 0 0 q xs := ⟨fun h => by omega, fun _ => by simp [fullM]⟩
theorem MarkG.next {mk : Nat → Nat → α} {i k q : Nat} {xs : List α} (h : MarkG mk i k q xs) (hk : q = i → xs.length ≤ k) : MarkG mk (i + 1) 0 q xs := by
  refine ⟨fun hq => ?_, fun _ => by simp [fullM]⟩
  by_cases e : q = i
  · have := h.2 e
    have h3 := hk e
    rw [List.take_of_length_le h3, Nat.min_eq_right h3] at this
    rw [e]; exact this
  · exact h.1 (by omega)
theorem MarkG.step {mk : Nat → Nat → α} {i k : Nat} {xs : List α} (h : MarkG mk i k i xs) (hk : k < xs.length) : MarkG mk i (k + 1) i (xs.set k (mk i k)) := by
  refine ⟨fun h => by omega, fun _ => ?_⟩
  have := h.2 rfl
  rw [Nat.min_eq_left (Nat.le_of_lt hk)] at this
  rw [List.length_set, Nat.min_eq_left (by omega)]
  have e1 : (xs.set k (mk i k)).take (k + 1) = xs.take k ++ [mk i k] := by
    rw [List.set_eq_take_append_cons_drop, if_pos hk, List.take_append]
    simp [Nat.min_eq_left (Nat.le_of_lt hk)]
    exact List.take_of_length_le (by simp; omega)
  rw [e1, this]
  simp [fullM, List.range_succ]
theorem MarkG.other {mk : Nat → Nat → α} {i k k' q : Nat} {xs : List α} (hq : q ≠ i) (h : MarkG mk i k q xs) : MarkG mk i k' q xs := ⟨h.1, fun e => (hq e).elim⟩
/-- All rows are written full. -/
def FullG (mk : Nat → Nat → α) (q : Nat) (xs : List α) : Prop := xs = fullM mk q xs.length
end
end Go.Ab
/- Rows that were handed out, written full and gone on with. -/
namespace Go.Ab
section
variable {α : Type} {s : St} {sz : Nat} {f : α → List AV} {data : List (AV × List α)} {mk tl : Nat → Nat → α} {i cut : Nat} {ms : List AV} {F : AV} {z z' : St} {p : AV × List α}
structure Ap2 (s : St) (sz : Nat) (f : α → List AV) (data : List (AV × List α)) (mk tl : Nat → Nat → α) (i cut : Nat) (ms : List AV) (F : AV) (z : St) : Prop where
  K : Keep (data.flatMap (·.1.gs)) s z
  old : RowsI z.h sz f data (FullG mk)
  len : ms.length = i
  new : ∀ (j : Nat) (w : AV) (p : AV × List α), ms[j]? = some w → data[j]? = some p → Row z.h sz w ((fullM mk j p.2.length ++ fullM tl j 30).map f) ∧ ∀ g ∈ w.gs, g ∈ p.1.gs ∨ (s.ctr ≤ g ∧ g < cut)
  rF : Row z.h 1 F (ms.map fun w => [w])
  Fb : ∀ g ∈ F.gs, s.ctr ≤ g ∧ g < cut
  Fn : F.gs = [] → F = .nils
  dis : ∀ (j : Nat) (w : AV), ms[j]? = some w → Dis w F
  cutb : s.ctr ≤ cut ∧ cut ≤ z.ctr
theorem Ap2.grow (k : Ap2 s sz f data mk tl i cut ms F z) (hd : (data.map (·.1)).Pairwise Dis) (hb : ∀ p ∈ data, ∀ g ∈ p.1.gs, g < s.ctr) (hp : data[i]? = some p) {Y : List Nat} (hk : Keep Y z z') (hY : ∀ g ∈ Y, g ∈ p.1.gs ∨ cut ≤ g) (hrow : ∀ xs : List α, Row z.h sz p.1 (xs.map f) → Row z'.h sz p.1 (xs.map f)) : Ap2 s sz f data mk tl i cut ms F z' := by
  have hpm := List.mem_of_getElem? hp
  have hdis : ∀ (q : Nat) (p' : AV × List α), q ≠ i → data[q]? = some p' → Dis p'.1 p.1 := fun q p' e hq => pw_get hd (fun h => h.symm) (i := q) (j := i) (by rw [List.getElem?_map, hq]; rfl) (by rw [List.getElem?_map, hp]; rfl) e
  have hcut := k.cutb
  refine ⟨k.K.trans hk fun g hg => ?_, fun q p' hq => ?_, k.len, fun j w p' h1 h2 => ?_, k.rF.keep hk fun g hg hy => ?_, k.Fb, k.Fn, k.dis, ⟨hcut.1, Nat.le_trans hcut.2 hk.ctr⟩⟩
  · rcases hY g hg with h | h
    · exact .inl (List.mem_flatMap.2 ⟨p, hpm, h⟩)
    · exact .inr (Nat.le_trans hcut.1 h)
  · obtain ⟨ys, h1, h2, h3⟩ := k.old q p' hq
    by_cases e : q = i
    · subst e
      rw [hp] at hq
      cases hq
      exact ⟨ys, h1, hrow _ h2, h3⟩
    · refine ⟨ys, h1, h2.keep hk fun g hg hy => ?_, h3⟩
      rcases hY g hy with h | h
      · exact hdis q p' e hq g hg h
      · have := hb p' (List.mem_of_getElem? hq) g hg; omega
  · obtain ⟨k1, k2⟩ := k.new j w p' h1 h2
    have hj : j ≠ i := by
      have := (List.getElem?_eq_some_iff.1 h1).1
      rw [k.len] at this; omega
    refine ⟨k1.keep hk fun g hg hy => ?_, k2⟩
    rcases k2 g hg with h | h <;> rcases hY g hy with h' | h'
    · exact hdis j p' hj h2 g h h'
    · have := hb p' (List.mem_of_getElem? h2) g h; omega
    · have := hb p hpm g h'; omega
    · omega
  · have := k.Fb g hg
    rcases hY g hy with h | h
    · have := hb p hpm g h; omega
    · omega
theorem Ap2.push (k : Ap2 s sz f data mk tl i cut ms F z) (hb : ∀ p ∈ data, ∀ g ∈ p.1.gs, g < s.ctr) (hp : data[i]? = some p) {l F' : AV} (hl : Row z.h sz l ((fullM mk i p.2.length ++ fullM tl i 30).map f)) (hlb : ∀ g ∈ l.gs, g ∈ p.1.gs ∨ cut ≤ g)
    (hF : Row z'.h 1 F' (ms.map (fun w => [w]) ++ [[l]])) (hk : Keep F.gs z z') (hFg : F'.gs = F.gs ∨ F'.gs = [z.ctr]) (hFn : F'.gs = [] → F' = .nils) : Ap2 s sz f data mk tl (i + 1) z'.ctr (ms ++ [l]) F' z' := by
  have hpm := List.mem_of_getElem? hp
  have hcut := k.cutb
  have hct := hk.ctr
  have hz := k.K.ctr
  have hlF : Dis l F := fun g hg hf => by
    have := k.Fb g hf
    rcases hlb g hg with h | h
    · have := hb p hpm g h; omega
    · omega
  have hlz := hl.lt hk.ok0
  have hFb : ∀ g ∈ F'.gs, s.ctr ≤ g ∧ g < z'.ctr := fun g hg => by
    refine ⟨?_, hF.lt hk.ok g hg⟩
    rcases hFg with h | h
    · rw [h] at hg; exact (k.Fb g hg).1
    · rw [h] at hg; rw [List.mem_singleton.1 hg]; exact hz
  have hsub : ∀ w : AV, Dis w F → (∀ g ∈ w.gs, g < z.ctr) → Dis w F' := fun w h h' g hg hg' => by
    rcases hFg with e | e
    · rw [e] at hg'; exact h g hg hg'
    · rw [e] at hg'; have := h' g hg; rw [List.mem_singleton.1 hg'] at this; omega
  have key : ∀ (j : Nat) (w : AV), (ms ++ [l])[j]? = some w → (j < i ∧ ms[j]? = some w) ∨ (j = i ∧ w = l) := by
    intro j w hj
    by_cases hlt : j < ms.length
    · rw [List.getElem?_append_left hlt] at hj; exact .inl ⟨by rw [← k.len]; exact hlt, hj⟩
    · have h1 := (List.getElem?_eq_some_iff.1 hj).1
      rw [List.length_append, List.length_singleton] at h1
      have e : j = ms.length := by omega
      subst e
      rw [List.getElem?_append_right (Nat.le_refl _), Nat.sub_self] at hj
      simp at hj
      exact .inr ⟨k.len, hj.symm⟩
  refine ⟨k.K.trans hk fun g hg => .inr (k.Fb g hg).1, ?_, by simp [k.len], fun j w p' h1 h2 => ?_, by rw [List.map_append]; exact hF, hFb, hFn, fun j w h1 => ?_, ⟨by omega, Nat.le_refl _⟩⟩
  · exact k.old.keep hk fun p' hp' g hg hf => by have := hb p' hp' g hg; have := k.Fb g hf; omega
  · rcases key j w h1 with ⟨-, h⟩ | ⟨rfl, rfl⟩
    · obtain ⟨k1, k2⟩ := k.new j w p' h h2
      exact ⟨k1.keep hk (k.dis j w h), fun g hg => (k2 g hg).imp id fun h => ⟨h.1, by omega⟩⟩
    · rw [hp] at h2
      cases h2
      exact ⟨hl.keep hk hlF, fun g hg => (hlb g hg).imp id fun h => ⟨by omega, by have := hlz g hg; omega⟩⟩
  · rcases key j w h1 with ⟨hj, h⟩ | ⟨rfl, rfl⟩
    · refine hsub w (k.dis j w h) fun g hg => ?_
      have hjd : j < data.length := Nat.lt_trans hj (List.getElem?_eq_some_iff.1 hp).1
      exact ((k.new j w _ h (List.getElem?_eq_getElem hjd)).1.lt hk.ok0 g hg)
    · exact hsub _ hlF hlz
end
section
variable {T : Tab} {nt : Nat} {m : Sy} {s : St}
theorem op_mul {xt yt : TypeId} {x y : Operand} {a b : Int} (hx : evY m x = some (.int .i64 a)) (hy : evY m y = some (.int .i64 b)) (h : In64 (a * b)) :
    ∀ t, Has t nt m → evOp T (.binOp .mul xt x y yt) t s = some (.val (.int .i64 (a * b)), s) :=
  op_int hx hy (by decide) (by unfold intA; rw [wrap64 h])
end
end Go.Ab
