/- Statements that are lent. -/
import Derived.Test.YtdpdlmjlahehoaaD3
namespace Go.Ab
open Go.Proofs
def TermsLF : RP (List TermL) := fun h F ts c => ∃ v, c = [v] ∧ LentF h F 3 tC [.int .i64 (-71), .int .i64 0, .str ByteArray.empty] v ts
theorem good_terms : Good TermsLF where
  keep := fun ⟨v, e, k⟩ h hY => ⟨v, e, k.keep h hY⟩
  mono := fun ⟨v, e, k⟩ h => ⟨v, e, k.mono h⟩
def StmtLF : RP StmtL := fun h F x c => ∃ vt ve, c = [.int .i64 x.kind, .str x.name, vt, ve] ∧ LentF h F 1 sC [.str markB] vt x.targets ∧ LentRF h F 1 TermsLF [.nils] ve x.exprs
theorem good_stmt : Good StmtLF where
  keep := fun ⟨vt, ve, e, k, l⟩ h hY => ⟨vt, ve, e, k.keep h hY, l.keep good_terms h hY⟩
  mono := fun ⟨vt, ve, e, k, l⟩ h => ⟨vt, ve, e, k.mono h, l.mono good_terms h⟩
theorem StmtLF.to {h : Tr Grp} {F : Nat → Prop} (x : StmtL) (c : List AV) (k : StmtLF h F x c) : StmtLR h x c := by
  obtain ⟨vt, ve, e, k, l⟩ := k
  exact ⟨vt, ve, e, k.1, l.to fun ts c ⟨v, e, hv⟩ => ⟨v, e, hv.1⟩⟩
theorem Bld.gs {α : Type} {R : RP α} {c0 hi : Nat} {s : St} {sz : Nat} {f : AV} {xs : List α} (k : Bld c0 hi s sz R f xs) : ∀ g ∈ f.gs, c0 ≤ g ∧ g < hi := by
  obtain ⟨css, hr, hn, hf, hl, hx⟩ := k
  exact hf
theorem AV.cells_leaf {v : AV} (h : v.leaf = true) : v.cells = [v] := by cases v <;> first | rfl | cases h
theorem fill1 {w z : AV} (h : w.leaf = true) : fillA (fun n => some (n * 1, 1)) [z] [(0, w)] = some [w] := by
  simp [fillA, AV.cells_leaf h, over]
set_option maxRecDepth 10000 in
theorem lentStmts_ok {s : St} {v : AV} {xs : List StmtL} (hok : s.Ok) (hl : xs.length ≤ 2097152) (hll : ∀ x ∈ xs, x.small) (hv : RowR s.h 4 StmtR v xs) :
    CallS Try.prog Tt 11 [v] s (fun r s' => Keep [] s s' ∧ LentRF s'.h (Fr s.ctr s'.ctr []) 4 StmtLF [.int .i64 (-71), .str ByteArray.empty, .nils, .nils] r xs) := by
  obtain ⟨csv, hrv, hlv, hV⟩ := hv
  refine call_of (fn := Try.f11) (nt := 70) Try.func11 rfl rfl ?_
  repeat refine wc_seq ?_
  refine wc_region ?_
  refine w_val rfl rfl (op_pure rfl) ?_
  refine w_nil ?_
  refine then_n ?_
  repeat refine wc_seq ?_
  refine wc_region ?_
  refine w_val rfl rfl (op_pure rfl) ?_
  refine w_nil ?_
  refine then_n ?_
  repeat refine wc_seq ?_
  have hK := Keep.refl hok
  have hsv : v.slen = some xs.length := hrv.slen.trans (congrArg some hlv)
  refine wc_region ?_
  refine w_val rfl rfl (op_pure rfl) ?_
  refine w_nil ?_
  refine then_n ?_
  repeat refine wc_seq ?_
  refine wc_block ?_
  refine wc_loop_at (fun j m s1 => ∃ (i : Nat) (f : AV), j = xs.length - i ∧ i ≤ xs.length ∧ m = [(0, v), (3, f), (4, .int .i64 (i : Nat))] ∧ Keep [] s s1 ∧ Bld s.ctr s1.ctr s1 4 StmtLF f (xs.take i)) xs.length
    [(0, v), (3, .nils), (4, .int .i64 ((0 : Nat) : Int))] (Sub.cons rfl (Sub.cons rfl (Sub.cons rfl (Sub.nil _)))) ⟨0, .nils, by simp, by simp, rfl, hK, Bld.nil⟩ ?_
  clear hK
  rintro j m s1 ⟨i, f, rfl, hi, rfl, hK, hB⟩
  have hc1 := hK.ctr
  repeat refine wc_seq ?_
  refine wc_region ?_
  refine w_val rfl rfl (op_pure rfl) ?_
  refine w_val rfl rfl (op_pure rfl) ?_
  refine w_val rfl rfl (op_len rfl rfl rfl rfl rfl (by first | assumption | exact Row.slenF (by assumption) | exact Row.slen (by assumption) | rfl)) ?_
  refine w_val rfl rfl (op_pure rfl) ?_
  refine w_nil ?_
  refine then_n ?_
  repeat refine wc_seq ?_
  refine wc_condT rfl (fun h12 => ?_) (fun h12 => ?_)
  · simp at h12
    refine wc_skip ?_
    refine then_n ?_
    repeat refine wc_seq ?_
    refine wc_block ?_
    repeat refine wc_seq ?_
    obtain ⟨x, hx⟩ : ∃ x, xs[i]? = some x := ⟨_, List.getElem?_eq_getElem h12⟩
    obtain ⟨ca, hca⟩ : ∃ c, csv[i]? = some c := ⟨_, List.getElem?_eq_getElem (by omega)⟩
    obtain ⟨vt, ve, rfl, hvt, hve0⟩ := hV i x ca hx hca
    obtain ⟨csE, hrE, hlE, hE⟩ := hve0
    have hsE : ve.slen = some x.exprs.length := hrE.slen.trans (congrArg some hlE)
    have hz : ([.int .i64 x.kind, .str x.name, vt, ve] : List AV).all AV.leaf = true := by
      simp only [List.all_cons, List.all_nil, hvt.leaf, hrE.leaf]; rfl
    obtain ⟨hx1, hx2, hx3⟩ := hll x (List.mem_of_getElem? hx)
    refine wc_region ?_
    refine w_val rfl rfl (op_pure rfl) ?_
    refine w_val rfl rfl (op_pure rfl) ?_
    first | refine w_val rfl rfl (op_idxF rfl rfl (by first | exact natA_cast _ _ | exact natA_succ _ _ | exact natA_toNat (by omega) | rfl) rfl rfl rfl rfl (by first | assumption | exact Row.keep0 (by assumption) hK) (by first | omega | (simp; done) | (simp; omega))) ?_ | refine w_val rfl rfl (op_idx rfl rfl (by first | exact natA_cast _ _ | exact natA_succ _ _ | exact natA_toNat (by omega) | rfl) rfl rfl rfl rfl (by first | assumption | exact Row.keep0 (by assumption) hK) (by first | omega | (simp; done) | (simp; omega))) ?_
    refine w_val rfl rfl (op_load rfl rfl (by first | exact Row.mk_pt (by assumption) (by assumption) | exact Pt.fld (Row.mk_pt (by assumption) (by assumption)) _ (Nat.le_of_ble_eq_true rfl) | exact Row.pt (by assumption) (by assumption) | exact Pt.fld (Row.pt (by assumption) (by assumption)) _ (Nat.le_of_ble_eq_true rfl) | assumption | exact Pt.fld (by assumption) _ (Nat.le_of_ble_eq_true rfl) | exact Row.pt (Row.keep0 (by assumption) hK) (by assumption) | exact Pt.fld (Row.pt (Row.keep0 (by assumption) hK) (by assumption)) _ (Nat.le_of_ble_eq_true rfl) | exact Row.mk_pt (Row.keep0 (by assumption) hK) (by assumption) | exact Pt.fld (Row.mk_pt (Row.keep0 (by assumption) hK) (by assumption)) _ (Nat.le_of_ble_eq_true rfl)) rfl) ?_
    refine w_alloc rfl rfl rfl rfl hK.ok ?_
    intro s2 hp hk2 hc2
    have hK := hK.two hk2
    have hB := hB.keep good_stmt hk2 (fun g hg => by cases hg)
    refine w_store_all rfl rfl rfl rfl rfl (by rfl) hz hK.ok hp (by simp [AV.gs]) ?_
    intro s3 hp' hk3 hc3
    have hp : Pt s3.h (.ptr s1.ctr 0 0) [.int .i64 x.kind, .str x.name, vt, ve] := hp'
    have hPs : ∀ g ∈ (AV.ptr s1.ctr 0 0).gs, Tr.get s.h g = none := fun g hg => hok g (by rw [List.mem_singleton.1 hg]; exact hc1)
    have hK := hK.fresh hk3 hPs
    have hB := hB.keep good_stmt hk3 (fun g hg => by rw [List.mem_singleton.1 hg]; exact Nat.le_refl _)
    refine w_nil ?_
    refine then_n ?_
    repeat refine wc_seq ?_
    refine wc_region ?_
    refine w_val rfl rfl (op_fld rfl rfl rfl rfl (by decide) (by first | exact Row.mk_pt (by assumption) (by assumption) | exact Pt.fld (Row.mk_pt (by assumption) (by assumption)) _ (Nat.le_of_ble_eq_true rfl) | exact Row.pt (by assumption) (by assumption) | exact Pt.fld (Row.pt (by assumption) (by assumption)) _ (Nat.le_of_ble_eq_true rfl) | assumption | exact Pt.fld (by assumption) _ (Nat.le_of_ble_eq_true rfl) | exact Row.pt (Row.keep0 (by assumption) hK) (by assumption) | exact Pt.fld (Row.pt (Row.keep0 (by assumption) hK) (by assumption)) _ (Nat.le_of_ble_eq_true rfl) | exact Row.mk_pt (Row.keep0 (by assumption) hK) (by assumption) | exact Pt.fld (Row.mk_pt (Row.keep0 (by assumption) hK) (by assumption)) _ (Nat.le_of_ble_eq_true rfl)) (Nat.le_of_ble_eq_true rfl)) ?_
    refine w_val rfl rfl (op_load rfl rfl (by first | exact Row.mk_pt (by assumption) (by assumption) | exact Pt.fld (Row.mk_pt (by assumption) (by assumption)) _ (Nat.le_of_ble_eq_true rfl) | exact Row.pt (by assumption) (by assumption) | exact Pt.fld (Row.pt (by assumption) (by assumption)) _ (Nat.le_of_ble_eq_true rfl) | assumption | exact Pt.fld (by assumption) _ (Nat.le_of_ble_eq_true rfl) | exact Row.pt (Row.keep0 (by assumption) hK) (by assumption) | exact Pt.fld (Row.pt (Row.keep0 (by assumption) hK) (by assumption)) _ (Nat.le_of_ble_eq_true rfl) | exact Row.mk_pt (Row.keep0 (by assumption) hK) (by assumption) | exact Pt.fld (Row.mk_pt (Row.keep0 (by assumption) hK) (by assumption)) _ (Nat.le_of_ble_eq_true rfl)) rfl) ?_
    refine w_call rfl rfl (op_call rfl rfl rfl rfl) (lentStrings_ok hK.ok hx1 (hvt.keep0 hK)) ?_
    rintro vt' s4 ⟨hk4, hvt'⟩
    have hK := hK.two hk4
    have hc4 := hk4.ctr
    have hp := hp.keep hk4 (fun _ _ h => by cases h)
    have hB := hB.keep good_stmt hk4 (fun g hg => by cases hg)
    refine w_val rfl rfl (op_fld rfl rfl rfl rfl (by decide) (by first | exact Row.mk_pt (by assumption) (by assumption) | exact Pt.fld (Row.mk_pt (by assumption) (by assumption)) _ (Nat.le_of_ble_eq_true rfl) | exact Row.pt (by assumption) (by assumption) | exact Pt.fld (Row.pt (by assumption) (by assumption)) _ (Nat.le_of_ble_eq_true rfl) | assumption | exact Pt.fld (by assumption) _ (Nat.le_of_ble_eq_true rfl) | exact Row.pt (Row.keep0 (by assumption) hK) (by assumption) | exact Pt.fld (Row.pt (Row.keep0 (by assumption) hK) (by assumption)) _ (Nat.le_of_ble_eq_true rfl) | exact Row.mk_pt (Row.keep0 (by assumption) hK) (by assumption) | exact Pt.fld (Row.mk_pt (Row.keep0 (by assumption) hK) (by assumption)) _ (Nat.le_of_ble_eq_true rfl)) (Nat.le_of_ble_eq_true rfl)) ?_
    refine w_store_fld (o := 2) rfl rfl rfl rfl (by rw [AV.cells_leaf hvt'.1.leaf]; rfl) (by simp only [AV.cells_leaf hvt'.1.leaf, List.all_cons, List.all_nil, hvt'.1.leaf]; rfl) hK.ok hp (by simp [AV.gs]) (by rw [AV.cells_leaf hvt'.1.leaf]; exact Nat.le_of_ble_eq_true rfl) ?_
    intro s5 hp' hk5 hc5
    have hp : Pt s5.h (.ptr s1.ctr 0 0) [.int .i64 x.kind, .str x.name, vt', ve] := by rw [AV.cells_leaf hvt'.1.leaf] at hp'; exact hp'
    have hK := hK.fresh hk5 hPs
    have hB := hB.keep good_stmt hk5 (fun g hg => by rw [List.mem_singleton.1 hg]; exact Nat.le_refl _)
    have hvt' := hvt'.keep hk5 (fun g hg h => by rw [List.mem_singleton.1 hg] at h; have := h.1; omega)
    refine w_nil ?_
    refine then_n ?_
    repeat refine wc_seq ?_
    refine wc_region ?_
    refine w_val rfl rfl (op_pure rfl) ?_
    refine w_nil ?_
    refine then_n ?_
    repeat refine wc_seq ?_
    refine wc_region ?_
    refine w_val rfl rfl (op_pure rfl) ?_
    refine w_nil ?_
    refine then_n ?_
    repeat refine wc_seq ?_
    refine wc_block ?_
    refine wc_loop_at (fun j m s6 => ∃ (k : Nat) (e : AV), j = x.exprs.length - k ∧ k ≤ x.exprs.length ∧ m = [(0, v), (3, f), (4, .int .i64 (i : Nat)), (5, .ptr s1.ctr 0 0), (6, e), (7, .int .i64 (k : Nat))] ∧ Keep [] s s6 ∧ Pt s6.h (.ptr s1.ctr 0 0) [.int .i64 x.kind, .str x.name, vt', ve] ∧
        Bld s.ctr s1.ctr s6 4 StmtLF f (xs.take i) ∧ LentF s6.h (Fr s3.ctr s4.ctr []) 1 sC [.str markB] vt' x.targets ∧ s5.ctr ≤ s6.ctr ∧ Bld s5.ctr s6.ctr s6 1 TermsLF e (x.exprs.take k)) x.exprs.length
      [(0, v), (3, f), (4, .int .i64 (i : Nat)), (5, .ptr s1.ctr 0 0), (6, .nils), (7, .int .i64 ((0 : Nat) : Int))] (Sub.cons rfl (Sub.cons rfl (Sub.cons rfl (Sub.cons rfl (Sub.cons rfl (Sub.cons rfl (Sub.nil _)))))))
      ⟨0, .nils, by simp, by simp, rfl, hK, hp, hB, hvt', Nat.le_refl _, Bld.nil⟩ ?_
    clear hK hp hB hvt'
    rintro j1 m1 s6 ⟨k, e, rfl, hk, rfl, hK, hp, hB, hvt', hc6, hE6⟩
    repeat refine wc_seq ?_
    refine wc_region ?_
    refine w_val rfl rfl (op_pure rfl) ?_
    refine w_val rfl rfl (op_pure rfl) ?_
    refine w_val rfl rfl (op_pure rfl) ?_
    first | refine w_val rfl rfl (op_idxF rfl rfl (by first | exact natA_cast _ _ | exact natA_succ _ _ | exact natA_toNat (by omega) | rfl) rfl rfl rfl rfl (by first | assumption | exact Row.keep0 (by assumption) hK) (by first | omega | (simp; done) | (simp; omega))) ?_ | refine w_val rfl rfl (op_idx rfl rfl (by first | exact natA_cast _ _ | exact natA_succ _ _ | exact natA_toNat (by omega) | rfl) rfl rfl rfl rfl (by first | assumption | exact Row.keep0 (by assumption) hK) (by first | omega | (simp; done) | (simp; omega))) ?_
    refine w_val rfl rfl (op_fld rfl rfl rfl rfl (by decide) (by first | exact Row.mk_pt (by assumption) (by assumption) | exact Pt.fld (Row.mk_pt (by assumption) (by assumption)) _ (Nat.le_of_ble_eq_true rfl) | exact Row.pt (by assumption) (by assumption) | exact Pt.fld (Row.pt (by assumption) (by assumption)) _ (Nat.le_of_ble_eq_true rfl) | assumption | exact Pt.fld (by assumption) _ (Nat.le_of_ble_eq_true rfl) | exact Row.pt (Row.keep0 (by assumption) hK) (by assumption) | exact Pt.fld (Row.pt (Row.keep0 (by assumption) hK) (by assumption)) _ (Nat.le_of_ble_eq_true rfl) | exact Row.mk_pt (Row.keep0 (by assumption) hK) (by assumption) | exact Pt.fld (Row.mk_pt (Row.keep0 (by assumption) hK) (by assumption)) _ (Nat.le_of_ble_eq_true rfl)) (Nat.le_of_ble_eq_true rfl)) ?_
    refine w_val rfl rfl (op_load rfl rfl (by first | exact Row.mk_pt (by assumption) (by assumption) | exact Pt.fld (Row.mk_pt (by assumption) (by assumption)) _ (Nat.le_of_ble_eq_true rfl) | exact Row.pt (by assumption) (by assumption) | exact Pt.fld (Row.pt (by assumption) (by assumption)) _ (Nat.le_of_ble_eq_true rfl) | assumption | exact Pt.fld (by assumption) _ (Nat.le_of_ble_eq_true rfl) | exact Row.pt (Row.keep0 (by assumption) hK) (by assumption) | exact Pt.fld (Row.pt (Row.keep0 (by assumption) hK) (by assumption)) _ (Nat.le_of_ble_eq_true rfl) | exact Row.mk_pt (Row.keep0 (by assumption) hK) (by assumption) | exact Pt.fld (Row.mk_pt (Row.keep0 (by assumption) hK) (by assumption)) _ (Nat.le_of_ble_eq_true rfl)) rfl) ?_
    refine w_val rfl rfl (op_len rfl rfl rfl rfl rfl (by first | assumption | exact Row.slenF (by assumption) | exact Row.slen (by assumption) | rfl)) ?_
    refine w_val rfl rfl (op_pure rfl) ?_
    refine w_nil ?_
    refine then_n ?_
    repeat refine wc_seq ?_
    refine wc_condT rfl (fun h30 => ?_) (fun h30 => ?_)
    · simp at h30
      refine wc_skip ?_
      refine then_n ?_
      repeat refine wc_seq ?_
      refine wc_block ?_
      repeat refine wc_seq ?_
      obtain ⟨ts, hts⟩ : ∃ x', x.exprs[k]? = some x' := ⟨_, List.getElem?_eq_getElem h30⟩
      obtain ⟨ce, hce⟩ : ∃ c, csE[k]? = some c := ⟨_, List.getElem?_eq_getElem (by omega)⟩
      obtain ⟨w0, rfl, hw0⟩ := hE k ts ce hts hce
      have htl := hx3 ts (List.mem_of_getElem? hts)
      refine wc_region ?_
      refine w_val rfl rfl (op_pure rfl) ?_
      refine w_val rfl rfl (op_pure rfl) ?_
      first | refine w_val rfl rfl (op_idxF rfl rfl (by first | exact natA_cast _ _ | exact natA_succ _ _ | exact natA_toNat (by omega) | rfl) rfl rfl rfl rfl (by first | assumption | exact Row.keep0 (by assumption) hK) (by first | omega | (simp; done) | (simp; omega))) ?_ | refine w_val rfl rfl (op_idx rfl rfl (by first | exact natA_cast _ _ | exact natA_succ _ _ | exact natA_toNat (by omega) | rfl) rfl rfl rfl rfl (by first | assumption | exact Row.keep0 (by assumption) hK) (by first | omega | (simp; done) | (simp; omega))) ?_
      refine w_val rfl rfl (op_fld rfl rfl rfl rfl (by decide) (by first | exact Row.mk_pt (by assumption) (by assumption) | exact Pt.fld (Row.mk_pt (by assumption) (by assumption)) _ (Nat.le_of_ble_eq_true rfl) | exact Row.pt (by assumption) (by assumption) | exact Pt.fld (Row.pt (by assumption) (by assumption)) _ (Nat.le_of_ble_eq_true rfl) | assumption | exact Pt.fld (by assumption) _ (Nat.le_of_ble_eq_true rfl) | exact Row.pt (Row.keep0 (by assumption) hK) (by assumption) | exact Pt.fld (Row.pt (Row.keep0 (by assumption) hK) (by assumption)) _ (Nat.le_of_ble_eq_true rfl) | exact Row.mk_pt (Row.keep0 (by assumption) hK) (by assumption) | exact Pt.fld (Row.mk_pt (Row.keep0 (by assumption) hK) (by assumption)) _ (Nat.le_of_ble_eq_true rfl)) (Nat.le_of_ble_eq_true rfl)) ?_
      refine w_val rfl rfl (op_load rfl rfl (by first | exact Row.mk_pt (by assumption) (by assumption) | exact Pt.fld (Row.mk_pt (by assumption) (by assumption)) _ (Nat.le_of_ble_eq_true rfl) | exact Row.pt (by assumption) (by assumption) | exact Pt.fld (Row.pt (by assumption) (by assumption)) _ (Nat.le_of_ble_eq_true rfl) | assumption | exact Pt.fld (by assumption) _ (Nat.le_of_ble_eq_true rfl) | exact Row.pt (Row.keep0 (by assumption) hK) (by assumption) | exact Pt.fld (Row.pt (Row.keep0 (by assumption) hK) (by assumption)) _ (Nat.le_of_ble_eq_true rfl) | exact Row.mk_pt (Row.keep0 (by assumption) hK) (by assumption) | exact Pt.fld (Row.mk_pt (Row.keep0 (by assumption) hK) (by assumption)) _ (Nat.le_of_ble_eq_true rfl)) rfl) ?_
      refine w_val rfl rfl (op_pure rfl) ?_
      first | refine w_val rfl rfl (op_idxF rfl rfl (by first | exact natA_cast _ _ | exact natA_succ _ _ | exact natA_toNat (by omega) | rfl) rfl rfl rfl rfl (by first | assumption | exact Row.keep0 (by assumption) hK) (by first | omega | (simp; done) | (simp; omega))) ?_ | refine w_val rfl rfl (op_idx rfl rfl (by first | exact natA_cast _ _ | exact natA_succ _ _ | exact natA_toNat (by omega) | rfl) rfl rfl rfl rfl (by first | assumption | exact Row.keep0 (by assumption) hK) (by first | omega | (simp; done) | (simp; omega))) ?_
      refine w_val rfl rfl (op_load rfl rfl (by first | exact Row.mk_pt (by assumption) (by assumption) | exact Pt.fld (Row.mk_pt (by assumption) (by assumption)) _ (Nat.le_of_ble_eq_true rfl) | exact Row.pt (by assumption) (by assumption) | exact Pt.fld (Row.pt (by assumption) (by assumption)) _ (Nat.le_of_ble_eq_true rfl) | assumption | exact Pt.fld (by assumption) _ (Nat.le_of_ble_eq_true rfl) | exact Row.pt (Row.keep0 (by assumption) hK) (by assumption) | exact Pt.fld (Row.pt (Row.keep0 (by assumption) hK) (by assumption)) _ (Nat.le_of_ble_eq_true rfl) | exact Row.mk_pt (Row.keep0 (by assumption) hK) (by assumption) | exact Pt.fld (Row.mk_pt (Row.keep0 (by assumption) hK) (by assumption)) _ (Nat.le_of_ble_eq_true rfl)) rfl) ?_
      refine w_call rfl rfl (op_call rfl rfl rfl rfl) (lentTerms_ok hK.ok htl (hw0.keep0 hK)) ?_
      rintro w s7 ⟨hk7, hw⟩
      have hK := hK.two hk7
      have hc7 := hk7.ctr
      have hp := hp.keep hk7 (fun _ _ h => by cases h)
      have hB := hB.keep good_stmt hk7 (fun g hg => by cases hg)
      have hvt' := hvt'.keep hk7 (fun g hg => by cases hg)
      have hE6 := hE6.keep good_terms hk7 (fun g hg => by cases hg)
      refine w_val rfl rfl (op_pure rfl) ?_
      refine w_nil ?_
      refine then_n ?_
      refine wc_region ?_
      refine w_val rfl rfl (op_pure rfl) ?_
      refine w_val rfl rfl (op_pure rfl) ?_
      refine w_lit1 (c := [w]) rfl rfl rfl rfl rfl rfl rfl (by decide) (by decide) (fill1 hw.1.leaf) (by simp only [List.all_cons, List.all_nil, hw.1.leaf]; rfl) rfl hK.ok ?_
      rintro b8 s8 hb8 hk8 hc8 -
      have hK := hK.two hk8
      have hp := hp.keep hk8 (fun _ _ h => by cases h)
      have hB := hB.keep good_stmt hk8 (fun g hg => by cases hg)
      have hvt' := hvt'.keep hk8 (fun g hg => by cases hg)
      have hE6 := hE6.keep good_terms hk8 (fun g hg => by cases hg)
      have hw := hw.keep hk8 (fun g hg => by cases hg)
      have heg : ∀ g ∈ e.gs, s5.ctr ≤ g ∧ g < s6.ctr := hE6.gs
      refine w_app_bld good_terms (z := ts) (sz := 1) rfl rfl rfl rfl rfl rfl rfl rfl rfl (by decide) rfl hK.ok hE6 (by omega) (by omega) hb8 ⟨w, rfl, hw.mono fun g ⟨q1, q2, _⟩ => ⟨by omega, by omega, fun h => by have := (heg g h).2; omega⟩⟩ (by simp only [List.length_map, List.length_nil, List.length_append, List.length_cons, List.length_take, maxBytes]; omega) (by simp only [List.length_map, List.length_nil, List.length_append, List.length_cons, List.length_take, maxBytes]; omega) ?_
      rintro e9 s9 hE9 hk9 -
      have hc9 := hk9.ctr
      rw [take_snoc hts] at hE9
      have hK := hK.fresh hk9 (fun g hg => hok g (by have := (heg g hg).1; omega))
      have hp := hp.keep hk9 (fun g hg h => by rw [List.mem_singleton.1 hg] at h; have := (heg _ h).1; omega)
      have hB := hB.keep good_stmt hk9 (fun g hg => by have := (heg g hg).1; omega)
      have hvt' := hvt'.keep hk9 (fun g hg h => by have := (heg g hg).1; have := h.2.1; omega)
      refine w_val rfl rfl (op_pure rfl) ?_
      refine w_nil ?_
      refine out_n ?_
      refine then_n ?_
      refine wc_region ?_
      refine w_val rfl rfl (op_pure rfl) ?_
      refine w_val rfl rfl (op_add rfl rfl (by unfold In64; omega)) ?_
      refine w_val rfl rfl (op_pure rfl) ?_
      refine w_nil ?_
      exact round_n _ _ (by omega) (Sub.cons rfl (Sub.cons rfl (Sub.cons rfl (Sub.cons rfl (Sub.cons rfl (Sub.cons rfl (Sub.nil _))))))) ⟨k + 1, e9, rfl, by omega, rfl, hK, hp, hB, hvt', by omega, hE9⟩
    simp at h30
    obtain rfl : k = x.exprs.length := by omega
    rw [List.take_length] at hE6
    refine wc_exit ?_
    repeat first | refine then_x ?_ | refine round_x ?_ | refine cut_x ?_ | refine out_x' (by decide) ?_
    refine out_x ?_
    refine then_n ?_
    repeat refine wc_seq ?_
    refine wc_region ?_
    refine w_val rfl rfl (op_pure rfl) ?_
    refine w_lit1 (c := [.nils]) rfl rfl rfl rfl rfl rfl rfl (by decide) (by decide) rfl rfl rfl hK.ok ?_
    rintro b8 s8 hb8 hk8 hc8 -
    have hK := hK.two hk8
    have hp := hp.keep hk8 (fun _ _ h => by cases h)
    have hB := hB.keep good_stmt hk8 (fun g hg => by cases hg)
    have hvt' := hvt'.keep hk8 (fun g hg => by cases hg)
    have hE6 := hE6.keep good_terms hk8 (fun g hg => by cases hg)
    have heg : ∀ g ∈ e.gs, s5.ctr ≤ g ∧ g < s6.ctr := hE6.gs
    refine w_app_mark good_terms (sz := 1) rfl rfl rfl rfl rfl rfl rfl rfl rfl (by decide) rfl hK.ok hE6 (by omega) (by omega) hb8 (by simp only [List.length_map, List.length_nil, List.length_append, List.length_cons, List.length_take, maxBytes]; omega) (by simp only [List.length_map, List.length_nil, List.length_append, List.length_cons, List.length_take, maxBytes]; omega) ?_
    rintro e9 s9 cse hr9 hl9 hE9 hk9
    have hc9 := hk9.ctr
    have hK := hK.fresh hk9 (fun g hg => hok g (by have := (heg g hg).1; omega))
    have hp := hp.keep hk9 (fun g hg h => by rw [List.mem_singleton.1 hg] at h; have := (heg _ h).1; omega)
    have hB := hB.keep good_stmt hk9 (fun g hg => by have := (heg g hg).1; omega)
    have hvt' := hvt'.keep hk9 (fun g hg h => by have := (heg g hg).1; have := h.2.1; omega)
    refine w_val rfl rfl (op_pure rfl) ?_
    refine w_nil ?_
    refine then_n ?_
    repeat refine wc_seq ?_
    refine wc_region ?_
    refine w_val rfl rfl (op_pure rfl) ?_
    refine w_val rfl rfl (op_pure rfl) ?_
    refine w_val rfl rfl (op_pure rfl) ?_
    first | refine w_val rfl rfl (op_idxF rfl rfl (by first | exact natA_cast _ _ | exact natA_succ _ _ | exact natA_toNat (by omega) | rfl) rfl rfl rfl rfl (by first | assumption | exact Row.keep0 (by assumption) hK) (by first | omega | (simp; done) | (simp; omega))) ?_ | refine w_val rfl rfl (op_idx rfl rfl (by first | exact natA_cast _ _ | exact natA_succ _ _ | exact natA_toNat (by omega) | rfl) rfl rfl rfl rfl (by first | assumption | exact Row.keep0 (by assumption) hK) (by first | omega | (simp; done) | (simp; omega))) ?_
    refine w_val rfl rfl (op_fld rfl rfl rfl rfl (by decide) (by first | exact Row.mk_pt (by assumption) (by assumption) | exact Pt.fld (Row.mk_pt (by assumption) (by assumption)) _ (Nat.le_of_ble_eq_true rfl) | exact Row.pt (by assumption) (by assumption) | exact Pt.fld (Row.pt (by assumption) (by assumption)) _ (Nat.le_of_ble_eq_true rfl) | assumption | exact Pt.fld (by assumption) _ (Nat.le_of_ble_eq_true rfl) | exact Row.pt (Row.keep0 (by assumption) hK) (by assumption) | exact Pt.fld (Row.pt (Row.keep0 (by assumption) hK) (by assumption)) _ (Nat.le_of_ble_eq_true rfl) | exact Row.mk_pt (Row.keep0 (by assumption) hK) (by assumption) | exact Pt.fld (Row.mk_pt (Row.keep0 (by assumption) hK) (by assumption)) _ (Nat.le_of_ble_eq_true rfl)) (Nat.le_of_ble_eq_true rfl)) ?_
    refine w_val rfl rfl (op_load rfl rfl (by first | exact Row.mk_pt (by assumption) (by assumption) | exact Pt.fld (Row.mk_pt (by assumption) (by assumption)) _ (Nat.le_of_ble_eq_true rfl) | exact Row.pt (by assumption) (by assumption) | exact Pt.fld (Row.pt (by assumption) (by assumption)) _ (Nat.le_of_ble_eq_true rfl) | assumption | exact Pt.fld (by assumption) _ (Nat.le_of_ble_eq_true rfl) | exact Row.pt (Row.keep0 (by assumption) hK) (by assumption) | exact Pt.fld (Row.pt (Row.keep0 (by assumption) hK) (by assumption)) _ (Nat.le_of_ble_eq_true rfl) | exact Row.mk_pt (Row.keep0 (by assumption) hK) (by assumption) | exact Pt.fld (Row.mk_pt (Row.keep0 (by assumption) hK) (by assumption)) _ (Nat.le_of_ble_eq_true rfl)) rfl) ?_
    refine w_val rfl rfl (op_len rfl rfl rfl rfl rfl (by first | assumption | exact Row.slenF (by assumption) | exact Row.slen (by assumption) | rfl)) ?_
    refine w_val rfl rfl (op_cut (l := none) (h := some x.exprs.length) (l' := 0) (h' := x.exprs.length) rfl rfl (optY_some rfl (natA_cast _ _)) rfl rfl rfl rfl hr9 rfl rfl (Nat.zero_le _) (by simp; omega)) ?_
    have hlf : (cutA e9 0 x.exprs.length).leaf = true := (hr9.less hl9).leaf
    refine w_val rfl rfl (op_fld rfl rfl rfl rfl (by decide) (by first | exact Row.mk_pt (by assumption) (by assumption) | exact Pt.fld (Row.mk_pt (by assumption) (by assumption)) _ (Nat.le_of_ble_eq_true rfl) | exact Row.pt (by assumption) (by assumption) | exact Pt.fld (Row.pt (by assumption) (by assumption)) _ (Nat.le_of_ble_eq_true rfl) | assumption | exact Pt.fld (by assumption) _ (Nat.le_of_ble_eq_true rfl) | exact Row.pt (Row.keep0 (by assumption) hK) (by assumption) | exact Pt.fld (Row.pt (Row.keep0 (by assumption) hK) (by assumption)) _ (Nat.le_of_ble_eq_true rfl) | exact Row.mk_pt (Row.keep0 (by assumption) hK) (by assumption) | exact Pt.fld (Row.mk_pt (Row.keep0 (by assumption) hK) (by assumption)) _ (Nat.le_of_ble_eq_true rfl)) (Nat.le_of_ble_eq_true rfl)) ?_
    refine w_store_fld (o := 3) rfl rfl rfl rfl (by rw [AV.cells_leaf hlf]; rfl) (by simp only [AV.cells_leaf hlf, List.all_cons, List.all_nil, hlf]; rfl) hK.ok hp (by simp [AV.gs]) (by rw [AV.cells_leaf hlf]; exact Nat.le_of_ble_eq_true rfl) ?_
    intro s10 hp' hk10 hc10
    have hp : Pt s10.h (.ptr s1.ctr 0 0) [.int .i64 x.kind, .str x.name, vt', cutA e9 0 x.exprs.length] := by rw [AV.cells_leaf hlf] at hp'; exact hp'
    have hK := hK.fresh hk10 hPs
    have hB := hB.keep good_stmt hk10 (fun g hg => by rw [List.mem_singleton.1 hg]; exact Nat.le_refl _)
    have hvt' := hvt'.keep hk10 (fun g hg h => by rw [List.mem_singleton.1 hg] at h; have := h.1; omega)
    have hE9 := hE9.keep good_terms hk10 (fun g hg h => by rw [List.mem_singleton.1 hg] at h; have := h.1; omega)
    refine w_nil ?_
    refine then_n ?_
    refine wc_region ?_
    refine w_val rfl rfl (op_pure rfl) ?_
    refine w_val rfl rfl (op_load rfl rfl (by first | exact Row.mk_pt (by assumption) (by assumption) | exact Pt.fld (Row.mk_pt (by assumption) (by assumption)) _ (Nat.le_of_ble_eq_true rfl) | exact Row.pt (by assumption) (by assumption) | exact Pt.fld (Row.pt (by assumption) (by assumption)) _ (Nat.le_of_ble_eq_true rfl) | assumption | exact Pt.fld (by assumption) _ (Nat.le_of_ble_eq_true rfl) | exact Row.pt (Row.keep0 (by assumption) hK) (by assumption) | exact Pt.fld (Row.pt (Row.keep0 (by assumption) hK) (by assumption)) _ (Nat.le_of_ble_eq_true rfl) | exact Row.mk_pt (Row.keep0 (by assumption) hK) (by assumption) | exact Pt.fld (Row.mk_pt (Row.keep0 (by assumption) hK) (by assumption)) _ (Nat.le_of_ble_eq_true rfl)) rfl) ?_
    refine w_lit1 (c := [.int .i64 x.kind, .str x.name, vt', cutA e9 0 x.exprs.length]) rfl rfl rfl rfl rfl rfl rfl (by decide) (by decide) rfl (by simp only [List.all_cons, List.all_nil, hvt'.1.leaf, hlf]; rfl) rfl hK.ok ?_
    rintro b11 s11 hb11 hk11 hc11 -
    have hK := hK.two hk11
    have hB := hB.keep good_stmt hk11 (fun g hg => by cases hg)
    have hvt' := hvt'.keep hk11 (fun g hg => by cases hg)
    have hE9 := hE9.keep good_terms hk11 (fun g hg => by cases hg)
    have hfg : ∀ g ∈ f.gs, s.ctr ≤ g ∧ g < s1.ctr := hB.gs
    refine w_app_bld good_stmt (z := x) (sz := 4) rfl rfl rfl rfl rfl rfl rfl rfl rfl (by decide) rfl hK.ok hB (by omega) (by omega) hb11
      ⟨vt', _, rfl, hvt'.mono fun g ⟨q1, q2, _⟩ => ⟨by omega, by omega, fun h => by have := (hfg g h).2; omega⟩, hE9.mono good_terms fun g ⟨q1, q2, _⟩ => ⟨by omega, by omega, fun h => by have := (hfg g h).2; omega⟩⟩ (by simp only [List.length_map, List.length_nil, List.length_append, List.length_cons, List.length_take, maxBytes]; omega) (by simp only [List.length_map, List.length_nil, List.length_append, List.length_cons, List.length_take, maxBytes]; omega) ?_
    rintro f12 s12 hB12 hk12 -
    rw [take_snoc hx] at hB12
    have hK := hK.fresh hk12 (fun g hg => hok g (hfg g hg).1)
    refine w_val rfl rfl (op_pure rfl) ?_
    refine w_nil ?_
    refine out_n ?_
    refine then_n ?_
    refine wc_region ?_
    refine w_val rfl rfl (op_pure rfl) ?_
    refine w_val rfl rfl (op_add rfl rfl (by unfold In64; omega)) ?_
    refine w_val rfl rfl (op_pure rfl) ?_
    refine w_nil ?_
    exact round_n _ _ (by omega) (Sub.cons rfl (Sub.cons rfl (Sub.cons rfl (Sub.nil _)))) ⟨i + 1, f12, rfl, by omega, rfl, hK, hB12⟩
  simp at h12
  obtain rfl : i = xs.length := by omega
  rw [List.take_length] at hB
  refine wc_exit ?_
  repeat first | refine then_x ?_ | refine round_x ?_ | refine cut_x ?_ | refine out_x' (by decide) ?_
  refine out_x ?_
  refine then_n ?_
  repeat refine wc_seq ?_
  refine wc_region ?_
  refine w_val rfl rfl (op_pure rfl) ?_
  refine w_val rfl rfl (op_pure rfl) ?_
  refine w_lit1 (c := [.int .i64 (-71), .str ByteArray.empty, .nils, .nils]) rfl rfl rfl rfl rfl rfl rfl (by decide) (by decide) rfl rfl rfl hK.ok ?_
  rintro b2 s2 hb2 hk2 hc2 -
  have hK := hK.two hk2
  have hB := hB.keep good_stmt hk2 (fun g hg => by cases hg)
  have hfg : ∀ g ∈ f.gs, s.ctr ≤ g ∧ g < s1.ctr := hB.gs
  refine w_app_mark good_stmt (sz := 4) rfl rfl rfl rfl rfl rfl rfl rfl rfl (by decide) rfl hK.ok hB (by omega) (by omega) hb2 (by simp only [List.length_map, List.length_nil, List.length_append, List.length_cons, List.length_take, maxBytes]; omega) (by simp only [List.length_map, List.length_nil, List.length_append, List.length_cons, List.length_take, maxBytes]; omega) ?_
  rintro f3 s3 cs3 hr3 hl3 hL3 hk3
  have hK := hK.fresh hk3 (fun g hg => hok g (hfg g hg).1)
  refine w_val rfl rfl (op_pure rfl) ?_
  refine w_nil ?_
  refine then_n ?_
  repeat refine wc_seq ?_
  refine wc_region ?_
  refine w_val rfl rfl (op_pure rfl) ?_
  refine w_val rfl rfl (op_pure rfl) ?_
  refine w_val rfl rfl (op_len rfl rfl rfl rfl rfl (by first | assumption | exact Row.slenF (by assumption) | exact Row.slen (by assumption) | rfl)) ?_
  refine w_val rfl rfl (op_cut (l := none) (h := some xs.length) (l' := 0) (h' := xs.length) rfl rfl (optY_some rfl (natA_cast _ _)) rfl rfl rfl rfl hr3 rfl rfl (Nat.zero_le _) (by simp; omega)) ?_
  refine w_val rfl rfl (op_pure rfl) ?_
  refine w_nil ?_
  refine then_n ?_
  refine wc_ret ?_
  repeat first | refine then_r ?_ | refine out_r ?_ | refine round_r ?_ | refine cut_r ?_
  exact ⟨_, rfl, hK, hL3⟩
end Go.Ab
