/- Statements that are the same, that were kept. -/
import Derived.Test.YtdpdlmjlahehoaaD2
namespace Go.Ab
open Go.Proofs
structure StmtL where
  kind : Int
  name : ByteArray
  targets : List ByteArray
  exprs : List (List TermL)
def StmtL.small (x : StmtL) : Prop := x.targets.length ≤ 2097152 ∧ x.exprs.length ≤ 2097152 ∧ ∀ ts ∈ x.exprs, ts.length ≤ 2097152
def StmtR (h : Tr Grp) (x : StmtL) (c : List AV) : Prop := ∃ vt ve, c = [.int .i64 x.kind, .str x.name, vt, ve] ∧ Row h 1 vt (x.targets.map sC) ∧ RowR h 1 TermsR ve x.exprs
def TermsLR (h : Tr Grp) (ts : List TermL) (c : List AV) : Prop := ∃ v, c = [v] ∧ Lent h 3 tC [.int .i64 (-71), .int .i64 0, .str ByteArray.empty] v ts
def StmtLR (h : Tr Grp) (x : StmtL) (c : List AV) : Prop := ∃ vt ve, c = [.int .i64 x.kind, .str x.name, vt, ve] ∧ Lent h 1 sC [.str markB] vt x.targets ∧ LentR h 1 TermsLR [.nils] ve x.exprs
theorem StmtLR.to {h : Tr Grp} (x : StmtL) (c : List AV) (k : StmtLR h x c) : StmtR h x c := by
  obtain ⟨vt, ve, rfl, h1, h2⟩ := k
  exact ⟨vt, ve, rfl, h1.row, h2.row fun ts c ⟨v, e, hv⟩ => ⟨v, e, hv.row⟩⟩
set_option maxRecDepth 10000 in
theorem stmts_same {s : St} {a b : AV} {xs : List StmtL} (hl : xs.length ≤ 2097152) (hll : ∀ x ∈ xs, x.small) (ha : RowR s.h 4 StmtR a xs) (hb : RowR s.h 4 StmtR b xs) :
    CallS Try.prog Tt 51 [a, b] s (fun v s' => s' = s ∧ v = .bool true) := by
  obtain ⟨csa, ha, hla, hA⟩ := ha
  obtain ⟨csb, hb, hlb, hB⟩ := hb
  have hsa : a.slen = some xs.length := ha.slen.trans (congrArg some hla)
  have hsb : b.slen = some xs.length := hb.slen.trans (congrArg some hlb)
  refine call_of (fn := Try.f51) (nt := 69) Try.func51 rfl rfl ?_
  repeat refine wc_seq ?_
  refine wc_region ?_
  refine w_val rfl rfl (op_pure rfl) ?_
  refine w_nil ?_
  refine then_n ?_
  repeat refine wc_seq ?_
  refine wc_region ?_
  refine w_val rfl rfl (op_pure rfl) ?_
  refine w_val rfl rfl (op_len rfl rfl rfl rfl rfl (by first | assumption | exact Row.slenF (by assumption) | exact Row.slen (by assumption) | rfl)) ?_
  refine w_val rfl rfl (op_pure rfl) ?_
  refine w_val rfl rfl (op_len rfl rfl rfl rfl rfl (by first | assumption | exact Row.slenF (by assumption) | exact Row.slen (by assumption) | rfl)) ?_
  refine w_val rfl rfl (op_pure rfl) ?_
  refine w_nil ?_
  refine then_n ?_
  repeat refine wc_seq ?_
  refine wc_condT rfl (fun h10 => ?_) (fun h10 => ?_)
  · simp at h10
  skip
  refine wc_skip ?_
  refine then_n ?_
  repeat refine wc_seq ?_
  refine wc_region ?_
  refine w_val rfl rfl (op_pure rfl) ?_
  refine w_nil ?_
  refine then_n ?_
  repeat refine wc_seq ?_
  refine wc_block ?_
  refine wc_loop_at (fun j m s' => ∃ i : Nat, j = xs.length - i ∧ i ≤ xs.length ∧ s' = s ∧ m = [(0, a), (1, b), (5, .int .i64 (i : Nat))]) xs.length
    [(0, a), (1, b), (5, .int .i64 ((0 : Nat) : Int))] (Sub.cons rfl (Sub.cons rfl (Sub.cons rfl (Sub.nil _)))) ⟨0, by simp, by simp, rfl, rfl⟩ ?_
  rintro j m sX ⟨i, rfl, hi, eX, rfl⟩
  obtain rfl := eX.symm
  repeat refine wc_seq ?_
  refine wc_region ?_
  refine w_val rfl rfl (op_pure rfl) ?_
  refine w_val rfl rfl (op_pure rfl) ?_
  refine w_val rfl rfl (op_len rfl rfl rfl rfl rfl (by first | assumption | exact Row.slenF (by assumption) | exact Row.slen (by assumption) | rfl)) ?_
  refine w_val rfl rfl (op_pure rfl) ?_
  refine w_nil ?_
  refine then_n ?_
  repeat refine wc_seq ?_
  refine wc_condT rfl (fun h14 => ?_) (fun h14 => ?_)
  · simp at h14
    refine wc_skip ?_
    refine then_n ?_
    repeat refine wc_seq ?_
    refine wc_block ?_
    repeat refine wc_seq ?_
    obtain ⟨x, hx⟩ : ∃ x, xs[i]? = some x := ⟨_, List.getElem?_eq_getElem h14⟩
    obtain ⟨ca, hca⟩ : ∃ c, csa[i]? = some c := ⟨_, List.getElem?_eq_getElem (by omega)⟩
    obtain ⟨cb, hcb⟩ : ∃ c, csb[i]? = some c := ⟨_, List.getElem?_eq_getElem (by omega)⟩
    obtain ⟨vta, vea, rfl, hta, hea⟩ := hA i x ca hx hca
    obtain ⟨vtb, veb, rfl, htb, heb⟩ := hB i x cb hx hcb
    obtain ⟨hx1, hx2, hx3⟩ := hll x (List.mem_of_getElem? hx)
    refine wc_draw (fun _ => True) (by kernel_rfl) rfl ?_
    refine wd_val (fun _ => trivial) rfl rfl (op_pure rfl) ?_
    refine wd_val (fun _ => trivial) rfl rfl (op_pure rfl) ?_
    first | refine wd_val (fun _ => trivial) rfl rfl (op_idxF rfl rfl (by first | exact natA_cast _ _ | exact natA_succ _ _ | exact natA_toNat (by omega) | rfl) rfl rfl rfl rfl (by first | assumption | exact Row.keep0 (by assumption) hK) (by first | omega | (simp; done) | (simp; omega))) ?_ | refine wd_val (fun _ => trivial) rfl rfl (op_idx rfl rfl (by first | exact natA_cast _ _ | exact natA_succ _ _ | exact natA_toNat (by omega) | rfl) rfl rfl rfl rfl (by first | assumption | exact Row.keep0 (by assumption) hK) (by first | omega | (simp; done) | (simp; omega))) ?_
    refine wd_val (fun _ => trivial) rfl rfl (op_fld rfl rfl rfl rfl (by decide) (by first | exact Row.mk_pt (by assumption) (by assumption) | exact Pt.fld (Row.mk_pt (by assumption) (by assumption)) _ (Nat.le_of_ble_eq_true rfl) | exact Row.pt (by assumption) (by assumption) | exact Pt.fld (Row.pt (by assumption) (by assumption)) _ (Nat.le_of_ble_eq_true rfl) | assumption | exact Pt.fld (by assumption) _ (Nat.le_of_ble_eq_true rfl) | exact Row.pt (Row.keep0 (by assumption) hK) (by assumption) | exact Pt.fld (Row.pt (Row.keep0 (by assumption) hK) (by assumption)) _ (Nat.le_of_ble_eq_true rfl) | exact Row.mk_pt (Row.keep0 (by assumption) hK) (by assumption) | exact Pt.fld (Row.mk_pt (Row.keep0 (by assumption) hK) (by assumption)) _ (Nat.le_of_ble_eq_true rfl)) (Nat.le_of_ble_eq_true rfl)) ?_
    refine wd_val (fun _ => trivial) rfl rfl (op_load rfl rfl (by first | exact Row.mk_pt (by assumption) (by assumption) | exact Pt.fld (Row.mk_pt (by assumption) (by assumption)) _ (Nat.le_of_ble_eq_true rfl) | exact Row.pt (by assumption) (by assumption) | exact Pt.fld (Row.pt (by assumption) (by assumption)) _ (Nat.le_of_ble_eq_true rfl) | assumption | exact Pt.fld (by assumption) _ (Nat.le_of_ble_eq_true rfl) | exact Row.pt (Row.keep0 (by assumption) hK) (by assumption) | exact Pt.fld (Row.pt (Row.keep0 (by assumption) hK) (by assumption)) _ (Nat.le_of_ble_eq_true rfl) | exact Row.mk_pt (Row.keep0 (by assumption) hK) (by assumption) | exact Pt.fld (Row.mk_pt (Row.keep0 (by assumption) hK) (by assumption)) _ (Nat.le_of_ble_eq_true rfl)) rfl) ?_
    refine wd_val (fun _ => trivial) rfl rfl (op_pure rfl) ?_
    refine wd_val (fun _ => trivial) rfl rfl (op_pure rfl) ?_
    first | refine wd_val (fun _ => trivial) rfl rfl (op_idxF rfl rfl (by first | exact natA_cast _ _ | exact natA_succ _ _ | exact natA_toNat (by omega) | rfl) rfl rfl rfl rfl (by first | assumption | exact Row.keep0 (by assumption) hK) (by first | omega | (simp; done) | (simp; omega))) ?_ | refine wd_val (fun _ => trivial) rfl rfl (op_idx rfl rfl (by first | exact natA_cast _ _ | exact natA_succ _ _ | exact natA_toNat (by omega) | rfl) rfl rfl rfl rfl (by first | assumption | exact Row.keep0 (by assumption) hK) (by first | omega | (simp; done) | (simp; omega))) ?_
    refine wd_val (fun _ => trivial) rfl rfl (op_fld rfl rfl rfl rfl (by decide) (by first | exact Row.mk_pt (by assumption) (by assumption) | exact Pt.fld (Row.mk_pt (by assumption) (by assumption)) _ (Nat.le_of_ble_eq_true rfl) | exact Row.pt (by assumption) (by assumption) | exact Pt.fld (Row.pt (by assumption) (by assumption)) _ (Nat.le_of_ble_eq_true rfl) | assumption | exact Pt.fld (by assumption) _ (Nat.le_of_ble_eq_true rfl) | exact Row.pt (Row.keep0 (by assumption) hK) (by assumption) | exact Pt.fld (Row.pt (Row.keep0 (by assumption) hK) (by assumption)) _ (Nat.le_of_ble_eq_true rfl) | exact Row.mk_pt (Row.keep0 (by assumption) hK) (by assumption) | exact Pt.fld (Row.mk_pt (Row.keep0 (by assumption) hK) (by assumption)) _ (Nat.le_of_ble_eq_true rfl)) (Nat.le_of_ble_eq_true rfl)) ?_
    refine wd_val (fun _ => trivial) rfl rfl (op_load rfl rfl (by first | exact Row.mk_pt (by assumption) (by assumption) | exact Pt.fld (Row.mk_pt (by assumption) (by assumption)) _ (Nat.le_of_ble_eq_true rfl) | exact Row.pt (by assumption) (by assumption) | exact Pt.fld (Row.pt (by assumption) (by assumption)) _ (Nat.le_of_ble_eq_true rfl) | assumption | exact Pt.fld (by assumption) _ (Nat.le_of_ble_eq_true rfl) | exact Row.pt (Row.keep0 (by assumption) hK) (by assumption) | exact Pt.fld (Row.pt (Row.keep0 (by assumption) hK) (by assumption)) _ (Nat.le_of_ble_eq_true rfl) | exact Row.mk_pt (Row.keep0 (by assumption) hK) (by assumption) | exact Pt.fld (Row.mk_pt (Row.keep0 (by assumption) hK) (by assumption)) _ (Nat.le_of_ble_eq_true rfl)) rfl) ?_
    refine wd_val (fun _ => trivial) rfl rfl (op_pure rfl) ?_
    refine wd_val (fun _ => trivial) rfl rfl (op_pure rfl) ?_
    refine wd_split (i := 28) rfl (fun h28 => ?_) (fun h28 => ?_)
    · simp at h28
    skip
    refine wd_val (fun _ => trivial) rfl rfl (op_pure rfl) ?_
    refine wd_val (fun _ => trivial) rfl rfl (op_pure rfl) ?_
    first | refine wd_val (fun _ => trivial) rfl rfl (op_idxF rfl rfl (by first | exact natA_cast _ _ | exact natA_succ _ _ | exact natA_toNat (by omega) | rfl) rfl rfl rfl rfl (by first | assumption | exact Row.keep0 (by assumption) hK) (by first | omega | (simp; done) | (simp; omega))) ?_ | refine wd_val (fun _ => trivial) rfl rfl (op_idx rfl rfl (by first | exact natA_cast _ _ | exact natA_succ _ _ | exact natA_toNat (by omega) | rfl) rfl rfl rfl rfl (by first | assumption | exact Row.keep0 (by assumption) hK) (by first | omega | (simp; done) | (simp; omega))) ?_
    refine wd_val (fun _ => trivial) rfl rfl (op_fld rfl rfl rfl rfl (by decide) (by first | exact Row.mk_pt (by assumption) (by assumption) | exact Pt.fld (Row.mk_pt (by assumption) (by assumption)) _ (Nat.le_of_ble_eq_true rfl) | exact Row.pt (by assumption) (by assumption) | exact Pt.fld (Row.pt (by assumption) (by assumption)) _ (Nat.le_of_ble_eq_true rfl) | assumption | exact Pt.fld (by assumption) _ (Nat.le_of_ble_eq_true rfl) | exact Row.pt (Row.keep0 (by assumption) hK) (by assumption) | exact Pt.fld (Row.pt (Row.keep0 (by assumption) hK) (by assumption)) _ (Nat.le_of_ble_eq_true rfl) | exact Row.mk_pt (Row.keep0 (by assumption) hK) (by assumption) | exact Pt.fld (Row.mk_pt (Row.keep0 (by assumption) hK) (by assumption)) _ (Nat.le_of_ble_eq_true rfl)) (Nat.le_of_ble_eq_true rfl)) ?_
    refine wd_val (fun _ => trivial) rfl rfl (op_load rfl rfl (by first | exact Row.mk_pt (by assumption) (by assumption) | exact Pt.fld (Row.mk_pt (by assumption) (by assumption)) _ (Nat.le_of_ble_eq_true rfl) | exact Row.pt (by assumption) (by assumption) | exact Pt.fld (Row.pt (by assumption) (by assumption)) _ (Nat.le_of_ble_eq_true rfl) | assumption | exact Pt.fld (by assumption) _ (Nat.le_of_ble_eq_true rfl) | exact Row.pt (Row.keep0 (by assumption) hK) (by assumption) | exact Pt.fld (Row.pt (Row.keep0 (by assumption) hK) (by assumption)) _ (Nat.le_of_ble_eq_true rfl) | exact Row.mk_pt (Row.keep0 (by assumption) hK) (by assumption) | exact Pt.fld (Row.mk_pt (Row.keep0 (by assumption) hK) (by assumption)) _ (Nat.le_of_ble_eq_true rfl)) rfl) ?_
    refine wd_val (fun _ => trivial) rfl rfl (op_pure rfl) ?_
    refine wd_val (fun _ => trivial) rfl rfl (op_pure rfl) ?_
    first | refine wd_val (fun _ => trivial) rfl rfl (op_idxF rfl rfl (by first | exact natA_cast _ _ | exact natA_succ _ _ | exact natA_toNat (by omega) | rfl) rfl rfl rfl rfl (by first | assumption | exact Row.keep0 (by assumption) hK) (by first | omega | (simp; done) | (simp; omega))) ?_ | refine wd_val (fun _ => trivial) rfl rfl (op_idx rfl rfl (by first | exact natA_cast _ _ | exact natA_succ _ _ | exact natA_toNat (by omega) | rfl) rfl rfl rfl rfl (by first | assumption | exact Row.keep0 (by assumption) hK) (by first | omega | (simp; done) | (simp; omega))) ?_
    refine wd_val (fun _ => trivial) rfl rfl (op_fld rfl rfl rfl rfl (by decide) (by first | exact Row.mk_pt (by assumption) (by assumption) | exact Pt.fld (Row.mk_pt (by assumption) (by assumption)) _ (Nat.le_of_ble_eq_true rfl) | exact Row.pt (by assumption) (by assumption) | exact Pt.fld (Row.pt (by assumption) (by assumption)) _ (Nat.le_of_ble_eq_true rfl) | assumption | exact Pt.fld (by assumption) _ (Nat.le_of_ble_eq_true rfl) | exact Row.pt (Row.keep0 (by assumption) hK) (by assumption) | exact Pt.fld (Row.pt (Row.keep0 (by assumption) hK) (by assumption)) _ (Nat.le_of_ble_eq_true rfl) | exact Row.mk_pt (Row.keep0 (by assumption) hK) (by assumption) | exact Pt.fld (Row.mk_pt (Row.keep0 (by assumption) hK) (by assumption)) _ (Nat.le_of_ble_eq_true rfl)) (Nat.le_of_ble_eq_true rfl)) ?_
    refine wd_val (fun _ => trivial) rfl rfl (op_load rfl rfl (by first | exact Row.mk_pt (by assumption) (by assumption) | exact Pt.fld (Row.mk_pt (by assumption) (by assumption)) _ (Nat.le_of_ble_eq_true rfl) | exact Row.pt (by assumption) (by assumption) | exact Pt.fld (Row.pt (by assumption) (by assumption)) _ (Nat.le_of_ble_eq_true rfl) | assumption | exact Pt.fld (by assumption) _ (Nat.le_of_ble_eq_true rfl) | exact Row.pt (Row.keep0 (by assumption) hK) (by assumption) | exact Pt.fld (Row.pt (Row.keep0 (by assumption) hK) (by assumption)) _ (Nat.le_of_ble_eq_true rfl) | exact Row.mk_pt (Row.keep0 (by assumption) hK) (by assumption) | exact Pt.fld (Row.mk_pt (Row.keep0 (by assumption) hK) (by assumption)) _ (Nat.le_of_ble_eq_true rfl)) rfl) ?_
    refine wd_val (fun _ => trivial) rfl rfl (op_pure rfl) ?_
    refine wd_val (fun _ => trivial) rfl rfl (op_pure rfl) ?_
    refine wd_val (fun _ => trivial) rfl rfl (op_pure rfl) ?_
    refine wd_split (i := 41) rfl (fun h41 => ?_) (fun h41 => ?_)
    · simp at h41
    skip
    refine wd_val (fun _ => trivial) rfl rfl (op_pure rfl) ?_
    refine wd_val (fun _ => trivial) rfl rfl (op_pure rfl) ?_
    first | refine wd_val (fun _ => trivial) rfl rfl (op_idxF rfl rfl (by first | exact natA_cast _ _ | exact natA_succ _ _ | exact natA_toNat (by omega) | rfl) rfl rfl rfl rfl (by first | assumption | exact Row.keep0 (by assumption) hK) (by first | omega | (simp; done) | (simp; omega))) ?_ | refine wd_val (fun _ => trivial) rfl rfl (op_idx rfl rfl (by first | exact natA_cast _ _ | exact natA_succ _ _ | exact natA_toNat (by omega) | rfl) rfl rfl rfl rfl (by first | assumption | exact Row.keep0 (by assumption) hK) (by first | omega | (simp; done) | (simp; omega))) ?_
    refine wd_val (fun _ => trivial) rfl rfl (op_fld rfl rfl rfl rfl (by decide) (by first | exact Row.mk_pt (by assumption) (by assumption) | exact Pt.fld (Row.mk_pt (by assumption) (by assumption)) _ (Nat.le_of_ble_eq_true rfl) | exact Row.pt (by assumption) (by assumption) | exact Pt.fld (Row.pt (by assumption) (by assumption)) _ (Nat.le_of_ble_eq_true rfl) | assumption | exact Pt.fld (by assumption) _ (Nat.le_of_ble_eq_true rfl) | exact Row.pt (Row.keep0 (by assumption) hK) (by assumption) | exact Pt.fld (Row.pt (Row.keep0 (by assumption) hK) (by assumption)) _ (Nat.le_of_ble_eq_true rfl) | exact Row.mk_pt (Row.keep0 (by assumption) hK) (by assumption) | exact Pt.fld (Row.mk_pt (Row.keep0 (by assumption) hK) (by assumption)) _ (Nat.le_of_ble_eq_true rfl)) (Nat.le_of_ble_eq_true rfl)) ?_
    refine wd_val (fun _ => trivial) rfl rfl (op_load rfl rfl (by first | exact Row.mk_pt (by assumption) (by assumption) | exact Pt.fld (Row.mk_pt (by assumption) (by assumption)) _ (Nat.le_of_ble_eq_true rfl) | exact Row.pt (by assumption) (by assumption) | exact Pt.fld (Row.pt (by assumption) (by assumption)) _ (Nat.le_of_ble_eq_true rfl) | assumption | exact Pt.fld (by assumption) _ (Nat.le_of_ble_eq_true rfl) | exact Row.pt (Row.keep0 (by assumption) hK) (by assumption) | exact Pt.fld (Row.pt (Row.keep0 (by assumption) hK) (by assumption)) _ (Nat.le_of_ble_eq_true rfl) | exact Row.mk_pt (Row.keep0 (by assumption) hK) (by assumption) | exact Pt.fld (Row.mk_pt (Row.keep0 (by assumption) hK) (by assumption)) _ (Nat.le_of_ble_eq_true rfl)) rfl) ?_
    refine wd_val (fun _ => trivial) rfl rfl (op_pure rfl) ?_
    refine wd_val (fun _ => trivial) rfl rfl (op_pure rfl) ?_
    first | refine wd_val (fun _ => trivial) rfl rfl (op_idxF rfl rfl (by first | exact natA_cast _ _ | exact natA_succ _ _ | exact natA_toNat (by omega) | rfl) rfl rfl rfl rfl (by first | assumption | exact Row.keep0 (by assumption) hK) (by first | omega | (simp; done) | (simp; omega))) ?_ | refine wd_val (fun _ => trivial) rfl rfl (op_idx rfl rfl (by first | exact natA_cast _ _ | exact natA_succ _ _ | exact natA_toNat (by omega) | rfl) rfl rfl rfl rfl (by first | assumption | exact Row.keep0 (by assumption) hK) (by first | omega | (simp; done) | (simp; omega))) ?_
    refine wd_val (fun _ => trivial) rfl rfl (op_fld rfl rfl rfl rfl (by decide) (by first | exact Row.mk_pt (by assumption) (by assumption) | exact Pt.fld (Row.mk_pt (by assumption) (by assumption)) _ (Nat.le_of_ble_eq_true rfl) | exact Row.pt (by assumption) (by assumption) | exact Pt.fld (Row.pt (by assumption) (by assumption)) _ (Nat.le_of_ble_eq_true rfl) | assumption | exact Pt.fld (by assumption) _ (Nat.le_of_ble_eq_true rfl) | exact Row.pt (Row.keep0 (by assumption) hK) (by assumption) | exact Pt.fld (Row.pt (Row.keep0 (by assumption) hK) (by assumption)) _ (Nat.le_of_ble_eq_true rfl) | exact Row.mk_pt (Row.keep0 (by assumption) hK) (by assumption) | exact Pt.fld (Row.mk_pt (Row.keep0 (by assumption) hK) (by assumption)) _ (Nat.le_of_ble_eq_true rfl)) (Nat.le_of_ble_eq_true rfl)) ?_
    refine wd_val (fun _ => trivial) rfl rfl (op_load rfl rfl (by first | exact Row.mk_pt (by assumption) (by assumption) | exact Pt.fld (Row.mk_pt (by assumption) (by assumption)) _ (Nat.le_of_ble_eq_true rfl) | exact Row.pt (by assumption) (by assumption) | exact Pt.fld (Row.pt (by assumption) (by assumption)) _ (Nat.le_of_ble_eq_true rfl) | assumption | exact Pt.fld (by assumption) _ (Nat.le_of_ble_eq_true rfl) | exact Row.pt (Row.keep0 (by assumption) hK) (by assumption) | exact Pt.fld (Row.pt (Row.keep0 (by assumption) hK) (by assumption)) _ (Nat.le_of_ble_eq_true rfl) | exact Row.mk_pt (Row.keep0 (by assumption) hK) (by assumption) | exact Pt.fld (Row.mk_pt (Row.keep0 (by assumption) hK) (by assumption)) _ (Nat.le_of_ble_eq_true rfl)) rfl) ?_
    refine wd_call (fun _ => trivial) rfl rfl (op_call rfl rfl rfl rfl) (strings_same hx1 hta htb) ?_
    rintro _ rfl
    refine wd_val (fun _ => trivial) rfl rfl (op_pure rfl) ?_
    refine wd_val (fun _ => trivial) rfl rfl (op_pure rfl) ?_
    refine wd_val (fun _ => trivial) rfl rfl (op_pure rfl) ?_
    refine wd_val (fun _ => trivial) rfl rfl (op_pure rfl) ?_
    refine wd_val (fun _ => trivial) rfl rfl (op_pure rfl) ?_
    first | refine wd_val (fun _ => trivial) rfl rfl (op_idxF rfl rfl (by first | exact natA_cast _ _ | exact natA_succ _ _ | exact natA_toNat (by omega) | rfl) rfl rfl rfl rfl (by first | assumption | exact Row.keep0 (by assumption) hK) (by first | omega | (simp; done) | (simp; omega))) ?_ | refine wd_val (fun _ => trivial) rfl rfl (op_idx rfl rfl (by first | exact natA_cast _ _ | exact natA_succ _ _ | exact natA_toNat (by omega) | rfl) rfl rfl rfl rfl (by first | assumption | exact Row.keep0 (by assumption) hK) (by first | omega | (simp; done) | (simp; omega))) ?_
    refine wd_val (fun _ => trivial) rfl rfl (op_fld rfl rfl rfl rfl (by decide) (by first | exact Row.mk_pt (by assumption) (by assumption) | exact Pt.fld (Row.mk_pt (by assumption) (by assumption)) _ (Nat.le_of_ble_eq_true rfl) | exact Row.pt (by assumption) (by assumption) | exact Pt.fld (Row.pt (by assumption) (by assumption)) _ (Nat.le_of_ble_eq_true rfl) | assumption | exact Pt.fld (by assumption) _ (Nat.le_of_ble_eq_true rfl) | exact Row.pt (Row.keep0 (by assumption) hK) (by assumption) | exact Pt.fld (Row.pt (Row.keep0 (by assumption) hK) (by assumption)) _ (Nat.le_of_ble_eq_true rfl) | exact Row.mk_pt (Row.keep0 (by assumption) hK) (by assumption) | exact Pt.fld (Row.mk_pt (Row.keep0 (by assumption) hK) (by assumption)) _ (Nat.le_of_ble_eq_true rfl)) (Nat.le_of_ble_eq_true rfl)) ?_
    refine wd_val (fun _ => trivial) rfl rfl (op_load rfl rfl (by first | exact Row.mk_pt (by assumption) (by assumption) | exact Pt.fld (Row.mk_pt (by assumption) (by assumption)) _ (Nat.le_of_ble_eq_true rfl) | exact Row.pt (by assumption) (by assumption) | exact Pt.fld (Row.pt (by assumption) (by assumption)) _ (Nat.le_of_ble_eq_true rfl) | assumption | exact Pt.fld (by assumption) _ (Nat.le_of_ble_eq_true rfl) | exact Row.pt (Row.keep0 (by assumption) hK) (by assumption) | exact Pt.fld (Row.pt (Row.keep0 (by assumption) hK) (by assumption)) _ (Nat.le_of_ble_eq_true rfl) | exact Row.mk_pt (Row.keep0 (by assumption) hK) (by assumption) | exact Pt.fld (Row.mk_pt (Row.keep0 (by assumption) hK) (by assumption)) _ (Nat.le_of_ble_eq_true rfl)) rfl) ?_
    refine wd_val (fun _ => trivial) rfl rfl (op_pure rfl) ?_
    refine wd_val (fun _ => trivial) rfl rfl (op_pure rfl) ?_
    first | refine wd_val (fun _ => trivial) rfl rfl (op_idxF rfl rfl (by first | exact natA_cast _ _ | exact natA_succ _ _ | exact natA_toNat (by omega) | rfl) rfl rfl rfl rfl (by first | assumption | exact Row.keep0 (by assumption) hK) (by first | omega | (simp; done) | (simp; omega))) ?_ | refine wd_val (fun _ => trivial) rfl rfl (op_idx rfl rfl (by first | exact natA_cast _ _ | exact natA_succ _ _ | exact natA_toNat (by omega) | rfl) rfl rfl rfl rfl (by first | assumption | exact Row.keep0 (by assumption) hK) (by first | omega | (simp; done) | (simp; omega))) ?_
    refine wd_val (fun _ => trivial) rfl rfl (op_fld rfl rfl rfl rfl (by decide) (by first | exact Row.mk_pt (by assumption) (by assumption) | exact Pt.fld (Row.mk_pt (by assumption) (by assumption)) _ (Nat.le_of_ble_eq_true rfl) | exact Row.pt (by assumption) (by assumption) | exact Pt.fld (Row.pt (by assumption) (by assumption)) _ (Nat.le_of_ble_eq_true rfl) | assumption | exact Pt.fld (by assumption) _ (Nat.le_of_ble_eq_true rfl) | exact Row.pt (Row.keep0 (by assumption) hK) (by assumption) | exact Pt.fld (Row.pt (Row.keep0 (by assumption) hK) (by assumption)) _ (Nat.le_of_ble_eq_true rfl) | exact Row.mk_pt (Row.keep0 (by assumption) hK) (by assumption) | exact Pt.fld (Row.mk_pt (Row.keep0 (by assumption) hK) (by assumption)) _ (Nat.le_of_ble_eq_true rfl)) (Nat.le_of_ble_eq_true rfl)) ?_
    refine wd_val (fun _ => trivial) rfl rfl (op_load rfl rfl (by first | exact Row.mk_pt (by assumption) (by assumption) | exact Pt.fld (Row.mk_pt (by assumption) (by assumption)) _ (Nat.le_of_ble_eq_true rfl) | exact Row.pt (by assumption) (by assumption) | exact Pt.fld (Row.pt (by assumption) (by assumption)) _ (Nat.le_of_ble_eq_true rfl) | assumption | exact Pt.fld (by assumption) _ (Nat.le_of_ble_eq_true rfl) | exact Row.pt (Row.keep0 (by assumption) hK) (by assumption) | exact Pt.fld (Row.pt (Row.keep0 (by assumption) hK) (by assumption)) _ (Nat.le_of_ble_eq_true rfl) | exact Row.mk_pt (Row.keep0 (by assumption) hK) (by assumption) | exact Pt.fld (Row.mk_pt (Row.keep0 (by assumption) hK) (by assumption)) _ (Nat.le_of_ble_eq_true rfl)) rfl) ?_
    refine wd_call (fun _ => trivial) rfl rfl (op_call rfl rfl rfl rfl) (exprs_same hx2 hx3 hea heb) ?_
    rintro _ rfl
    refine wd_val (fun _ => trivial) rfl rfl (op_pure rfl) ?_
    refine wd_val (fun _ => trivial) rfl rfl (op_pure rfl) ?_
    refine wd_nil ?_
    refine then_n ?_
    refine wc_cond_f rfl ?_
    refine wc_skip ?_
    refine out_n ?_
    refine then_n ?_
    refine wc_region ?_
    refine w_val rfl rfl (op_pure rfl) ?_
    refine w_val rfl rfl (op_add rfl rfl (by unfold In64; omega)) ?_
    refine w_val rfl rfl (op_pure rfl) ?_
    refine w_nil ?_
    exact round_n _ _ (by omega) (Sub.cons rfl (Sub.cons rfl (Sub.cons rfl (Sub.nil _)))) ⟨i + 1, rfl, by omega, rfl, rfl⟩
  skip
  refine wc_exit ?_
  repeat first | refine then_x ?_ | refine round_x ?_ | refine cut_x ?_ | refine out_x' (by decide) ?_
  refine out_x ?_
  refine then_n ?_
  repeat refine wc_seq ?_
  refine wc_region ?_
  refine w_val rfl rfl (op_pure rfl) ?_
  refine w_nil ?_
  refine then_n ?_
  refine wc_ret ?_
  repeat first | refine then_r ?_ | refine out_r ?_ | refine round_r ?_ | refine cut_r ?_
  exact ⟨_, rfl, rfl, rfl⟩
set_option maxRecDepth 10000 in
theorem keptStrings_ok {s : St} {a b : AV} {xs : List ByteArray} (hl : xs.length ≤ 2097152) (ha : Lent s.h 1 sC [.str markB] a xs) (hb : Row s.h 1 b (xs.map sC)) :
    CallS Try.prog Tt 52 [a, b] s (fun v s' => s' = s ∧ v = .bool true) := by
  have hra := ha.row
  obtain ⟨u, rfl, hu, hr⟩ := ha
  have hw := Lent.more hr
  have hpt := hw.mk_pt'
  refine call_of (fn := Try.f52) (nt := 21) Try.func52 rfl rfl ?_
  repeat refine wc_seq ?_
  refine wc_region ?_
  refine w_val rfl rfl (op_pure rfl) ?_
  refine w_nil ?_
  refine then_n ?_
  repeat refine wc_seq ?_
  refine wc_region ?_
  refine w_val rfl rfl (op_pure rfl) ?_
  refine w_val rfl rfl (op_pure rfl) ?_
  refine w_call rfl rfl (op_call rfl rfl rfl rfl) (strings_same hl hra hb) ?_
  rintro _ sX ⟨eX, rfl⟩
  obtain rfl := eX.symm
  refine w_val rfl rfl (op_pure rfl) ?_
  refine w_nil ?_
  refine then_n ?_
  repeat refine wc_seq ?_
  refine wc_cond_f rfl ?_
  refine wc_skip ?_
  refine then_n ?_
  repeat refine wc_seq ?_
  refine wc_region ?_
  refine w_val rfl rfl (op_pure rfl) ?_
  refine w_val rfl rfl (op_pure rfl) ?_
  refine w_val rfl rfl (op_len rfl rfl rfl rfl rfl (by first | assumption | exact Row.slenF (by assumption) | exact Row.slen (by assumption) | rfl)) ?_
  refine w_val rfl rfl (op_add rfl rfl (by unfold In64; omega)) ?_
  refine w_val rfl rfl (op_recut rfl rfl (natA_succ _ _) rfl rfl rfl rfl hr hu (by simp)) ?_
  refine w_val rfl rfl (op_pure rfl) ?_
  refine w_nil ?_
  refine then_n ?_
  repeat refine wc_seq ?_
  refine wc_region ?_
  refine w_val rfl rfl (op_pure rfl) ?_
  refine w_val rfl rfl (op_pure rfl) ?_
  refine w_val rfl rfl (op_len rfl rfl rfl rfl rfl (by first | assumption | exact Row.slenF (by assumption) | exact Row.slen (by assumption) | rfl)) ?_
  first | refine w_val rfl rfl (op_idxF rfl rfl (by first | exact natA_cast _ _ | exact natA_succ _ _ | exact natA_toNat (by omega) | rfl) rfl rfl rfl rfl (by first | assumption | exact Row.keep0 (by assumption) hK) (by first | omega | (simp; done) | (simp; omega))) ?_ | refine w_val rfl rfl (op_idx rfl rfl (by first | exact natA_cast _ _ | exact natA_succ _ _ | exact natA_toNat (by omega) | rfl) rfl rfl rfl rfl (by first | assumption | exact Row.keep0 (by assumption) hK) (by first | omega | (simp; done) | (simp; omega))) ?_
  refine w_val rfl rfl (op_load rfl rfl (by first | exact Row.mk_pt (by assumption) (by assumption) | exact Pt.fld (Row.mk_pt (by assumption) (by assumption)) _ (Nat.le_of_ble_eq_true rfl) | exact Row.pt (by assumption) (by assumption) | exact Pt.fld (Row.pt (by assumption) (by assumption)) _ (Nat.le_of_ble_eq_true rfl) | assumption | exact Pt.fld (by assumption) _ (Nat.le_of_ble_eq_true rfl) | exact Row.pt (Row.keep0 (by assumption) hK) (by assumption) | exact Pt.fld (Row.pt (Row.keep0 (by assumption) hK) (by assumption)) _ (Nat.le_of_ble_eq_true rfl) | exact Row.mk_pt (Row.keep0 (by assumption) hK) (by assumption) | exact Pt.fld (Row.mk_pt (Row.keep0 (by assumption) hK) (by assumption)) _ (Nat.le_of_ble_eq_true rfl)) rfl) ?_
  refine w_val rfl rfl (op_pure rfl) ?_
  refine w_val rfl rfl (op_pure rfl) ?_
  refine w_nil ?_
  refine then_n ?_
  refine wc_ret ?_
  repeat first | refine then_r ?_ | refine out_r ?_ | refine round_r ?_ | refine cut_r ?_
  exact ⟨_, rfl, rfl, congrArg AV.bool (beq_self_eq_true _)⟩
set_option maxRecDepth 10000 in
theorem keptTerms_ok {s : St} {a b : AV} {xs : List TermL} (hl : xs.length ≤ 2097152) (ha : Lent s.h 3 tC [.int .i64 (-71), .int .i64 0, .str ByteArray.empty] a xs) (hb : Row s.h 3 b (xs.map tC)) :
    CallS Try.prog Tt 53 [a, b] s (fun v s' => s' = s ∧ v = .bool true) := by
  have hra := ha.row
  obtain ⟨u, rfl, hu, hr⟩ := ha
  have hw := Lent.more hr
  have hpt := hw.mk_pt'
  refine call_of (fn := Try.f53) (nt := 21) Try.func53 rfl rfl ?_
  repeat refine wc_seq ?_
  refine wc_region ?_
  refine w_val rfl rfl (op_pure rfl) ?_
  refine w_nil ?_
  refine then_n ?_
  repeat refine wc_seq ?_
  refine wc_region ?_
  refine w_val rfl rfl (op_pure rfl) ?_
  refine w_val rfl rfl (op_pure rfl) ?_
  refine w_call rfl rfl (op_call rfl rfl rfl rfl) (terms_same hl hra hb) ?_
  rintro _ sX ⟨eX, rfl⟩
  obtain rfl := eX.symm
  refine w_val rfl rfl (op_pure rfl) ?_
  refine w_val rfl rfl (op_pure rfl) ?_
  refine w_val rfl rfl (op_pure rfl) ?_
  refine w_val rfl rfl (op_len rfl rfl rfl rfl rfl (by first | assumption | exact Row.slenF (by assumption) | exact Row.slen (by assumption) | rfl)) ?_
  refine w_val rfl rfl (op_add rfl rfl (by unfold In64; omega)) ?_
  refine w_val rfl rfl (op_recut rfl rfl (natA_succ _ _) rfl rfl rfl rfl hr hu (by simp)) ?_
  refine w_val rfl rfl (op_pure rfl) ?_
  refine w_val rfl rfl (op_len rfl rfl rfl rfl rfl (by first | assumption | exact Row.slenF (by assumption) | exact Row.slen (by assumption) | rfl)) ?_
  first | refine w_val rfl rfl (op_idxF rfl rfl (by first | exact natA_cast _ _ | exact natA_succ _ _ | exact natA_toNat (by omega) | rfl) rfl rfl rfl rfl (by first | assumption | exact Row.keep0 (by assumption) hK) (by first | omega | (simp; done) | (simp; omega))) ?_ | refine w_val rfl rfl (op_idx rfl rfl (by first | exact natA_cast _ _ | exact natA_succ _ _ | exact natA_toNat (by omega) | rfl) rfl rfl rfl rfl (by first | assumption | exact Row.keep0 (by assumption) hK) (by first | omega | (simp; done) | (simp; omega))) ?_
  refine w_val rfl rfl (op_fld rfl rfl rfl rfl (by decide) (by first | exact Row.mk_pt (by assumption) (by assumption) | exact Pt.fld (Row.mk_pt (by assumption) (by assumption)) _ (Nat.le_of_ble_eq_true rfl) | exact Row.pt (by assumption) (by assumption) | exact Pt.fld (Row.pt (by assumption) (by assumption)) _ (Nat.le_of_ble_eq_true rfl) | assumption | exact Pt.fld (by assumption) _ (Nat.le_of_ble_eq_true rfl) | exact Row.pt (Row.keep0 (by assumption) hK) (by assumption) | exact Pt.fld (Row.pt (Row.keep0 (by assumption) hK) (by assumption)) _ (Nat.le_of_ble_eq_true rfl) | exact Row.mk_pt (Row.keep0 (by assumption) hK) (by assumption) | exact Pt.fld (Row.mk_pt (Row.keep0 (by assumption) hK) (by assumption)) _ (Nat.le_of_ble_eq_true rfl)) (Nat.le_of_ble_eq_true rfl)) ?_
  refine w_val rfl rfl (op_load rfl rfl (by first | exact Row.mk_pt (by assumption) (by assumption) | exact Pt.fld (Row.mk_pt (by assumption) (by assumption)) _ (Nat.le_of_ble_eq_true rfl) | exact Row.pt (by assumption) (by assumption) | exact Pt.fld (Row.pt (by assumption) (by assumption)) _ (Nat.le_of_ble_eq_true rfl) | assumption | exact Pt.fld (by assumption) _ (Nat.le_of_ble_eq_true rfl) | exact Row.pt (Row.keep0 (by assumption) hK) (by assumption) | exact Pt.fld (Row.pt (Row.keep0 (by assumption) hK) (by assumption)) _ (Nat.le_of_ble_eq_true rfl) | exact Row.mk_pt (Row.keep0 (by assumption) hK) (by assumption) | exact Pt.fld (Row.mk_pt (Row.keep0 (by assumption) hK) (by assumption)) _ (Nat.le_of_ble_eq_true rfl)) rfl) ?_
  refine w_val rfl rfl (op_pure rfl) ?_
  refine w_val rfl rfl (op_pure rfl) ?_
  refine w_val rfl rfl (op_pure rfl) ?_
  refine w_nil ?_
  refine then_n ?_
  refine wc_ret ?_
  repeat first | refine then_r ?_ | refine out_r ?_ | refine round_r ?_ | refine cut_r ?_
  exact ⟨_, rfl, rfl, rfl⟩
set_option maxRecDepth 10000 in
theorem keptStmts_ok {s : St} {a b : AV} {xs : List StmtL} (hl : xs.length ≤ 2097152) (hll : ∀ x ∈ xs, x.small) (ha : LentR s.h 4 StmtLR [.int .i64 (-71), .str ByteArray.empty, .nils, .nils] a xs) (hb : RowR s.h 4 StmtR b xs) :
    CallS Try.prog Tt 15 [a, b] s (fun v s' => s' = s ∧ v = .bool true) := by
  have hAR := ha.row StmtLR.to
  have hBR := hb
  obtain ⟨csb, hb, hlb, hB⟩ := hb
  obtain ⟨u, csa, rfl, hu, hr, hla, hA⟩ := ha
  have hra := hr.less hla
  have hw := hr.more hla
  have hpt := hw.mark hla
  have hsa : (cutA u 0 xs.length).slen = some xs.length := hra.slen.trans (congrArg some hla)
  have hsb : b.slen = some xs.length := hb.slen.trans (congrArg some hlb)
  refine call_of (fn := Try.f15) (nt := 86) Try.func15 rfl rfl ?_
  repeat refine wc_seq ?_
  refine wc_region ?_
  refine w_val rfl rfl (op_pure rfl) ?_
  refine w_nil ?_
  refine then_n ?_
  repeat refine wc_seq ?_
  refine wc_region ?_
  refine w_val rfl rfl (op_pure rfl) ?_
  refine w_val rfl rfl (op_pure rfl) ?_
  refine w_call rfl rfl (op_call rfl rfl rfl rfl) (stmts_same hl hll hAR hBR) ?_
  rintro _ sX ⟨eX, rfl⟩
  obtain rfl := eX.symm
  refine w_val rfl rfl (op_pure rfl) ?_
  refine w_val rfl rfl (op_pure rfl) ?_
  refine w_val rfl rfl (op_pure rfl) ?_
  refine w_val rfl rfl (op_pure rfl) ?_
  refine w_val rfl rfl (op_len rfl rfl rfl rfl rfl (by first | assumption | exact Row.slenF (by assumption) | exact Row.slen (by assumption) | rfl)) ?_
  refine w_val rfl rfl (op_add rfl rfl (by unfold In64; omega)) ?_
  refine w_val rfl rfl (op_recut rfl rfl (natA_succ _ _) rfl rfl rfl rfl hr hu (by simp; omega)) ?_
  refine w_val rfl rfl (op_pure rfl) ?_
  refine w_val rfl rfl (op_len rfl rfl rfl rfl rfl (by first | assumption | exact Row.slenF (by assumption) | exact Row.slen (by assumption) | rfl)) ?_
  first | refine w_val rfl rfl (op_idxF rfl rfl (by first | exact natA_cast _ _ | exact natA_succ _ _ | exact natA_toNat (by omega) | rfl) rfl rfl rfl rfl (by first | assumption | exact Row.keep0 (by assumption) hK) (by first | omega | (simp; done) | (simp; omega))) ?_ | refine w_val rfl rfl (op_idx rfl rfl (by first | exact natA_cast _ _ | exact natA_succ _ _ | exact natA_toNat (by omega) | rfl) rfl rfl rfl rfl (by first | assumption | exact Row.keep0 (by assumption) hK) (by first | omega | (simp; done) | (simp; omega))) ?_
  refine w_val rfl rfl (op_fld rfl rfl rfl rfl (by decide) (by first | exact Row.mk_pt (by assumption) (by assumption) | exact Pt.fld (Row.mk_pt (by assumption) (by assumption)) _ (Nat.le_of_ble_eq_true rfl) | exact Row.pt (by assumption) (by assumption) | exact Pt.fld (Row.pt (by assumption) (by assumption)) _ (Nat.le_of_ble_eq_true rfl) | assumption | exact Pt.fld (by assumption) _ (Nat.le_of_ble_eq_true rfl) | exact Row.pt (Row.keep0 (by assumption) hK) (by assumption) | exact Pt.fld (Row.pt (Row.keep0 (by assumption) hK) (by assumption)) _ (Nat.le_of_ble_eq_true rfl) | exact Row.mk_pt (Row.keep0 (by assumption) hK) (by assumption) | exact Pt.fld (Row.mk_pt (Row.keep0 (by assumption) hK) (by assumption)) _ (Nat.le_of_ble_eq_true rfl)) (Nat.le_of_ble_eq_true rfl)) ?_
  refine w_val rfl rfl (op_load rfl rfl (by first | exact Row.mk_pt (by assumption) (by assumption) | exact Pt.fld (Row.mk_pt (by assumption) (by assumption)) _ (Nat.le_of_ble_eq_true rfl) | exact Row.pt (by assumption) (by assumption) | exact Pt.fld (Row.pt (by assumption) (by assumption)) _ (Nat.le_of_ble_eq_true rfl) | assumption | exact Pt.fld (by assumption) _ (Nat.le_of_ble_eq_true rfl) | exact Row.pt (Row.keep0 (by assumption) hK) (by assumption) | exact Pt.fld (Row.pt (Row.keep0 (by assumption) hK) (by assumption)) _ (Nat.le_of_ble_eq_true rfl) | exact Row.mk_pt (Row.keep0 (by assumption) hK) (by assumption) | exact Pt.fld (Row.mk_pt (Row.keep0 (by assumption) hK) (by assumption)) _ (Nat.le_of_ble_eq_true rfl)) rfl) ?_
  refine w_val rfl rfl (op_pure rfl) ?_
  refine w_val rfl rfl (op_pure rfl) ?_
  refine w_nil ?_
  refine then_n ?_
  repeat refine wc_seq ?_
  refine wc_condT rfl (fun h24 => ?_) (fun h24 => ?_)
  · simp at h24
  skip
  refine wc_skip ?_
  refine then_n ?_
  repeat refine wc_seq ?_
  refine wc_region ?_
  refine w_val rfl rfl (op_pure rfl) ?_
  refine w_nil ?_
  refine then_n ?_
  repeat refine wc_seq ?_
  refine wc_block ?_
  refine wc_loop_at (fun j m s' => ∃ i : Nat, j = xs.length - i ∧ i ≤ xs.length ∧ s' = s ∧ m = [(0, cutA u 0 xs.length), (1, b), (5, .int .i64 (i : Nat))]) xs.length
    [(0, cutA u 0 xs.length), (1, b), (5, .int .i64 ((0 : Nat) : Int))] (Sub.cons rfl (Sub.cons rfl (Sub.cons rfl (Sub.nil _)))) ⟨0, by simp, by simp, rfl, rfl⟩ ?_
  rintro j m sX ⟨i, rfl, hi, eX, rfl⟩
  obtain rfl := eX.symm
  repeat refine wc_seq ?_
  refine wc_region ?_
  refine w_val rfl rfl (op_pure rfl) ?_
  refine w_val rfl rfl (op_pure rfl) ?_
  refine w_val rfl rfl (op_len rfl rfl rfl rfl rfl (by first | assumption | exact Row.slenF (by assumption) | exact Row.slen (by assumption) | rfl)) ?_
  refine w_val rfl rfl (op_pure rfl) ?_
  refine w_nil ?_
  refine then_n ?_
  repeat refine wc_seq ?_
  refine wc_condT rfl (fun h28 => ?_) (fun h28 => ?_)
  · simp at h28
    refine wc_skip ?_
    refine then_n ?_
    repeat refine wc_seq ?_
    refine wc_block ?_
    repeat refine wc_seq ?_
    obtain ⟨x, hx⟩ : ∃ x, xs[i]? = some x := ⟨_, List.getElem?_eq_getElem h28⟩
    obtain ⟨ca, hca⟩ : ∃ c, csa[i]? = some c := ⟨_, List.getElem?_eq_getElem (by omega)⟩
    obtain ⟨cb, hcb⟩ : ∃ c, csb[i]? = some c := ⟨_, List.getElem?_eq_getElem (by omega)⟩
    obtain ⟨vta, vea, rfl, hta, hea⟩ := hA i x ca hx hca
    obtain ⟨vtb, vEB, rfl, htb, heb⟩ := hB i x cb hx hcb
    obtain ⟨hx1, hx2, hx3⟩ := hll x (List.mem_of_getElem? hx)
    obtain ⟨csf, hef, hlf, hF⟩ := heb
    obtain ⟨ue, cse, rfl, hue, hre, hle, hE⟩ := hea
    have hrl := hre.less hle
    have hrm := hre.more hle
    have hpe := hrm.mark hle
    have hsf : vEB.slen = some x.exprs.length := hef.slen.trans (congrArg some hlf)
    refine wc_region ?_
    refine w_val rfl rfl (op_pure rfl) ?_
    refine w_val rfl rfl (op_pure rfl) ?_
    first | refine w_val rfl rfl (op_idxF rfl rfl (by first | exact natA_cast _ _ | exact natA_succ _ _ | exact natA_toNat (by omega) | rfl) rfl rfl rfl rfl (by first | assumption | exact Row.keep0 (by assumption) hK) (by first | omega | (simp; done) | (simp; omega))) ?_ | refine w_val rfl rfl (op_idx rfl rfl (by first | exact natA_cast _ _ | exact natA_succ _ _ | exact natA_toNat (by omega) | rfl) rfl rfl rfl rfl (by first | assumption | exact Row.keep0 (by assumption) hK) (by first | omega | (simp; done) | (simp; omega))) ?_
    refine w_val rfl rfl (op_fld rfl rfl rfl rfl (by decide) (by first | exact Row.mk_pt (by assumption) (by assumption) | exact Pt.fld (Row.mk_pt (by assumption) (by assumption)) _ (Nat.le_of_ble_eq_true rfl) | exact Row.pt (by assumption) (by assumption) | exact Pt.fld (Row.pt (by assumption) (by assumption)) _ (Nat.le_of_ble_eq_true rfl) | assumption | exact Pt.fld (by assumption) _ (Nat.le_of_ble_eq_true rfl) | exact Row.pt (Row.keep0 (by assumption) hK) (by assumption) | exact Pt.fld (Row.pt (Row.keep0 (by assumption) hK) (by assumption)) _ (Nat.le_of_ble_eq_true rfl) | exact Row.mk_pt (Row.keep0 (by assumption) hK) (by assumption) | exact Pt.fld (Row.mk_pt (Row.keep0 (by assumption) hK) (by assumption)) _ (Nat.le_of_ble_eq_true rfl)) (Nat.le_of_ble_eq_true rfl)) ?_
    refine w_val rfl rfl (op_load rfl rfl (by first | exact Row.mk_pt (by assumption) (by assumption) | exact Pt.fld (Row.mk_pt (by assumption) (by assumption)) _ (Nat.le_of_ble_eq_true rfl) | exact Row.pt (by assumption) (by assumption) | exact Pt.fld (Row.pt (by assumption) (by assumption)) _ (Nat.le_of_ble_eq_true rfl) | assumption | exact Pt.fld (by assumption) _ (Nat.le_of_ble_eq_true rfl) | exact Row.pt (Row.keep0 (by assumption) hK) (by assumption) | exact Pt.fld (Row.pt (Row.keep0 (by assumption) hK) (by assumption)) _ (Nat.le_of_ble_eq_true rfl) | exact Row.mk_pt (Row.keep0 (by assumption) hK) (by assumption) | exact Pt.fld (Row.mk_pt (Row.keep0 (by assumption) hK) (by assumption)) _ (Nat.le_of_ble_eq_true rfl)) rfl) ?_
    refine w_val rfl rfl (op_len rfl rfl rfl rfl rfl (by first | assumption | exact Row.slenF (by assumption) | exact Row.slen (by assumption) | rfl)) ?_
    refine w_val rfl rfl (op_pure rfl) ?_
    refine w_nil ?_
    refine then_n ?_
    repeat refine wc_seq ?_
    refine wc_draw (fun _ => True) (by kernel_rfl) rfl ?_
    refine wd_val (fun _ => trivial) rfl rfl (op_pure rfl) ?_
    refine wd_val (fun _ => trivial) rfl rfl (op_pure rfl) ?_
    first | refine wd_val (fun _ => trivial) rfl rfl (op_idxF rfl rfl (by first | exact natA_cast _ _ | exact natA_succ _ _ | exact natA_toNat (by omega) | rfl) rfl rfl rfl rfl (by first | assumption | exact Row.keep0 (by assumption) hK) (by first | omega | (simp; done) | (simp; omega))) ?_ | refine wd_val (fun _ => trivial) rfl rfl (op_idx rfl rfl (by first | exact natA_cast _ _ | exact natA_succ _ _ | exact natA_toNat (by omega) | rfl) rfl rfl rfl rfl (by first | assumption | exact Row.keep0 (by assumption) hK) (by first | omega | (simp; done) | (simp; omega))) ?_
    refine wd_val (fun _ => trivial) rfl rfl (op_fld rfl rfl rfl rfl (by decide) (by first | exact Row.mk_pt (by assumption) (by assumption) | exact Pt.fld (Row.mk_pt (by assumption) (by assumption)) _ (Nat.le_of_ble_eq_true rfl) | exact Row.pt (by assumption) (by assumption) | exact Pt.fld (Row.pt (by assumption) (by assumption)) _ (Nat.le_of_ble_eq_true rfl) | assumption | exact Pt.fld (by assumption) _ (Nat.le_of_ble_eq_true rfl) | exact Row.pt (Row.keep0 (by assumption) hK) (by assumption) | exact Pt.fld (Row.pt (Row.keep0 (by assumption) hK) (by assumption)) _ (Nat.le_of_ble_eq_true rfl) | exact Row.mk_pt (Row.keep0 (by assumption) hK) (by assumption) | exact Pt.fld (Row.mk_pt (Row.keep0 (by assumption) hK) (by assumption)) _ (Nat.le_of_ble_eq_true rfl)) (Nat.le_of_ble_eq_true rfl)) ?_
    refine wd_val (fun _ => trivial) rfl rfl (op_load rfl rfl (by first | exact Row.mk_pt (by assumption) (by assumption) | exact Pt.fld (Row.mk_pt (by assumption) (by assumption)) _ (Nat.le_of_ble_eq_true rfl) | exact Row.pt (by assumption) (by assumption) | exact Pt.fld (Row.pt (by assumption) (by assumption)) _ (Nat.le_of_ble_eq_true rfl) | assumption | exact Pt.fld (by assumption) _ (Nat.le_of_ble_eq_true rfl) | exact Row.pt (Row.keep0 (by assumption) hK) (by assumption) | exact Pt.fld (Row.pt (Row.keep0 (by assumption) hK) (by assumption)) _ (Nat.le_of_ble_eq_true rfl) | exact Row.mk_pt (Row.keep0 (by assumption) hK) (by assumption) | exact Pt.fld (Row.mk_pt (Row.keep0 (by assumption) hK) (by assumption)) _ (Nat.le_of_ble_eq_true rfl)) rfl) ?_
    refine wd_val (fun _ => trivial) rfl rfl (op_pure rfl) ?_
    refine wd_val (fun _ => trivial) rfl rfl (op_pure rfl) ?_
    first | refine wd_val (fun _ => trivial) rfl rfl (op_idxF rfl rfl (by first | exact natA_cast _ _ | exact natA_succ _ _ | exact natA_toNat (by omega) | rfl) rfl rfl rfl rfl (by first | assumption | exact Row.keep0 (by assumption) hK) (by first | omega | (simp; done) | (simp; omega))) ?_ | refine wd_val (fun _ => trivial) rfl rfl (op_idx rfl rfl (by first | exact natA_cast _ _ | exact natA_succ _ _ | exact natA_toNat (by omega) | rfl) rfl rfl rfl rfl (by first | assumption | exact Row.keep0 (by assumption) hK) (by first | omega | (simp; done) | (simp; omega))) ?_
    refine wd_val (fun _ => trivial) rfl rfl (op_fld rfl rfl rfl rfl (by decide) (by first | exact Row.mk_pt (by assumption) (by assumption) | exact Pt.fld (Row.mk_pt (by assumption) (by assumption)) _ (Nat.le_of_ble_eq_true rfl) | exact Row.pt (by assumption) (by assumption) | exact Pt.fld (Row.pt (by assumption) (by assumption)) _ (Nat.le_of_ble_eq_true rfl) | assumption | exact Pt.fld (by assumption) _ (Nat.le_of_ble_eq_true rfl) | exact Row.pt (Row.keep0 (by assumption) hK) (by assumption) | exact Pt.fld (Row.pt (Row.keep0 (by assumption) hK) (by assumption)) _ (Nat.le_of_ble_eq_true rfl) | exact Row.mk_pt (Row.keep0 (by assumption) hK) (by assumption) | exact Pt.fld (Row.mk_pt (Row.keep0 (by assumption) hK) (by assumption)) _ (Nat.le_of_ble_eq_true rfl)) (Nat.le_of_ble_eq_true rfl)) ?_
    refine wd_val (fun _ => trivial) rfl rfl (op_load rfl rfl (by first | exact Row.mk_pt (by assumption) (by assumption) | exact Pt.fld (Row.mk_pt (by assumption) (by assumption)) _ (Nat.le_of_ble_eq_true rfl) | exact Row.pt (by assumption) (by assumption) | exact Pt.fld (Row.pt (by assumption) (by assumption)) _ (Nat.le_of_ble_eq_true rfl) | assumption | exact Pt.fld (by assumption) _ (Nat.le_of_ble_eq_true rfl) | exact Row.pt (Row.keep0 (by assumption) hK) (by assumption) | exact Pt.fld (Row.pt (Row.keep0 (by assumption) hK) (by assumption)) _ (Nat.le_of_ble_eq_true rfl) | exact Row.mk_pt (Row.keep0 (by assumption) hK) (by assumption) | exact Pt.fld (Row.mk_pt (Row.keep0 (by assumption) hK) (by assumption)) _ (Nat.le_of_ble_eq_true rfl)) rfl) ?_
    refine wd_call (fun _ => trivial) rfl rfl (op_call rfl rfl rfl rfl) (keptStrings_ok hx1 hta htb) ?_
    rintro _ rfl
    refine wd_val (fun _ => trivial) rfl rfl (op_pure rfl) ?_
    refine wd_val (fun _ => trivial) rfl rfl (op_pure rfl) ?_
    refine wd_val (fun _ => trivial) rfl rfl (op_pure rfl) ?_
    refine wd_val (fun _ => trivial) rfl rfl (op_pure rfl) ?_
    first | refine wd_val (fun _ => trivial) rfl rfl (op_idxF rfl rfl (by first | exact natA_cast _ _ | exact natA_succ _ _ | exact natA_toNat (by omega) | rfl) rfl rfl rfl rfl (by first | assumption | exact Row.keep0 (by assumption) hK) (by first | omega | (simp; done) | (simp; omega))) ?_ | refine wd_val (fun _ => trivial) rfl rfl (op_idx rfl rfl (by first | exact natA_cast _ _ | exact natA_succ _ _ | exact natA_toNat (by omega) | rfl) rfl rfl rfl rfl (by first | assumption | exact Row.keep0 (by assumption) hK) (by first | omega | (simp; done) | (simp; omega))) ?_
    refine wd_val (fun _ => trivial) rfl rfl (op_fld rfl rfl rfl rfl (by decide) (by first | exact Row.mk_pt (by assumption) (by assumption) | exact Pt.fld (Row.mk_pt (by assumption) (by assumption)) _ (Nat.le_of_ble_eq_true rfl) | exact Row.pt (by assumption) (by assumption) | exact Pt.fld (Row.pt (by assumption) (by assumption)) _ (Nat.le_of_ble_eq_true rfl) | assumption | exact Pt.fld (by assumption) _ (Nat.le_of_ble_eq_true rfl) | exact Row.pt (Row.keep0 (by assumption) hK) (by assumption) | exact Pt.fld (Row.pt (Row.keep0 (by assumption) hK) (by assumption)) _ (Nat.le_of_ble_eq_true rfl) | exact Row.mk_pt (Row.keep0 (by assumption) hK) (by assumption) | exact Pt.fld (Row.mk_pt (Row.keep0 (by assumption) hK) (by assumption)) _ (Nat.le_of_ble_eq_true rfl)) (Nat.le_of_ble_eq_true rfl)) ?_
    refine wd_val (fun _ => trivial) rfl rfl (op_load rfl rfl (by first | exact Row.mk_pt (by assumption) (by assumption) | exact Pt.fld (Row.mk_pt (by assumption) (by assumption)) _ (Nat.le_of_ble_eq_true rfl) | exact Row.pt (by assumption) (by assumption) | exact Pt.fld (Row.pt (by assumption) (by assumption)) _ (Nat.le_of_ble_eq_true rfl) | assumption | exact Pt.fld (by assumption) _ (Nat.le_of_ble_eq_true rfl) | exact Row.pt (Row.keep0 (by assumption) hK) (by assumption) | exact Pt.fld (Row.pt (Row.keep0 (by assumption) hK) (by assumption)) _ (Nat.le_of_ble_eq_true rfl) | exact Row.mk_pt (Row.keep0 (by assumption) hK) (by assumption) | exact Pt.fld (Row.mk_pt (Row.keep0 (by assumption) hK) (by assumption)) _ (Nat.le_of_ble_eq_true rfl)) rfl) ?_
    refine wd_val (fun _ => trivial) rfl rfl (op_pure rfl) ?_
    refine wd_val (fun _ => trivial) rfl rfl (op_add rfl rfl (by unfold In64; omega)) ?_
    refine wd_val (fun _ => trivial) rfl rfl (op_recut rfl rfl (natA_succ _ _) rfl rfl rfl rfl hre hue (by simp; omega)) ?_
    refine wd_val (fun _ => trivial) rfl rfl (op_pure rfl) ?_
    first | refine wd_val (fun _ => trivial) rfl rfl (op_idxF rfl rfl (by first | exact natA_cast _ _ | exact natA_succ _ _ | exact natA_toNat (by omega) | rfl) rfl rfl rfl rfl (by first | assumption | exact Row.keep0 (by assumption) hK) (by first | omega | (simp; done) | (simp; omega))) ?_ | refine wd_val (fun _ => trivial) rfl rfl (op_idx rfl rfl (by first | exact natA_cast _ _ | exact natA_succ _ _ | exact natA_toNat (by omega) | rfl) rfl rfl rfl rfl (by first | assumption | exact Row.keep0 (by assumption) hK) (by first | omega | (simp; done) | (simp; omega))) ?_
    refine wd_val (fun _ => trivial) rfl rfl (op_load rfl rfl (by first | exact Row.mk_pt (by assumption) (by assumption) | exact Pt.fld (Row.mk_pt (by assumption) (by assumption)) _ (Nat.le_of_ble_eq_true rfl) | exact Row.pt (by assumption) (by assumption) | exact Pt.fld (Row.pt (by assumption) (by assumption)) _ (Nat.le_of_ble_eq_true rfl) | assumption | exact Pt.fld (by assumption) _ (Nat.le_of_ble_eq_true rfl) | exact Row.pt (Row.keep0 (by assumption) hK) (by assumption) | exact Pt.fld (Row.pt (Row.keep0 (by assumption) hK) (by assumption)) _ (Nat.le_of_ble_eq_true rfl) | exact Row.mk_pt (Row.keep0 (by assumption) hK) (by assumption) | exact Pt.fld (Row.mk_pt (Row.keep0 (by assumption) hK) (by assumption)) _ (Nat.le_of_ble_eq_true rfl)) rfl) ?_
    refine wd_val (fun _ => trivial) rfl rfl (op_pure rfl) ?_
    refine wd_val (fun _ => trivial) rfl rfl (op_pure rfl) ?_
    refine wd_nil ?_
    refine then_n ?_
    repeat refine wc_seq ?_
    refine wc_condT rfl (fun h62 => ?_) (fun h62 => ?_)
    · simp at h62
    skip
    refine wc_skip ?_
    refine then_n ?_
    repeat refine wc_seq ?_
    refine wc_region ?_
    refine w_val rfl rfl (op_pure rfl) ?_
    refine w_nil ?_
    refine then_n ?_
    refine wc_block ?_
    refine wc_loop_at (fun j m s1 => ∃ k : Nat, j = x.exprs.length - k ∧ k ≤ x.exprs.length ∧ s1 = s ∧ m = [(0, cutA u 0 xs.length), (1, b), (5, .int .i64 (i : Nat)), (6, .int .i64 (x.exprs.length : Nat)), (7, .int .i64 (k : Nat))]) x.exprs.length
      [(0, cutA u 0 xs.length), (1, b), (5, .int .i64 (i : Nat)), (6, .int .i64 (x.exprs.length : Nat)), (7, .int .i64 ((0 : Nat) : Int))] (Sub.cons rfl (Sub.cons rfl (Sub.cons rfl (Sub.cons rfl (Sub.cons rfl (Sub.nil _)))))) ⟨0, by simp, by simp, rfl, rfl⟩ ?_
    rintro j1 m1 sX ⟨k, rfl, hk, eX, rfl⟩
    obtain rfl := eX.symm
    repeat refine wc_seq ?_
    refine wc_region ?_
    refine w_val rfl rfl (op_pure rfl) ?_
    refine w_val rfl rfl (op_pure rfl) ?_
    refine w_val rfl rfl (op_pure rfl) ?_
    refine w_nil ?_
    refine then_n ?_
    repeat refine wc_seq ?_
    refine wc_condT rfl (fun h65 => ?_) (fun h65 => ?_)
    · simp at h65
      refine wc_skip ?_
      refine then_n ?_
      repeat refine wc_seq ?_
      refine wc_block ?_
      repeat refine wc_seq ?_
      obtain ⟨ts, hts⟩ : ∃ x', x.exprs[k]? = some x' := ⟨_, List.getElem?_eq_getElem h65⟩
      obtain ⟨ce, hce⟩ : ∃ c, cse[k]? = some c := ⟨_, List.getElem?_eq_getElem (by omega)⟩
      obtain ⟨cf, hcf⟩ : ∃ c, csf[k]? = some c := ⟨_, List.getElem?_eq_getElem (by omega)⟩
      obtain ⟨ve1, rfl, hve1⟩ := hE k ts ce hts hce
      obtain ⟨vf1, rfl, hvf1⟩ := hF k ts cf hts hcf
      have htl := hx3 ts (List.mem_of_getElem? hts)
      refine wc_draw (fun _ => True) (by kernel_rfl) rfl ?_
      refine wd_val (fun _ => trivial) rfl rfl (op_pure rfl) ?_
      refine wd_val (fun _ => trivial) rfl rfl (op_pure rfl) ?_
      first | refine wd_val (fun _ => trivial) rfl rfl (op_idxF rfl rfl (by first | exact natA_cast _ _ | exact natA_succ _ _ | exact natA_toNat (by omega) | rfl) rfl rfl rfl rfl (by first | assumption | exact Row.keep0 (by assumption) hK) (by first | omega | (simp; done) | (simp; omega))) ?_ | refine wd_val (fun _ => trivial) rfl rfl (op_idx rfl rfl (by first | exact natA_cast _ _ | exact natA_succ _ _ | exact natA_toNat (by omega) | rfl) rfl rfl rfl rfl (by first | assumption | exact Row.keep0 (by assumption) hK) (by first | omega | (simp; done) | (simp; omega))) ?_
      refine wd_val (fun _ => trivial) rfl rfl (op_fld rfl rfl rfl rfl (by decide) (by first | exact Row.mk_pt (by assumption) (by assumption) | exact Pt.fld (Row.mk_pt (by assumption) (by assumption)) _ (Nat.le_of_ble_eq_true rfl) | exact Row.pt (by assumption) (by assumption) | exact Pt.fld (Row.pt (by assumption) (by assumption)) _ (Nat.le_of_ble_eq_true rfl) | assumption | exact Pt.fld (by assumption) _ (Nat.le_of_ble_eq_true rfl) | exact Row.pt (Row.keep0 (by assumption) hK) (by assumption) | exact Pt.fld (Row.pt (Row.keep0 (by assumption) hK) (by assumption)) _ (Nat.le_of_ble_eq_true rfl) | exact Row.mk_pt (Row.keep0 (by assumption) hK) (by assumption) | exact Pt.fld (Row.mk_pt (Row.keep0 (by assumption) hK) (by assumption)) _ (Nat.le_of_ble_eq_true rfl)) (Nat.le_of_ble_eq_true rfl)) ?_
      refine wd_val (fun _ => trivial) rfl rfl (op_load rfl rfl (by first | exact Row.mk_pt (by assumption) (by assumption) | exact Pt.fld (Row.mk_pt (by assumption) (by assumption)) _ (Nat.le_of_ble_eq_true rfl) | exact Row.pt (by assumption) (by assumption) | exact Pt.fld (Row.pt (by assumption) (by assumption)) _ (Nat.le_of_ble_eq_true rfl) | assumption | exact Pt.fld (by assumption) _ (Nat.le_of_ble_eq_true rfl) | exact Row.pt (Row.keep0 (by assumption) hK) (by assumption) | exact Pt.fld (Row.pt (Row.keep0 (by assumption) hK) (by assumption)) _ (Nat.le_of_ble_eq_true rfl) | exact Row.mk_pt (Row.keep0 (by assumption) hK) (by assumption) | exact Pt.fld (Row.mk_pt (Row.keep0 (by assumption) hK) (by assumption)) _ (Nat.le_of_ble_eq_true rfl)) rfl) ?_
      refine wd_val (fun _ => trivial) rfl rfl (op_pure rfl) ?_
      first | refine wd_val (fun _ => trivial) rfl rfl (op_idxF rfl rfl (by first | exact natA_cast _ _ | exact natA_succ _ _ | exact natA_toNat (by omega) | rfl) rfl rfl rfl rfl (by first | assumption | exact Row.keep0 (by assumption) hK) (by first | omega | (simp; done) | (simp; omega))) ?_ | refine wd_val (fun _ => trivial) rfl rfl (op_idx rfl rfl (by first | exact natA_cast _ _ | exact natA_succ _ _ | exact natA_toNat (by omega) | rfl) rfl rfl rfl rfl (by first | assumption | exact Row.keep0 (by assumption) hK) (by first | omega | (simp; done) | (simp; omega))) ?_
      refine wd_val (fun _ => trivial) rfl rfl (op_load rfl rfl (by first | exact Row.mk_pt (by assumption) (by assumption) | exact Pt.fld (Row.mk_pt (by assumption) (by assumption)) _ (Nat.le_of_ble_eq_true rfl) | exact Row.pt (by assumption) (by assumption) | exact Pt.fld (Row.pt (by assumption) (by assumption)) _ (Nat.le_of_ble_eq_true rfl) | assumption | exact Pt.fld (by assumption) _ (Nat.le_of_ble_eq_true rfl) | exact Row.pt (Row.keep0 (by assumption) hK) (by assumption) | exact Pt.fld (Row.pt (Row.keep0 (by assumption) hK) (by assumption)) _ (Nat.le_of_ble_eq_true rfl) | exact Row.mk_pt (Row.keep0 (by assumption) hK) (by assumption) | exact Pt.fld (Row.mk_pt (Row.keep0 (by assumption) hK) (by assumption)) _ (Nat.le_of_ble_eq_true rfl)) rfl) ?_
      refine wd_val (fun _ => trivial) rfl rfl (op_pure rfl) ?_
      refine wd_val (fun _ => trivial) rfl rfl (op_pure rfl) ?_
      first | refine wd_val (fun _ => trivial) rfl rfl (op_idxF rfl rfl (by first | exact natA_cast _ _ | exact natA_succ _ _ | exact natA_toNat (by omega) | rfl) rfl rfl rfl rfl (by first | assumption | exact Row.keep0 (by assumption) hK) (by first | omega | (simp; done) | (simp; omega))) ?_ | refine wd_val (fun _ => trivial) rfl rfl (op_idx rfl rfl (by first | exact natA_cast _ _ | exact natA_succ _ _ | exact natA_toNat (by omega) | rfl) rfl rfl rfl rfl (by first | assumption | exact Row.keep0 (by assumption) hK) (by first | omega | (simp; done) | (simp; omega))) ?_
      refine wd_val (fun _ => trivial) rfl rfl (op_fld rfl rfl rfl rfl (by decide) (by first | exact Row.mk_pt (by assumption) (by assumption) | exact Pt.fld (Row.mk_pt (by assumption) (by assumption)) _ (Nat.le_of_ble_eq_true rfl) | exact Row.pt (by assumption) (by assumption) | exact Pt.fld (Row.pt (by assumption) (by assumption)) _ (Nat.le_of_ble_eq_true rfl) | assumption | exact Pt.fld (by assumption) _ (Nat.le_of_ble_eq_true rfl) | exact Row.pt (Row.keep0 (by assumption) hK) (by assumption) | exact Pt.fld (Row.pt (Row.keep0 (by assumption) hK) (by assumption)) _ (Nat.le_of_ble_eq_true rfl) | exact Row.mk_pt (Row.keep0 (by assumption) hK) (by assumption) | exact Pt.fld (Row.mk_pt (Row.keep0 (by assumption) hK) (by assumption)) _ (Nat.le_of_ble_eq_true rfl)) (Nat.le_of_ble_eq_true rfl)) ?_
      refine wd_val (fun _ => trivial) rfl rfl (op_load rfl rfl (by first | exact Row.mk_pt (by assumption) (by assumption) | exact Pt.fld (Row.mk_pt (by assumption) (by assumption)) _ (Nat.le_of_ble_eq_true rfl) | exact Row.pt (by assumption) (by assumption) | exact Pt.fld (Row.pt (by assumption) (by assumption)) _ (Nat.le_of_ble_eq_true rfl) | assumption | exact Pt.fld (by assumption) _ (Nat.le_of_ble_eq_true rfl) | exact Row.pt (Row.keep0 (by assumption) hK) (by assumption) | exact Pt.fld (Row.pt (Row.keep0 (by assumption) hK) (by assumption)) _ (Nat.le_of_ble_eq_true rfl) | exact Row.mk_pt (Row.keep0 (by assumption) hK) (by assumption) | exact Pt.fld (Row.mk_pt (Row.keep0 (by assumption) hK) (by assumption)) _ (Nat.le_of_ble_eq_true rfl)) rfl) ?_
      refine wd_val (fun _ => trivial) rfl rfl (op_pure rfl) ?_
      first | refine wd_val (fun _ => trivial) rfl rfl (op_idxF rfl rfl (by first | exact natA_cast _ _ | exact natA_succ _ _ | exact natA_toNat (by omega) | rfl) rfl rfl rfl rfl (by first | assumption | exact Row.keep0 (by assumption) hK) (by first | omega | (simp; done) | (simp; omega))) ?_ | refine wd_val (fun _ => trivial) rfl rfl (op_idx rfl rfl (by first | exact natA_cast _ _ | exact natA_succ _ _ | exact natA_toNat (by omega) | rfl) rfl rfl rfl rfl (by first | assumption | exact Row.keep0 (by assumption) hK) (by first | omega | (simp; done) | (simp; omega))) ?_
      refine wd_val (fun _ => trivial) rfl rfl (op_load rfl rfl (by first | exact Row.mk_pt (by assumption) (by assumption) | exact Pt.fld (Row.mk_pt (by assumption) (by assumption)) _ (Nat.le_of_ble_eq_true rfl) | exact Row.pt (by assumption) (by assumption) | exact Pt.fld (Row.pt (by assumption) (by assumption)) _ (Nat.le_of_ble_eq_true rfl) | assumption | exact Pt.fld (by assumption) _ (Nat.le_of_ble_eq_true rfl) | exact Row.pt (Row.keep0 (by assumption) hK) (by assumption) | exact Pt.fld (Row.pt (Row.keep0 (by assumption) hK) (by assumption)) _ (Nat.le_of_ble_eq_true rfl) | exact Row.mk_pt (Row.keep0 (by assumption) hK) (by assumption) | exact Pt.fld (Row.mk_pt (Row.keep0 (by assumption) hK) (by assumption)) _ (Nat.le_of_ble_eq_true rfl)) rfl) ?_
      refine wd_call (fun _ => trivial) rfl rfl (op_call rfl rfl rfl rfl) (keptTerms_ok htl hve1 hvf1) ?_
      rintro _ rfl
      refine wd_val (fun _ => trivial) rfl rfl (op_pure rfl) ?_
      refine wd_nil ?_
      refine then_n ?_
      refine wc_cond_f rfl ?_
      refine wc_skip ?_
      refine out_n ?_
      refine then_n ?_
      refine wc_region ?_
      refine w_val rfl rfl (op_pure rfl) ?_
      refine w_val rfl rfl (op_add rfl rfl (by unfold In64; omega)) ?_
      refine w_val rfl rfl (op_pure rfl) ?_
      refine w_nil ?_
      exact round_n _ _ (by omega) (Sub.cons rfl (Sub.cons rfl (Sub.cons rfl (Sub.cons rfl (Sub.cons rfl (Sub.nil _)))))) ⟨k + 1, rfl, by omega, rfl, rfl⟩
    simp at h65
    refine wc_exit ?_
    repeat first | refine then_x ?_ | refine round_x ?_ | refine cut_x ?_ | refine out_x' (by decide) ?_
    refine out_x ?_
    refine out_n ?_
    refine then_n ?_
    refine wc_region ?_
    refine w_val rfl rfl (op_pure rfl) ?_
    refine w_val rfl rfl (op_add rfl rfl (by unfold In64; omega)) ?_
    refine w_val rfl rfl (op_pure rfl) ?_
    refine w_nil ?_
    exact round_n _ _ (by omega) (Sub.cons rfl (Sub.cons rfl (Sub.cons rfl (Sub.nil _)))) ⟨i + 1, rfl, by omega, rfl, rfl⟩
  skip
  refine wc_exit ?_
  repeat first | refine then_x ?_ | refine round_x ?_ | refine cut_x ?_ | refine out_x' (by decide) ?_
  refine out_x ?_
  refine then_n ?_
  repeat refine wc_seq ?_
  refine wc_region ?_
  refine w_val rfl rfl (op_pure rfl) ?_
  refine w_nil ?_
  refine then_n ?_
  refine wc_ret ?_
  repeat first | refine then_r ?_ | refine out_r ?_ | refine round_r ?_ | refine cut_r ?_
  exact ⟨_, rfl, rfl, rfl⟩
end Go.Ab
