/- Parts of one proof, put together: D3 D10 D4 D11 D12 H9 H10 H11 H12 H13 H14 H15 H16 H17 D18. -/
import Derived.Test.YtdpdlmjlahehoaaLinkTwo2
/- Statements that are the same, that were kept. -/
namespace Go.Ab
open Go.Proofs
structure StmtL where
  kind : Int
  name : ByteArray
  targets : List ByteArray
  exprs : List (List TermL)
def StmtL.small (x : StmtL) : Prop := x.targets.length ≤ 2097152 ∧ x.exprs.length ≤ 2097152 ∧ ∀ ts ∈ x.exprs, ts.length ≤ 2097152
def StmtR (h : Tr Grp) (x : StmtL) (c : List AV) : Prop := ∃ vt ve, c = [.int .i64 x.kind, .str x.name, vt, ve] ∧ Row h 1 vt (x.targets.map sC) ∧ RowR h 1 TermsR ve x.exprs
def TermsLR (h : Tr Grp) (ts : List TermL) (c : List AV) : Prop := ∃ v, c = [v] ∧ Lent h 3 tC [.int .i64 (-71), .int .i64 0, .str ByteArray.empty] v ts
def StmtLR (h : Tr Grp) (x : StmtL) (c : List AV) : Prop := ∃ vt ve, c = [.int .i64 x.kind, .str x.name, vt, ve] ∧ Lent h 1 sC [.str markB] vt x.targets ∧ LentR h 1 TermsLR [.nils] ve x.exprs
theorem StmtLR.to {h : Tr Grp} (x : StmtL) (c : List AV) (k : StmtLR h x c) : StmtR h x c := by
  obtain ⟨vt, ve, rfl, h1, h2⟩ := k
  exact ⟨vt, ve, rfl, h1.row, h2.row fun ts c ⟨v, e, hv⟩ => ⟨v, e, hv.row⟩⟩
set_option maxRecDepth 10000 in
theorem stmts_same {s : St} {a b : AV} {xs : List StmtL} (hl : xs.length ≤ 2097152) (hll : ∀ x ∈ xs, x.small) (ha : RowR s.h 4 StmtR a xs) (hb : RowR s.h 4 StmtR b xs) :
    CallS Try.prog Tt Kt 51 [a, b] s (fun v s' => s' = s ∧ v = .bool true) := by
  obtain ⟨csa, ha, hla, hA⟩ := ha
  obtain ⟨csb, hb, hlb, hB⟩ := hb
  have hsa : a.slen = some xs.length := ha.slen.trans (congrArg some hla)
  have hsb : b.slen = some xs.length := hb.slen.trans (congrArg some hlb)
  refine call_of (fn := Try.f51) (nt := 69) Try.func51 rfl rfl rfl ?_
  repeat refine wc_seq ?_
  refine wc_region ?_
  refine w_val rfl rfl (op_pure rfl) ?_
  refine w_nil ?_
  refine then_n ?_
  repeat refine wc_seq ?_
  refine wc_region ?_
  refine w_val rfl rfl (op_pure rfl) ?_
  refine w_val rfl rfl (op_len rfl rfl rfl rfl rfl (by assumption)) ?_
  refine w_val rfl rfl (op_pure rfl) ?_
  refine w_val rfl rfl (op_len rfl rfl rfl rfl rfl (by assumption)) ?_
  refine w_val rfl rfl (op_pure rfl) ?_
  refine w_nil ?_
  refine then_n ?_
  repeat refine wc_seq ?_
  refine wc_condT rfl (fun h10 => ?_) (fun h10 => ?_)
  · simp at h10
  skip
  refine wc_skip ?_
  refine then_n ?_
  repeat refine wc_seq ?_
  refine wc_region ?_
  refine w_val rfl rfl (op_pure rfl) ?_
  refine w_nil ?_
  refine then_n ?_
  repeat refine wc_seq ?_
  refine wc_block ?_
  refine wc_loop_at (fun j m s' => ∃ i : Nat, j = xs.length - i ∧ i ≤ xs.length ∧ s' = s ∧ m = [(0, a), (1, b), (5, .int .i64 (i : Nat))]) xs.length
    [(0, a), (1, b), (5, .int .i64 ((0 : Nat) : Int))] (Sub.cons rfl (Sub.cons rfl (Sub.cons rfl (Sub.nil _)))) ⟨0, by simp, by simp, rfl, rfl⟩ ?_
  rintro j m sX ⟨i, rfl, hi, eX, rfl⟩
  obtain rfl := eX.symm
  repeat refine wc_seq ?_
  refine wc_region ?_
  refine w_val rfl rfl (op_pure rfl) ?_
  refine w_val rfl rfl (op_pure rfl) ?_
  refine w_val rfl rfl (op_len rfl rfl rfl rfl rfl (by assumption)) ?_
  refine w_val rfl rfl (op_pure rfl) ?_
  refine w_nil ?_
  refine then_n ?_
  repeat refine wc_seq ?_
  refine wc_condT rfl (fun h14 => ?_) (fun h14 => ?_)
  · simp at h14
    refine wc_skip ?_
    refine then_n ?_
    repeat refine wc_seq ?_
    refine wc_block ?_
    repeat refine wc_seq ?_
    obtain ⟨x, hx⟩ : ∃ x, xs[i]? = some x := ⟨_, List.getElem?_eq_getElem h14⟩
    obtain ⟨ca, hca⟩ : ∃ c, csa[i]? = some c := ⟨_, List.getElem?_eq_getElem (by omega)⟩
    obtain ⟨cb, hcb⟩ : ∃ c, csb[i]? = some c := ⟨_, List.getElem?_eq_getElem (by omega)⟩
    obtain ⟨vta, vea, rfl, hta, hea⟩ := hA i x ca hx hca
    obtain ⟨vtb, veb, rfl, htb, heb⟩ := hB i x cb hx hcb
    obtain ⟨hx1, hx2, hx3⟩ := hll x (List.mem_of_getElem? hx)
    refine wc_draw (fun _ => True) (by kernel_rfl) rfl ?_
    refine wd_val (fun _ => trivial) rfl rfl (op_pure rfl) ?_
    refine wd_val (fun _ => trivial) rfl rfl (op_pure rfl) ?_
    refine wd_val (fun _ => trivial) rfl rfl (op_idx rfl rfl (natA_cast _ _) rfl rfl rfl rfl (by assumption) (by omega)) ?_
    refine wd_val (fun _ => trivial) rfl rfl (op_fld rfl rfl rfl rfl (by decide) (Row.pt (by assumption) (by assumption)) (Nat.le_of_ble_eq_true rfl)) ?_
    refine wd_val (fun _ => trivial) rfl rfl (op_load rfl rfl (Pt.fld (Row.pt (by assumption) (by assumption)) _ (Nat.le_of_ble_eq_true rfl)) rfl) ?_
    refine wd_val (fun _ => trivial) rfl rfl (op_pure rfl) ?_
    refine wd_val (fun _ => trivial) rfl rfl (op_pure rfl) ?_
    refine wd_val (fun _ => trivial) rfl rfl (op_idx rfl rfl (natA_cast _ _) rfl rfl rfl rfl (by assumption) (by omega)) ?_
    refine wd_val (fun _ => trivial) rfl rfl (op_fld rfl rfl rfl rfl (by decide) (Row.pt (by assumption) (by assumption)) (Nat.le_of_ble_eq_true rfl)) ?_
    refine wd_val (fun _ => trivial) rfl rfl (op_load rfl rfl (Pt.fld (Row.pt (by assumption) (by assumption)) _ (Nat.le_of_ble_eq_true rfl)) rfl) ?_
    refine wd_val (fun _ => trivial) rfl rfl (op_pure rfl) ?_
    refine wd_val (fun _ => trivial) rfl rfl (op_pure rfl) ?_
    refine wd_split (i := 28) rfl (fun h28 => ?_) (fun h28 => ?_)
    · simp at h28
    skip
    refine wd_val (fun _ => trivial) rfl rfl (op_pure rfl) ?_
    refine wd_val (fun _ => trivial) rfl rfl (op_pure rfl) ?_
    refine wd_val (fun _ => trivial) rfl rfl (op_idx rfl rfl (natA_cast _ _) rfl rfl rfl rfl (by assumption) (by omega)) ?_
    refine wd_val (fun _ => trivial) rfl rfl (op_fld rfl rfl rfl rfl (by decide) (Row.pt (by assumption) (by assumption)) (Nat.le_of_ble_eq_true rfl)) ?_
    refine wd_val (fun _ => trivial) rfl rfl (op_load rfl rfl (Pt.fld (Row.pt (by assumption) (by assumption)) _ (Nat.le_of_ble_eq_true rfl)) rfl) ?_
    refine wd_val (fun _ => trivial) rfl rfl (op_pure rfl) ?_
    refine wd_val (fun _ => trivial) rfl rfl (op_pure rfl) ?_
    refine wd_val (fun _ => trivial) rfl rfl (op_idx rfl rfl (natA_cast _ _) rfl rfl rfl rfl (by assumption) (by omega)) ?_
    refine wd_val (fun _ => trivial) rfl rfl (op_fld rfl rfl rfl rfl (by decide) (Row.pt (by assumption) (by assumption)) (Nat.le_of_ble_eq_true rfl)) ?_
    refine wd_val (fun _ => trivial) rfl rfl (op_load rfl rfl (Pt.fld (Row.pt (by assumption) (by assumption)) _ (Nat.le_of_ble_eq_true rfl)) rfl) ?_
    refine wd_val (fun _ => trivial) rfl rfl (op_pure rfl) ?_
    refine wd_val (fun _ => trivial) rfl rfl (op_pure rfl) ?_
    refine wd_val (fun _ => trivial) rfl rfl (op_pure rfl) ?_
    refine wd_split (i := 41) rfl (fun h41 => ?_) (fun h41 => ?_)
    · simp at h41
    skip
    refine wd_val (fun _ => trivial) rfl rfl (op_pure rfl) ?_
    refine wd_val (fun _ => trivial) rfl rfl (op_pure rfl) ?_
    refine wd_val (fun _ => trivial) rfl rfl (op_idx rfl rfl (natA_cast _ _) rfl rfl rfl rfl (by assumption) (by omega)) ?_
    refine wd_val (fun _ => trivial) rfl rfl (op_fld rfl rfl rfl rfl (by decide) (Row.pt (by assumption) (by assumption)) (Nat.le_of_ble_eq_true rfl)) ?_
    refine wd_val (fun _ => trivial) rfl rfl (op_load rfl rfl (Pt.fld (Row.pt (by assumption) (by assumption)) _ (Nat.le_of_ble_eq_true rfl)) rfl) ?_
    refine wd_val (fun _ => trivial) rfl rfl (op_pure rfl) ?_
    refine wd_val (fun _ => trivial) rfl rfl (op_pure rfl) ?_
    refine wd_val (fun _ => trivial) rfl rfl (op_idx rfl rfl (natA_cast _ _) rfl rfl rfl rfl (by assumption) (by omega)) ?_
    refine wd_val (fun _ => trivial) rfl rfl (op_fld rfl rfl rfl rfl (by decide) (Row.pt (by assumption) (by assumption)) (Nat.le_of_ble_eq_true rfl)) ?_
    refine wd_val (fun _ => trivial) rfl rfl (op_load rfl rfl (Pt.fld (Row.pt (by assumption) (by assumption)) _ (Nat.le_of_ble_eq_true rfl)) rfl) ?_
    refine wd_call (fun _ => trivial) rfl rfl (op_call rfl rfl rfl rfl) (strings_same hx1 hta htb) ?_
    rintro _ rfl
    refine wd_val (fun _ => trivial) rfl rfl (op_pure rfl) ?_
    refine wd_val (fun _ => trivial) rfl rfl (op_pure rfl) ?_
    refine wd_val (fun _ => trivial) rfl rfl (op_pure rfl) ?_
    refine wd_val (fun _ => trivial) rfl rfl (op_pure rfl) ?_
    refine wd_val (fun _ => trivial) rfl rfl (op_pure rfl) ?_
    refine wd_val (fun _ => trivial) rfl rfl (op_idx rfl rfl (natA_cast _ _) rfl rfl rfl rfl (by assumption) (by omega)) ?_
    refine wd_val (fun _ => trivial) rfl rfl (op_fld rfl rfl rfl rfl (by decide) (Row.pt (by assumption) (by assumption)) (Nat.le_of_ble_eq_true rfl)) ?_
    refine wd_val (fun _ => trivial) rfl rfl (op_load rfl rfl (Pt.fld (Row.pt (by assumption) (by assumption)) _ (Nat.le_of_ble_eq_true rfl)) rfl) ?_
    refine wd_val (fun _ => trivial) rfl rfl (op_pure rfl) ?_
    refine wd_val (fun _ => trivial) rfl rfl (op_pure rfl) ?_
    refine wd_val (fun _ => trivial) rfl rfl (op_idx rfl rfl (natA_cast _ _) rfl rfl rfl rfl (by assumption) (by omega)) ?_
    refine wd_val (fun _ => trivial) rfl rfl (op_fld rfl rfl rfl rfl (by decide) (Row.pt (by assumption) (by assumption)) (Nat.le_of_ble_eq_true rfl)) ?_
    refine wd_val (fun _ => trivial) rfl rfl (op_load rfl rfl (Pt.fld (Row.pt (by assumption) (by assumption)) _ (Nat.le_of_ble_eq_true rfl)) rfl) ?_
    refine wd_call (fun _ => trivial) rfl rfl (op_call rfl rfl rfl rfl) (exprs_same hx2 hx3 hea heb) ?_
    rintro _ rfl
    refine wd_val (fun _ => trivial) rfl rfl (op_pure rfl) ?_
    refine wd_val (fun _ => trivial) rfl rfl (op_pure rfl) ?_
    refine wd_nil ?_
    refine then_n ?_
    refine wc_cond_f rfl ?_
    refine wc_skip ?_
    refine out_n ?_
    refine then_n ?_
    refine wc_region ?_
    refine w_val rfl rfl (op_pure rfl) ?_
    refine w_val rfl rfl (op_add rfl rfl (by unfold In64; omega)) ?_
    refine w_val rfl rfl (op_pure rfl) ?_
    refine w_nil ?_
    exact round_n _ _ (by omega) (Sub.cons rfl (Sub.cons rfl (Sub.cons rfl (Sub.nil _)))) ⟨i + 1, rfl, by omega, rfl, rfl⟩
  skip
  refine wc_exit ?_
  repeat first | refine then_x ?_ | refine round_x ?_ | refine cut_x ?_ | refine out_x' (by decide) ?_
  refine out_x ?_
  refine then_n ?_
  repeat refine wc_seq ?_
  refine wc_region ?_
  refine w_val rfl rfl (op_pure rfl) ?_
  refine w_nil ?_
  refine then_n ?_
  refine wc_ret ?_
  repeat first | refine then_r ?_ | refine out_r ?_ | refine round_r ?_ | refine cut_r ?_
  exact ⟨_, rfl, rfl, rfl⟩
set_option maxRecDepth 10000 in
theorem keptStrings_ok {s : St} {a b : AV} {xs : List ByteArray} (hl : xs.length ≤ 2097152) (ha : Lent s.h 1 sC [.str markB] a xs) (hb : Row s.h 1 b (xs.map sC)) :
    CallS Try.prog Tt Kt 52 [a, b] s (fun v s' => s' = s ∧ v = .bool true) := by
  have hra := ha.row
  obtain ⟨u, rfl, hu, hr⟩ := ha
  have hw := Lent.more hr
  have hpt := hw.mk_pt'
  refine call_of (fn := Try.f52) (nt := 21) Try.func52 rfl rfl rfl ?_
  repeat refine wc_seq ?_
  refine wc_region ?_
  refine w_val rfl rfl (op_pure rfl) ?_
  refine w_nil ?_
  refine then_n ?_
  repeat refine wc_seq ?_
  refine wc_region ?_
  refine w_val rfl rfl (op_pure rfl) ?_
  refine w_val rfl rfl (op_pure rfl) ?_
  refine w_call rfl rfl (op_call rfl rfl rfl rfl) (strings_same hl hra hb) ?_
  rintro _ sX ⟨eX, rfl⟩
  obtain rfl := eX.symm
  refine w_val rfl rfl (op_pure rfl) ?_
  refine w_nil ?_
  refine then_n ?_
  repeat refine wc_seq ?_
  refine wc_cond_f rfl ?_
  refine wc_skip ?_
  refine then_n ?_
  repeat refine wc_seq ?_
  refine wc_region ?_
  refine w_val rfl rfl (op_pure rfl) ?_
  refine w_val rfl rfl (op_pure rfl) ?_
  refine w_val rfl rfl (op_len rfl rfl rfl rfl rfl (Row.slenF (by assumption))) ?_
  refine w_val rfl rfl (op_add rfl rfl (by unfold In64; omega)) ?_
  refine w_val rfl rfl (op_recut rfl rfl (natA_succ _ _) rfl rfl rfl rfl hr hu (by simp)) ?_
  refine w_val rfl rfl (op_pure rfl) ?_
  refine w_nil ?_
  refine then_n ?_
  repeat refine wc_seq ?_
  refine wc_region ?_
  refine w_val rfl rfl (op_pure rfl) ?_
  refine w_val rfl rfl (op_pure rfl) ?_
  refine w_val rfl rfl (op_len rfl rfl rfl rfl rfl (Row.slenF (by assumption))) ?_
  refine w_val rfl rfl (op_idx rfl rfl (natA_cast _ _) rfl rfl rfl rfl (by assumption) (by (simp; done))) ?_
  refine w_val rfl rfl (op_load rfl rfl (by assumption) rfl) ?_
  refine w_val rfl rfl (op_pure rfl) ?_
  refine w_val rfl rfl (op_pure rfl) ?_
  refine w_nil ?_
  refine then_n ?_
  refine wc_ret ?_
  repeat first | refine then_r ?_ | refine out_r ?_ | refine round_r ?_ | refine cut_r ?_
  exact ⟨_, rfl, rfl, congrArg AV.bool (beq_self_eq_true _)⟩
set_option maxRecDepth 10000 in
theorem keptTerms_ok {s : St} {a b : AV} {xs : List TermL} (hl : xs.length ≤ 2097152) (ha : Lent s.h 3 tC [.int .i64 (-71), .int .i64 0, .str ByteArray.empty] a xs) (hb : Row s.h 3 b (xs.map tC)) :
    CallS Try.prog Tt Kt 53 [a, b] s (fun v s' => s' = s ∧ v = .bool true) := by
  have hra := ha.row
  obtain ⟨u, rfl, hu, hr⟩ := ha
  have hw := Lent.more hr
  have hpt := hw.mk_pt'
  refine call_of (fn := Try.f53) (nt := 21) Try.func53 rfl rfl rfl ?_
  repeat refine wc_seq ?_
  refine wc_region ?_
  refine w_val rfl rfl (op_pure rfl) ?_
  refine w_nil ?_
  refine then_n ?_
  repeat refine wc_seq ?_
  refine wc_region ?_
  refine w_val rfl rfl (op_pure rfl) ?_
  refine w_val rfl rfl (op_pure rfl) ?_
  refine w_call rfl rfl (op_call rfl rfl rfl rfl) (terms_same hl hra hb) ?_
  rintro _ sX ⟨eX, rfl⟩
  obtain rfl := eX.symm
  refine w_val rfl rfl (op_pure rfl) ?_
  refine w_val rfl rfl (op_pure rfl) ?_
  refine w_val rfl rfl (op_pure rfl) ?_
  refine w_val rfl rfl (op_len rfl rfl rfl rfl rfl (Row.slenF (by assumption))) ?_
  refine w_val rfl rfl (op_add rfl rfl (by unfold In64; omega)) ?_
  refine w_val rfl rfl (op_recut rfl rfl (natA_succ _ _) rfl rfl rfl rfl hr hu (by simp)) ?_
  refine w_val rfl rfl (op_pure rfl) ?_
  refine w_val rfl rfl (op_len rfl rfl rfl rfl rfl (Row.slenF (by assumption))) ?_
  refine w_val rfl rfl (op_idx rfl rfl (natA_cast _ _) rfl rfl rfl rfl (by assumption) (by (simp; done))) ?_
  refine w_val rfl rfl (op_fld rfl rfl rfl rfl (by decide) (by assumption) (Nat.le_of_ble_eq_true rfl)) ?_
  refine w_val rfl rfl (op_load rfl rfl (Pt.fld (by assumption) _ (Nat.le_of_ble_eq_true rfl)) rfl) ?_
  refine w_val rfl rfl (op_pure rfl) ?_
  refine w_val rfl rfl (op_pure rfl) ?_
  refine w_val rfl rfl (op_pure rfl) ?_
  refine w_nil ?_
  refine then_n ?_
  refine wc_ret ?_
  repeat first | refine then_r ?_ | refine out_r ?_ | refine round_r ?_ | refine cut_r ?_
  exact ⟨_, rfl, rfl, rfl⟩
set_option maxRecDepth 10000 in
theorem keptStmts_ok {s : St} {a b : AV} {xs : List StmtL} (hl : xs.length ≤ 2097152) (hll : ∀ x ∈ xs, x.small) (ha : LentR s.h 4 StmtLR [.int .i64 (-71), .str ByteArray.empty, .nils, .nils] a xs) (hb : RowR s.h 4 StmtR b xs) :
    CallS Try.prog Tt Kt 15 [a, b] s (fun v s' => s' = s ∧ v = .bool true) := by
  have hAR := ha.row StmtLR.to
  have hBR := hb
  obtain ⟨csb, hb, hlb, hB⟩ := hb
  obtain ⟨u, csa, rfl, hu, hr, hla, hA⟩ := ha
  have hra := hr.less hla
  have hw := hr.more hla
  have hpt := hw.mark hla
  have hsa : (cutA u 0 xs.length).slen = some xs.length := hra.slen.trans (congrArg some hla)
  have hsb : b.slen = some xs.length := hb.slen.trans (congrArg some hlb)
  refine call_of (fn := Try.f15) (nt := 86) Try.func15 rfl rfl rfl ?_
  repeat refine wc_seq ?_
  refine wc_region ?_
  refine w_val rfl rfl (op_pure rfl) ?_
  refine w_nil ?_
  refine then_n ?_
  repeat refine wc_seq ?_
  refine wc_region ?_
  refine w_val rfl rfl (op_pure rfl) ?_
  refine w_val rfl rfl (op_pure rfl) ?_
  refine w_call rfl rfl (op_call rfl rfl rfl rfl) (stmts_same hl hll hAR hBR) ?_
  rintro _ sX ⟨eX, rfl⟩
  obtain rfl := eX.symm
  refine w_val rfl rfl (op_pure rfl) ?_
  refine w_val rfl rfl (op_pure rfl) ?_
  refine w_val rfl rfl (op_pure rfl) ?_
  refine w_val rfl rfl (op_pure rfl) ?_
  refine w_val rfl rfl (op_len rfl rfl rfl rfl rfl (by assumption)) ?_
  refine w_val rfl rfl (op_add rfl rfl (by unfold In64; omega)) ?_
  refine w_val rfl rfl (op_recut rfl rfl (natA_succ _ _) rfl rfl rfl rfl hr hu (by simp; omega)) ?_
  refine w_val rfl rfl (op_pure rfl) ?_
  refine w_val rfl rfl (op_len rfl rfl rfl rfl rfl (by assumption)) ?_
  refine w_val rfl rfl (op_idx rfl rfl (natA_cast _ _) rfl rfl rfl rfl (by assumption) (by (simp; omega))) ?_
  refine w_val rfl rfl (op_fld rfl rfl rfl rfl (by decide) (by assumption) (Nat.le_of_ble_eq_true rfl)) ?_
  refine w_val rfl rfl (op_load rfl rfl (Pt.fld (by assumption) _ (Nat.le_of_ble_eq_true rfl)) rfl) ?_
  refine w_val rfl rfl (op_pure rfl) ?_
  refine w_val rfl rfl (op_pure rfl) ?_
  refine w_nil ?_
  refine then_n ?_
  repeat refine wc_seq ?_
  refine wc_condT rfl (fun h24 => ?_) (fun h24 => ?_)
  · simp at h24
  skip
  refine wc_skip ?_
  refine then_n ?_
  repeat refine wc_seq ?_
  refine wc_region ?_
  refine w_val rfl rfl (op_pure rfl) ?_
  refine w_nil ?_
  refine then_n ?_
  repeat refine wc_seq ?_
  refine wc_block ?_
  refine wc_loop_at (fun j m s' => ∃ i : Nat, j = xs.length - i ∧ i ≤ xs.length ∧ s' = s ∧ m = [(0, cutA u 0 xs.length), (1, b), (5, .int .i64 (i : Nat))]) xs.length
    [(0, cutA u 0 xs.length), (1, b), (5, .int .i64 ((0 : Nat) : Int))] (Sub.cons rfl (Sub.cons rfl (Sub.cons rfl (Sub.nil _)))) ⟨0, by simp, by simp, rfl, rfl⟩ ?_
  rintro j m sX ⟨i, rfl, hi, eX, rfl⟩
  obtain rfl := eX.symm
  repeat refine wc_seq ?_
  refine wc_region ?_
  refine w_val rfl rfl (op_pure rfl) ?_
  refine w_val rfl rfl (op_pure rfl) ?_
  refine w_val rfl rfl (op_len rfl rfl rfl rfl rfl (by assumption)) ?_
  refine w_val rfl rfl (op_pure rfl) ?_
  refine w_nil ?_
  refine then_n ?_
  repeat refine wc_seq ?_
  refine wc_condT rfl (fun h28 => ?_) (fun h28 => ?_)
  · simp at h28
    refine wc_skip ?_
    refine then_n ?_
    repeat refine wc_seq ?_
    refine wc_block ?_
    repeat refine wc_seq ?_
    obtain ⟨x, hx⟩ : ∃ x, xs[i]? = some x := ⟨_, List.getElem?_eq_getElem h28⟩
    obtain ⟨ca, hca⟩ : ∃ c, csa[i]? = some c := ⟨_, List.getElem?_eq_getElem (by omega)⟩
    obtain ⟨cb, hcb⟩ : ∃ c, csb[i]? = some c := ⟨_, List.getElem?_eq_getElem (by omega)⟩
    obtain ⟨vta, vea, rfl, hta, hea⟩ := hA i x ca hx hca
    obtain ⟨vtb, vEB, rfl, htb, heb⟩ := hB i x cb hx hcb
    obtain ⟨hx1, hx2, hx3⟩ := hll x (List.mem_of_getElem? hx)
    obtain ⟨csf, hef, hlf, hF⟩ := heb
    obtain ⟨ue, cse, rfl, hue, hre, hle, hE⟩ := hea
    have hrl := hre.less hle
    have hrm := hre.more hle
    have hpe := hrm.mark hle
    have hsf : vEB.slen = some x.exprs.length := hef.slen.trans (congrArg some hlf)
    refine wc_region ?_
    refine w_val rfl rfl (op_pure rfl) ?_
    refine w_val rfl rfl (op_pure rfl) ?_
    refine w_val rfl rfl (op_idx rfl rfl (natA_cast _ _) rfl rfl rfl rfl (by assumption) (by omega)) ?_
    refine w_val rfl rfl (op_fld rfl rfl rfl rfl (by decide) (Row.pt (by assumption) (by assumption)) (Nat.le_of_ble_eq_true rfl)) ?_
    refine w_val rfl rfl (op_load rfl rfl (Pt.fld (Row.pt (by assumption) (by assumption)) _ (Nat.le_of_ble_eq_true rfl)) rfl) ?_
    refine w_val rfl rfl (op_len rfl rfl rfl rfl rfl (by assumption)) ?_
    refine w_val rfl rfl (op_pure rfl) ?_
    refine w_nil ?_
    refine then_n ?_
    repeat refine wc_seq ?_
    refine wc_draw (fun _ => True) (by kernel_rfl) rfl ?_
    refine wd_val (fun _ => trivial) rfl rfl (op_pure rfl) ?_
    refine wd_val (fun _ => trivial) rfl rfl (op_pure rfl) ?_
    refine wd_val (fun _ => trivial) rfl rfl (op_idx rfl rfl (natA_cast _ _) rfl rfl rfl rfl (by assumption) (by omega)) ?_
    refine wd_val (fun _ => trivial) rfl rfl (op_fld rfl rfl rfl rfl (by decide) (Row.pt (by assumption) (by assumption)) (Nat.le_of_ble_eq_true rfl)) ?_
    refine wd_val (fun _ => trivial) rfl rfl (op_load rfl rfl (Pt.fld (Row.pt (by assumption) (by assumption)) _ (Nat.le_of_ble_eq_true rfl)) rfl) ?_
    refine wd_val (fun _ => trivial) rfl rfl (op_pure rfl) ?_
    refine wd_val (fun _ => trivial) rfl rfl (op_pure rfl) ?_
    refine wd_val (fun _ => trivial) rfl rfl (op_idx rfl rfl (natA_cast _ _) rfl rfl rfl rfl (by assumption) (by omega)) ?_
    refine wd_val (fun _ => trivial) rfl rfl (op_fld rfl rfl rfl rfl (by decide) (Row.pt (by assumption) (by assumption)) (Nat.le_of_ble_eq_true rfl)) ?_
    refine wd_val (fun _ => trivial) rfl rfl (op_load rfl rfl (Pt.fld (Row.pt (by assumption) (by assumption)) _ (Nat.le_of_ble_eq_true rfl)) rfl) ?_
    refine wd_call (fun _ => trivial) rfl rfl (op_call rfl rfl rfl rfl) (keptStrings_ok hx1 hta htb) ?_
    rintro _ rfl
    refine wd_val (fun _ => trivial) rfl rfl (op_pure rfl) ?_
    refine wd_val (fun _ => trivial) rfl rfl (op_pure rfl) ?_
    refine wd_val (fun _ => trivial) rfl rfl (op_pure rfl) ?_
    refine wd_val (fun _ => trivial) rfl rfl (op_pure rfl) ?_
    refine wd_val (fun _ => trivial) rfl rfl (op_idx rfl rfl (natA_cast _ _) rfl rfl rfl rfl (by assumption) (by omega)) ?_
    refine wd_val (fun _ => trivial) rfl rfl (op_fld rfl rfl rfl rfl (by decide) (Row.pt (by assumption) (by assumption)) (Nat.le_of_ble_eq_true rfl)) ?_
    refine wd_val (fun _ => trivial) rfl rfl (op_load rfl rfl (Pt.fld (Row.pt (by assumption) (by assumption)) _ (Nat.le_of_ble_eq_true rfl)) rfl) ?_
    refine wd_val (fun _ => trivial) rfl rfl (op_pure rfl) ?_
    refine wd_val (fun _ => trivial) rfl rfl (op_add rfl rfl (by unfold In64; omega)) ?_
    refine wd_val (fun _ => trivial) rfl rfl (op_recut rfl rfl (natA_succ _ _) rfl rfl rfl rfl hre hue (by simp; omega)) ?_
    refine wd_val (fun _ => trivial) rfl rfl (op_pure rfl) ?_
    refine wd_val (fun _ => trivial) rfl rfl (op_idx rfl rfl (natA_cast _ _) rfl rfl rfl rfl (by assumption) (by (simp; omega))) ?_
    refine wd_val (fun _ => trivial) rfl rfl (op_load rfl rfl (by assumption) rfl) ?_
    refine wd_val (fun _ => trivial) rfl rfl (op_pure rfl) ?_
    refine wd_val (fun _ => trivial) rfl rfl (op_pure rfl) ?_
    refine wd_nil ?_
    refine then_n ?_
    repeat refine wc_seq ?_
    refine wc_condT rfl (fun h62 => ?_) (fun h62 => ?_)
    · simp at h62
    skip
    refine wc_skip ?_
    refine then_n ?_
    repeat refine wc_seq ?_
    refine wc_region ?_
    refine w_val rfl rfl (op_pure rfl) ?_
    refine w_nil ?_
    refine then_n ?_
    refine wc_block ?_
    refine wc_loop_at (fun j m s1 => ∃ k : Nat, j = x.exprs.length - k ∧ k ≤ x.exprs.length ∧ s1 = s ∧ m = [(0, cutA u 0 xs.length), (1, b), (5, .int .i64 (i : Nat)), (6, .int .i64 (x.exprs.length : Nat)), (7, .int .i64 (k : Nat))]) x.exprs.length
      [(0, cutA u 0 xs.length), (1, b), (5, .int .i64 (i : Nat)), (6, .int .i64 (x.exprs.length : Nat)), (7, .int .i64 ((0 : Nat) : Int))] (Sub.cons rfl (Sub.cons rfl (Sub.cons rfl (Sub.cons rfl (Sub.cons rfl (Sub.nil _)))))) ⟨0, by simp, by simp, rfl, rfl⟩ ?_
    rintro j1 m1 sX ⟨k, rfl, hk, eX, rfl⟩
    obtain rfl := eX.symm
    repeat refine wc_seq ?_
    refine wc_region ?_
    refine w_val rfl rfl (op_pure rfl) ?_
    refine w_val rfl rfl (op_pure rfl) ?_
    refine w_val rfl rfl (op_pure rfl) ?_
    refine w_nil ?_
    refine then_n ?_
    repeat refine wc_seq ?_
    refine wc_condT rfl (fun h65 => ?_) (fun h65 => ?_)
    · simp at h65
      refine wc_skip ?_
      refine then_n ?_
      repeat refine wc_seq ?_
      refine wc_block ?_
      repeat refine wc_seq ?_
      obtain ⟨ts, hts⟩ : ∃ x', x.exprs[k]? = some x' := ⟨_, List.getElem?_eq_getElem h65⟩
      obtain ⟨ce, hce⟩ : ∃ c, cse[k]? = some c := ⟨_, List.getElem?_eq_getElem (by omega)⟩
      obtain ⟨cf, hcf⟩ : ∃ c, csf[k]? = some c := ⟨_, List.getElem?_eq_getElem (by omega)⟩
      obtain ⟨ve1, rfl, hve1⟩ := hE k ts ce hts hce
      obtain ⟨vf1, rfl, hvf1⟩ := hF k ts cf hts hcf
      have htl := hx3 ts (List.mem_of_getElem? hts)
      refine wc_draw (fun _ => True) (by kernel_rfl) rfl ?_
      refine wd_val (fun _ => trivial) rfl rfl (op_pure rfl) ?_
      refine wd_val (fun _ => trivial) rfl rfl (op_pure rfl) ?_
      refine wd_val (fun _ => trivial) rfl rfl (op_idx rfl rfl (natA_cast _ _) rfl rfl rfl rfl (by assumption) (by omega)) ?_
      refine wd_val (fun _ => trivial) rfl rfl (op_fld rfl rfl rfl rfl (by decide) (Row.pt (by assumption) (by assumption)) (Nat.le_of_ble_eq_true rfl)) ?_
      refine wd_val (fun _ => trivial) rfl rfl (op_load rfl rfl (Pt.fld (Row.pt (by assumption) (by assumption)) _ (Nat.le_of_ble_eq_true rfl)) rfl) ?_
      refine wd_val (fun _ => trivial) rfl rfl (op_pure rfl) ?_
      refine wd_val (fun _ => trivial) rfl rfl (op_idx rfl rfl (natA_cast _ _) rfl rfl rfl rfl (by assumption) (by omega)) ?_
      refine wd_val (fun _ => trivial) rfl rfl (op_load rfl rfl (Row.pt (by assumption) (by assumption)) rfl) ?_
      refine wd_val (fun _ => trivial) rfl rfl (op_pure rfl) ?_
      refine wd_val (fun _ => trivial) rfl rfl (op_pure rfl) ?_
      refine wd_val (fun _ => trivial) rfl rfl (op_idx rfl rfl (natA_cast _ _) rfl rfl rfl rfl (by assumption) (by omega)) ?_
      refine wd_val (fun _ => trivial) rfl rfl (op_fld rfl rfl rfl rfl (by decide) (Row.pt (by assumption) (by assumption)) (Nat.le_of_ble_eq_true rfl)) ?_
      refine wd_val (fun _ => trivial) rfl rfl (op_load rfl rfl (Pt.fld (Row.pt (by assumption) (by assumption)) _ (Nat.le_of_ble_eq_true rfl)) rfl) ?_
      refine wd_val (fun _ => trivial) rfl rfl (op_pure rfl) ?_
      refine wd_val (fun _ => trivial) rfl rfl (op_idx rfl rfl (natA_cast _ _) rfl rfl rfl rfl (by assumption) (by omega)) ?_
      refine wd_val (fun _ => trivial) rfl rfl (op_load rfl rfl (Row.pt (by assumption) (by assumption)) rfl) ?_
      refine wd_call (fun _ => trivial) rfl rfl (op_call rfl rfl rfl rfl) (keptTerms_ok htl hve1 hvf1) ?_
      rintro _ rfl
      refine wd_val (fun _ => trivial) rfl rfl (op_pure rfl) ?_
      refine wd_nil ?_
      refine then_n ?_
      refine wc_cond_f rfl ?_
      refine wc_skip ?_
      refine out_n ?_
      refine then_n ?_
      refine wc_region ?_
      refine w_val rfl rfl (op_pure rfl) ?_
      refine w_val rfl rfl (op_add rfl rfl (by unfold In64; omega)) ?_
      refine w_val rfl rfl (op_pure rfl) ?_
      refine w_nil ?_
      exact round_n _ _ (by omega) (Sub.cons rfl (Sub.cons rfl (Sub.cons rfl (Sub.cons rfl (Sub.cons rfl (Sub.nil _)))))) ⟨k + 1, rfl, by omega, rfl, rfl⟩
    simp at h65
    refine wc_exit ?_
    repeat first | refine then_x ?_ | refine round_x ?_ | refine cut_x ?_ | refine out_x' (by decide) ?_
    refine out_x ?_
    refine out_n ?_
    refine then_n ?_
    refine wc_region ?_
    refine w_val rfl rfl (op_pure rfl) ?_
    refine w_val rfl rfl (op_add rfl rfl (by unfold In64; omega)) ?_
    refine w_val rfl rfl (op_pure rfl) ?_
    refine w_nil ?_
    exact round_n _ _ (by omega) (Sub.cons rfl (Sub.cons rfl (Sub.cons rfl (Sub.nil _)))) ⟨i + 1, rfl, by omega, rfl, rfl⟩
  skip
  refine wc_exit ?_
  repeat first | refine then_x ?_ | refine round_x ?_ | refine cut_x ?_ | refine out_x' (by decide) ?_
  refine out_x ?_
  refine then_n ?_
  repeat refine wc_seq ?_
  refine wc_region ?_
  refine w_val rfl rfl (op_pure rfl) ?_
  refine w_nil ?_
  refine then_n ?_
  refine wc_ret ?_
  repeat first | refine then_r ?_ | refine out_r ?_ | refine round_r ?_ | refine cut_r ?_
  exact ⟨_, rfl, rfl, rfl⟩
end Go.Ab
/- Labels and code: lent, the same, kept. -/
namespace Go.Ab
open Go.Proofs
def lC (n : Int) : List AV := [.int .u64 n]
structure InstrL where
  op : Int
  a : Int
def inC (i : InstrL) : List AV := [.int .i64 i.op, .int .i64 i.a]
structure ArrL where
  len : Int
  label : Int
def aC (a : ArrL) : List AV := [.int .i64 a.len, .int .u64 a.label]
set_option maxRecDepth 10000 in
theorem lentLabels_ok {s : St} {v : AV} {xs : List Int} (hok : s.Ok) (hl : xs.length ≤ 2097152) (hv : Row s.h 1 v (xs.map lC)) :
    CallS Try.prog Tt Kt 65 [v] s (fun r s' => Keep [] s s' ∧ LentF s'.h (Fr s.ctr s'.ctr []) 1 lC [.int .u64 7171] r xs) := by
  refine call_of (fn := Try.f65) (nt := 14) Try.func65 rfl rfl rfl ?_
  repeat refine wc_seq ?_
  refine wc_region ?_
  refine w_val rfl rfl (op_pure rfl) ?_
  refine w_nil ?_
  refine then_n ?_
  repeat refine wc_seq ?_
  refine wc_region ?_
  refine w_val rfl rfl (op_pure rfl) ?_
  refine w_nil ?_
  refine then_n ?_
  repeat refine wc_seq ?_
  refine wc_region ?_
  refine w_val rfl rfl (op_pure rfl) ?_
  refine w_val rfl rfl (op_pure rfl) ?_
  refine w_append (cs := []) rfl rfl rfl rfl rfl rfl rfl rfl rfl (by decide) hok (row_nils _ _) (fun _ => rfl) hv (by simp only [List.length_map, List.length_nil, maxBytes]; omega) (by simp only [List.length_map, List.length_nil, maxBytes]; omega) ?_
  rintro v1 s1 hv1 hk1 - hg1 hn1 -
  rw [List.nil_append] at hv1
  refine w_val rfl rfl (op_pure rfl) ?_
  refine w_nil ?_
  refine then_n ?_
  repeat refine wc_seq ?_
  refine wc_region ?_
  refine w_val rfl rfl (op_pure rfl) ?_
  refine w_lit1 (c := [.int .u64 7171]) rfl rfl rfl rfl rfl rfl rfl (by decide) (by decide) rfl rfl rfl hk1.ok ?_
  rintro v2 s2 hv2 hk2 - -
  have hv1' := hv1.keep hk2 (fun _ _ h => by cases h)
  refine w_append rfl rfl rfl rfl rfl rfl rfl rfl rfl (by decide) hk2.ok hv1' hn1 hv2 (by simp only [List.length_map, List.length_nil, List.length_cons, maxBytes]; omega) (by simp only [List.length_map, List.length_nil, List.length_cons, maxBytes]; omega) ?_
  rintro v3 s3 hv3 hk3 - hg3 - hne3
  refine w_val rfl rfl (op_pure rfl) ?_
  refine w_nil ?_
  refine then_n ?_
  repeat refine wc_seq ?_
  refine wc_region ?_
  refine w_val rfl rfl (op_pure rfl) ?_
  refine w_val rfl rfl (op_pure rfl) ?_
  refine w_val rfl rfl (op_len rfl rfl rfl rfl rfl (Row.slenF (by assumption))) ?_
  refine w_val rfl rfl (op_cut (l := none) (h := some xs.length) (l' := 0) (h' := xs.length) rfl rfl (optY_some rfl (natA_cast _ _)) rfl rfl rfl rfl hv3 rfl rfl (Nat.zero_le _) (by simp)) ?_
  refine w_val rfl rfl (op_pure rfl) ?_
  refine w_nil ?_
  refine then_n ?_
  refine wc_ret ?_
  repeat first | refine then_r ?_ | refine out_r ?_ | refine round_r ?_ | refine cut_r ?_
  exact ⟨_, rfl, (hk1.two hk2).fresh hk3 (by
      rcases hg1 with e | e
      · rw [e]; exact fun g hg => by cases hg
      · rw [e]; exact mem_none _), ⟨v3, rfl, hne3 (by simp), hv3⟩, by
      show ∀ g ∈ (cutA v3 0 xs.length).gs, _
      rw [cutA_gs]
      intro g hg
      refine ⟨?_, hv3.lt hk3.ok g hg, fun h => by cases h⟩
      have := hk1.ctr
      have := hk2.ctr
      rcases hg3 with e | e
      · rw [e] at hg
        rcases hg1 with e | e
        · rw [e] at hg; cases hg
        · rw [e] at hg; rw [List.mem_singleton.1 hg]; exact Nat.le_refl _
      · rw [e] at hg; rw [List.mem_singleton.1 hg]; omega⟩
set_option maxRecDepth 10000 in
theorem lentCode_ok {s : St} {v : AV} {xs : List InstrL} (hok : s.Ok) (hl : xs.length ≤ 2097152) (hv : Row s.h 2 v (xs.map inC)) :
    CallS Try.prog Tt Kt 17 [v] s (fun r s' => Keep [] s s' ∧ LentF s'.h (Fr s.ctr s'.ctr []) 2 inC [.int .i64 (-71), .int .i64 0] r xs) := by
  refine call_of (fn := Try.f17) (nt := 15) Try.func17 rfl rfl rfl ?_
  repeat refine wc_seq ?_
  refine wc_region ?_
  refine w_val rfl rfl (op_pure rfl) ?_
  refine w_nil ?_
  refine then_n ?_
  repeat refine wc_seq ?_
  refine wc_region ?_
  refine w_val rfl rfl (op_pure rfl) ?_
  refine w_nil ?_
  refine then_n ?_
  repeat refine wc_seq ?_
  refine wc_region ?_
  refine w_val rfl rfl (op_pure rfl) ?_
  refine w_val rfl rfl (op_pure rfl) ?_
  refine w_append (cs := []) rfl rfl rfl rfl rfl rfl rfl rfl rfl (by decide) hok (row_nils _ _) (fun _ => rfl) hv (by simp only [List.length_map, List.length_nil, maxBytes]; omega) (by simp only [List.length_map, List.length_nil, maxBytes]; omega) ?_
  rintro v1 s1 hv1 hk1 - hg1 hn1 -
  rw [List.nil_append] at hv1
  refine w_val rfl rfl (op_pure rfl) ?_
  refine w_nil ?_
  refine then_n ?_
  repeat refine wc_seq ?_
  refine wc_region ?_
  refine w_val rfl rfl (op_pure rfl) ?_
  refine w_val rfl rfl (op_pure rfl) ?_
  refine w_lit1 (c := [.int .i64 (-71), .int .i64 0]) rfl rfl rfl rfl rfl rfl rfl (by decide) (by decide) rfl rfl rfl hk1.ok ?_
  rintro v2 s2 hv2 hk2 - -
  have hv1' := hv1.keep hk2 (fun _ _ h => by cases h)
  refine w_append rfl rfl rfl rfl rfl rfl rfl rfl rfl (by decide) hk2.ok hv1' hn1 hv2 (by simp only [List.length_map, List.length_nil, List.length_cons, maxBytes]; omega) (by simp only [List.length_map, List.length_nil, List.length_cons, maxBytes]; omega) ?_
  rintro v3 s3 hv3 hk3 - hg3 - hne3
  refine w_val rfl rfl (op_pure rfl) ?_
  refine w_nil ?_
  refine then_n ?_
  repeat refine wc_seq ?_
  refine wc_region ?_
  refine w_val rfl rfl (op_pure rfl) ?_
  refine w_val rfl rfl (op_pure rfl) ?_
  refine w_val rfl rfl (op_len rfl rfl rfl rfl rfl (Row.slenF (by assumption))) ?_
  refine w_val rfl rfl (op_cut (l := none) (h := some xs.length) (l' := 0) (h' := xs.length) rfl rfl (optY_some rfl (natA_cast _ _)) rfl rfl rfl rfl hv3 rfl rfl (Nat.zero_le _) (by simp)) ?_
  refine w_val rfl rfl (op_pure rfl) ?_
  refine w_nil ?_
  refine then_n ?_
  refine wc_ret ?_
  repeat first | refine then_r ?_ | refine out_r ?_ | refine round_r ?_ | refine cut_r ?_
  exact ⟨_, rfl, (hk1.two hk2).fresh hk3 (by
      rcases hg1 with e | e
      · rw [e]; exact fun g hg => by cases hg
      · rw [e]; exact mem_none _), ⟨v3, rfl, hne3 (by simp), hv3⟩, by
      show ∀ g ∈ (cutA v3 0 xs.length).gs, _
      rw [cutA_gs]
      intro g hg
      refine ⟨?_, hv3.lt hk3.ok g hg, fun h => by cases h⟩
      have := hk1.ctr
      have := hk2.ctr
      rcases hg3 with e | e
      · rw [e] at hg
        rcases hg1 with e | e
        · rw [e] at hg; cases hg
        · rw [e] at hg; rw [List.mem_singleton.1 hg]; exact Nat.le_refl _
      · rw [e] at hg; rw [List.mem_singleton.1 hg]; omega⟩
set_option maxRecDepth 10000 in
theorem labels_same {s : St} {a b : AV} {xs : List Int} (hl : xs.length ≤ 2097152) (ha : Row s.h 1 a (xs.map lC)) (hb : Row s.h 1 b (xs.map lC)) :
    CallS Try.prog Tt Kt 78 [a, b] s (fun v s' => s' = s ∧ v = .bool true) := by
  refine call_of (fn := Try.f78) (nt := 26) Try.func78 rfl rfl rfl ?_
  repeat refine wc_seq ?_
  refine wc_region ?_
  refine w_val rfl rfl (op_pure rfl) ?_
  refine w_nil ?_
  refine then_n ?_
  repeat refine wc_seq ?_
  refine wc_region ?_
  refine w_val rfl rfl (op_pure rfl) ?_
  refine w_val rfl rfl (op_len rfl rfl rfl rfl rfl (Row.slenF (by assumption))) ?_
  refine w_val rfl rfl (op_pure rfl) ?_
  refine w_val rfl rfl (op_len rfl rfl rfl rfl rfl (Row.slenF (by assumption))) ?_
  refine w_val rfl rfl (op_pure rfl) ?_
  refine w_nil ?_
  refine then_n ?_
  repeat refine wc_seq ?_
  refine wc_condT rfl (fun h10 => ?_) (fun h10 => ?_)
  · simp at h10
  skip
  refine wc_skip ?_
  refine then_n ?_
  repeat refine wc_seq ?_
  refine wc_region ?_
  refine w_val rfl rfl (op_pure rfl) ?_
  refine w_nil ?_
  refine then_n ?_
  repeat refine wc_seq ?_
  refine wc_block ?_
  refine wc_loop_at (fun j m s' => ∃ i : Nat, j = xs.length - i ∧ i ≤ xs.length ∧ s' = s ∧ m = [(0, a), (1, b), (5, .int .i64 (i : Nat))]) xs.length
    [(0, a), (1, b), (5, .int .i64 ((0 : Nat) : Int))] (Sub.cons rfl (Sub.cons rfl (Sub.cons rfl (Sub.nil _)))) ⟨0, by simp, by simp, rfl, rfl⟩ ?_
  rintro j m sX ⟨i, rfl, hi, eX, rfl⟩
  obtain rfl := eX.symm
  repeat refine wc_seq ?_
  refine wc_region ?_
  refine w_val rfl rfl (op_pure rfl) ?_
  refine w_val rfl rfl (op_pure rfl) ?_
  refine w_val rfl rfl (op_len rfl rfl rfl rfl rfl (Row.slenF (by assumption))) ?_
  refine w_val rfl rfl (op_pure rfl) ?_
  refine w_nil ?_
  refine then_n ?_
  repeat refine wc_seq ?_
  refine wc_condT rfl (fun h14 => ?_) (fun h14 => ?_)
  · simp at h14
    refine wc_skip ?_
    refine then_n ?_
    repeat refine wc_seq ?_
    refine wc_block ?_
    repeat refine wc_seq ?_
    obtain ⟨x, hx⟩ : ∃ x, xs[i]? = some x := ⟨_, List.getElem?_eq_getElem h14⟩
    refine wc_draw (fun _ => True) (by kernel_rfl) rfl ?_
    refine wd_val (fun _ => trivial) rfl rfl (op_pure rfl) ?_
    refine wd_val (fun _ => trivial) rfl rfl (op_pure rfl) ?_
    refine wd_val (fun _ => trivial) rfl rfl (op_idxF rfl rfl (natA_cast _ _) rfl rfl rfl rfl (by assumption) (by omega)) ?_
    refine wd_val (fun _ => trivial) rfl rfl (op_load rfl rfl (Row.mk_pt (by assumption) (by assumption)) rfl) ?_
    refine wd_val (fun _ => trivial) rfl rfl (op_pure rfl) ?_
    refine wd_val (fun _ => trivial) rfl rfl (op_pure rfl) ?_
    refine wd_val (fun _ => trivial) rfl rfl (op_idxF rfl rfl (natA_cast _ _) rfl rfl rfl rfl (by assumption) (by omega)) ?_
    refine wd_val (fun _ => trivial) rfl rfl (op_load rfl rfl (Row.mk_pt (by assumption) (by assumption)) rfl) ?_
    refine wd_val (fun _ => trivial) rfl rfl (op_pure rfl) ?_
    refine wd_nil ?_
    refine then_n ?_
    refine wc_condT rfl (fun h25 => ?_) (fun h25 => ?_)
    · simp [] at h25
    skip
    refine wc_skip ?_
    refine out_n ?_
    refine then_n ?_
    refine wc_region ?_
    refine w_val rfl rfl (op_pure rfl) ?_
    refine w_val rfl rfl (op_add rfl rfl (by unfold In64; omega)) ?_
    refine w_val rfl rfl (op_pure rfl) ?_
    refine w_nil ?_
    exact round_n _ _ (by omega) (Sub.cons rfl (Sub.cons rfl (Sub.cons rfl (Sub.nil _)))) ⟨i + 1, rfl, by omega, rfl, rfl⟩
  simp at h14
  refine wc_exit ?_
  repeat first | refine then_x ?_ | refine round_x ?_ | refine cut_x ?_ | refine out_x' (by decide) ?_
  refine out_x ?_
  refine then_n ?_
  repeat refine wc_seq ?_
  refine wc_region ?_
  refine w_val rfl rfl (op_pure rfl) ?_
  refine w_nil ?_
  refine then_n ?_
  refine wc_ret ?_
  repeat first | refine then_r ?_ | refine out_r ?_ | refine round_r ?_ | refine cut_r ?_
  exact ⟨_, rfl, rfl, rfl⟩
set_option maxRecDepth 10000 in
theorem code_same {s : St} {a b : AV} {xs : List InstrL} (hl : xs.length ≤ 2097152) (ha : Row s.h 2 a (xs.map inC)) (hb : Row s.h 2 b (xs.map inC)) :
    CallS Try.prog Tt Kt 20 [a, b] s (fun v s' => s' = s ∧ v = .bool true) := by
  refine call_of (fn := Try.f20) (nt := 26) Try.func20 rfl rfl rfl ?_
  repeat refine wc_seq ?_
  refine wc_region ?_
  refine w_val rfl rfl (op_pure rfl) ?_
  refine w_nil ?_
  refine then_n ?_
  repeat refine wc_seq ?_
  refine wc_region ?_
  refine w_val rfl rfl (op_pure rfl) ?_
  refine w_val rfl rfl (op_len rfl rfl rfl rfl rfl (Row.slenF (by assumption))) ?_
  refine w_val rfl rfl (op_pure rfl) ?_
  refine w_val rfl rfl (op_len rfl rfl rfl rfl rfl (Row.slenF (by assumption))) ?_
  refine w_val rfl rfl (op_pure rfl) ?_
  refine w_nil ?_
  refine then_n ?_
  repeat refine wc_seq ?_
  refine wc_condT rfl (fun h10 => ?_) (fun h10 => ?_)
  · simp at h10
  skip
  refine wc_skip ?_
  refine then_n ?_
  repeat refine wc_seq ?_
  refine wc_region ?_
  refine w_val rfl rfl (op_pure rfl) ?_
  refine w_nil ?_
  refine then_n ?_
  repeat refine wc_seq ?_
  refine wc_block ?_
  refine wc_loop_at (fun j m s' => ∃ i : Nat, j = xs.length - i ∧ i ≤ xs.length ∧ s' = s ∧ m = [(0, a), (1, b), (5, .int .i64 (i : Nat))]) xs.length
    [(0, a), (1, b), (5, .int .i64 ((0 : Nat) : Int))] (Sub.cons rfl (Sub.cons rfl (Sub.cons rfl (Sub.nil _)))) ⟨0, by simp, by simp, rfl, rfl⟩ ?_
  rintro j m sX ⟨i, rfl, hi, eX, rfl⟩
  obtain rfl := eX.symm
  repeat refine wc_seq ?_
  refine wc_region ?_
  refine w_val rfl rfl (op_pure rfl) ?_
  refine w_val rfl rfl (op_pure rfl) ?_
  refine w_val rfl rfl (op_len rfl rfl rfl rfl rfl (Row.slenF (by assumption))) ?_
  refine w_val rfl rfl (op_pure rfl) ?_
  refine w_nil ?_
  refine then_n ?_
  repeat refine wc_seq ?_
  refine wc_condT rfl (fun h14 => ?_) (fun h14 => ?_)
  · simp at h14
    refine wc_skip ?_
    refine then_n ?_
    repeat refine wc_seq ?_
    refine wc_block ?_
    repeat refine wc_seq ?_
    obtain ⟨x, hx⟩ : ∃ x, xs[i]? = some x := ⟨_, List.getElem?_eq_getElem h14⟩
    refine wc_draw (fun _ => True) (by kernel_rfl) rfl ?_
    refine wd_val (fun _ => trivial) rfl rfl (op_pure rfl) ?_
    refine wd_val (fun _ => trivial) rfl rfl (op_pure rfl) ?_
    refine wd_val (fun _ => trivial) rfl rfl (op_idxF rfl rfl (natA_cast _ _) rfl rfl rfl rfl (by assumption) (by omega)) ?_
    refine wd_val (fun _ => trivial) rfl rfl (op_load rfl rfl (Row.mk_pt (by assumption) (by assumption)) rfl) ?_
    refine wd_val (fun _ => trivial) rfl rfl (op_pure rfl) ?_
    refine wd_val (fun _ => trivial) rfl rfl (op_pure rfl) ?_
    refine wd_val (fun _ => trivial) rfl rfl (op_idxF rfl rfl (natA_cast _ _) rfl rfl rfl rfl (by assumption) (by omega)) ?_
    refine wd_val (fun _ => trivial) rfl rfl (op_load rfl rfl (Row.mk_pt (by assumption) (by assumption)) rfl) ?_
    refine wd_val (fun _ => trivial) rfl rfl (op_pure rfl) ?_
    refine wd_nil ?_
    refine then_n ?_
    refine wc_condT rfl (fun h25 => ?_) (fun h25 => ?_)
    · simp [] at h25
    skip
    refine wc_skip ?_
    refine out_n ?_
    refine then_n ?_
    refine wc_region ?_
    refine w_val rfl rfl (op_pure rfl) ?_
    refine w_val rfl rfl (op_add rfl rfl (by unfold In64; omega)) ?_
    refine w_val rfl rfl (op_pure rfl) ?_
    refine w_nil ?_
    exact round_n _ _ (by omega) (Sub.cons rfl (Sub.cons rfl (Sub.cons rfl (Sub.nil _)))) ⟨i + 1, rfl, by omega, rfl, rfl⟩
  simp at h14
  refine wc_exit ?_
  repeat first | refine then_x ?_ | refine round_x ?_ | refine cut_x ?_ | refine out_x' (by decide) ?_
  refine out_x ?_
  refine then_n ?_
  repeat refine wc_seq ?_
  refine wc_region ?_
  refine w_val rfl rfl (op_pure rfl) ?_
  refine w_nil ?_
  refine then_n ?_
  refine wc_ret ?_
  repeat first | refine then_r ?_ | refine out_r ?_ | refine round_r ?_ | refine cut_r ?_
  exact ⟨_, rfl, rfl, rfl⟩
set_option maxRecDepth 10000 in
theorem keptLabels_ok {s : St} {a b : AV} {xs : List Int} (hl : xs.length ≤ 2097152) (ha : Lent s.h 1 lC [.int .u64 7171] a xs) (hb : Row s.h 1 b (xs.map lC)) :
    CallS Try.prog Tt Kt 80 [a, b] s (fun v s' => s' = s ∧ v = .bool true) := by
  have hra := ha.row
  obtain ⟨u, rfl, hu, hr⟩ := ha
  have hw := Lent.more hr
  have hpt := hw.mk_pt'
  refine call_of (fn := Try.f80) (nt := 21) Try.func80 rfl rfl rfl ?_
  repeat refine wc_seq ?_
  refine wc_region ?_
  refine w_val rfl rfl (op_pure rfl) ?_
  refine w_nil ?_
  refine then_n ?_
  repeat refine wc_seq ?_
  refine wc_region ?_
  refine w_val rfl rfl (op_pure rfl) ?_
  refine w_val rfl rfl (op_pure rfl) ?_
  refine w_call rfl rfl (op_call rfl rfl rfl rfl) (labels_same hl hra hb) ?_
  rintro _ sX ⟨eX, rfl⟩
  obtain rfl := eX.symm
  refine w_val rfl rfl (op_pure rfl) ?_
  refine w_nil ?_
  refine then_n ?_
  repeat refine wc_seq ?_
  refine wc_cond_f rfl ?_
  refine wc_skip ?_
  refine then_n ?_
  repeat refine wc_seq ?_
  refine wc_region ?_
  refine w_val rfl rfl (op_pure rfl) ?_
  refine w_val rfl rfl (op_pure rfl) ?_
  refine w_val rfl rfl (op_len rfl rfl rfl rfl rfl (Row.slenF (by assumption))) ?_
  refine w_val rfl rfl (op_add rfl rfl (by unfold In64; omega)) ?_
  refine w_val rfl rfl (op_recut rfl rfl (natA_succ _ _) rfl rfl rfl rfl hr hu (by simp)) ?_
  refine w_val rfl rfl (op_pure rfl) ?_
  refine w_nil ?_
  refine then_n ?_
  repeat refine wc_seq ?_
  refine wc_region ?_
  refine w_val rfl rfl (op_pure rfl) ?_
  refine w_val rfl rfl (op_pure rfl) ?_
  refine w_val rfl rfl (op_len rfl rfl rfl rfl rfl (Row.slenF (by assumption))) ?_
  refine w_val rfl rfl (op_idx rfl rfl (natA_cast _ _) rfl rfl rfl rfl (by assumption) (by (simp; done))) ?_
  refine w_val rfl rfl (op_load rfl rfl (by assumption) rfl) ?_
  refine w_val rfl rfl (op_pure rfl) ?_
  refine w_val rfl rfl (op_pure rfl) ?_
  refine w_nil ?_
  refine then_n ?_
  refine wc_ret ?_
  repeat first | refine then_r ?_ | refine out_r ?_ | refine round_r ?_ | refine cut_r ?_
  exact ⟨_, rfl, rfl, rfl⟩
set_option maxRecDepth 10000 in
theorem keptCode_ok {s : St} {a b : AV} {xs : List InstrL} (hl : xs.length ≤ 2097152) (ha : Lent s.h 2 inC [.int .i64 (-71), .int .i64 0] a xs) (hb : Row s.h 2 b (xs.map inC)) :
    CallS Try.prog Tt Kt 23 [a, b] s (fun v s' => s' = s ∧ v = .bool true) := by
  have hra := ha.row
  obtain ⟨u, rfl, hu, hr⟩ := ha
  have hw := Lent.more hr
  have hpt := hw.mk_pt'
  refine call_of (fn := Try.f23) (nt := 22) Try.func23 rfl rfl rfl ?_
  repeat refine wc_seq ?_
  refine wc_region ?_
  refine w_val rfl rfl (op_pure rfl) ?_
  refine w_nil ?_
  refine then_n ?_
  repeat refine wc_seq ?_
  refine wc_region ?_
  refine w_val rfl rfl (op_pure rfl) ?_
  refine w_val rfl rfl (op_pure rfl) ?_
  refine w_call rfl rfl (op_call rfl rfl rfl rfl) (code_same hl hra hb) ?_
  rintro _ sX ⟨eX, rfl⟩
  obtain rfl := eX.symm
  refine w_val rfl rfl (op_pure rfl) ?_
  refine w_nil ?_
  refine then_n ?_
  repeat refine wc_seq ?_
  refine wc_cond_f rfl ?_
  refine wc_skip ?_
  refine then_n ?_
  repeat refine wc_seq ?_
  refine wc_region ?_
  refine w_val rfl rfl (op_pure rfl) ?_
  refine w_val rfl rfl (op_pure rfl) ?_
  refine w_val rfl rfl (op_len rfl rfl rfl rfl rfl (Row.slenF (by assumption))) ?_
  refine w_val rfl rfl (op_add rfl rfl (by unfold In64; omega)) ?_
  refine w_val rfl rfl (op_recut rfl rfl (natA_succ _ _) rfl rfl rfl rfl hr hu (by simp)) ?_
  refine w_val rfl rfl (op_pure rfl) ?_
  refine w_nil ?_
  refine then_n ?_
  repeat refine wc_seq ?_
  refine wc_region ?_
  refine w_val rfl rfl (op_pure rfl) ?_
  refine w_val rfl rfl (op_pure rfl) ?_
  refine w_val rfl rfl (op_len rfl rfl rfl rfl rfl (Row.slenF (by assumption))) ?_
  refine w_val rfl rfl (op_idx rfl rfl (natA_cast _ _) rfl rfl rfl rfl (by assumption) (by (simp; done))) ?_
  refine w_val rfl rfl (op_load rfl rfl (by assumption) rfl) ?_
  refine w_val rfl rfl (op_pure rfl) ?_
  refine w_val rfl rfl (op_pure rfl) ?_
  refine w_val rfl rfl (op_pure rfl) ?_
  refine w_nil ?_
  refine then_n ?_
  refine wc_ret ?_
  repeat first | refine then_r ?_ | refine out_r ?_ | refine round_r ?_ | refine cut_r ?_
  exact ⟨_, rfl, rfl, rfl⟩
end Go.Ab
/- Statements that are lent. -/
namespace Go.Ab
open Go.Proofs
def TermsLF : RP (List TermL) := fun h F ts c => ∃ v, c = [v] ∧ LentF h F 3 tC [.int .i64 (-71), .int .i64 0, .str ByteArray.empty] v ts
theorem good_terms : Good TermsLF where
  keep := fun ⟨v, e, k⟩ h hY => ⟨v, e, k.keep h hY⟩
  mono := fun ⟨v, e, k⟩ h => ⟨v, e, k.mono h⟩
def StmtLF : RP StmtL := fun h F x c => ∃ vt ve, c = [.int .i64 x.kind, .str x.name, vt, ve] ∧ LentF h F 1 sC [.str markB] vt x.targets ∧ LentRF h F 1 TermsLF [.nils] ve x.exprs
theorem good_stmt : Good StmtLF where
  keep := fun ⟨vt, ve, e, k, l⟩ h hY => ⟨vt, ve, e, k.keep h hY, l.keep good_terms h hY⟩
  mono := fun ⟨vt, ve, e, k, l⟩ h => ⟨vt, ve, e, k.mono h, l.mono good_terms h⟩
theorem StmtLF.to {h : Tr Grp} {F : Nat → Prop} (x : StmtL) (c : List AV) (k : StmtLF h F x c) : StmtLR h x c := by
  obtain ⟨vt, ve, e, k, l⟩ := k
  exact ⟨vt, ve, e, k.1, l.to fun ts c ⟨v, e, hv⟩ => ⟨v, e, hv.1⟩⟩
theorem Bld.gs {α : Type} {R : RP α} {c0 hi : Nat} {s : St} {sz : Nat} {f : AV} {xs : List α} (k : Bld c0 hi s sz R f xs) : ∀ g ∈ f.gs, c0 ≤ g ∧ g < hi := by
  obtain ⟨css, hr, hn, hf, hl, hx⟩ := k
  exact hf
theorem AV.cells_leaf {v : AV} (h : v.leaf = true) : v.cells = [v] := by cases v <;> first | rfl | cases h
theorem fill1 {w z : AV} (h : w.leaf = true) : fillA (fun n => some (n * 1, 1)) [z] [(0, w)] = some [w] := by
  simp [fillA, AV.cells_leaf h, over]
set_option maxRecDepth 10000 in
theorem lentStmts_ok {s : St} {v : AV} {xs : List StmtL} (hok : s.Ok) (hl : xs.length ≤ 2097152) (hll : ∀ x ∈ xs, x.small) (hv : RowR s.h 4 StmtR v xs) :
    CallS Try.prog Tt Kt 11 [v] s (fun r s' => Keep [] s s' ∧ LentRF s'.h (Fr s.ctr s'.ctr []) 4 StmtLF [.int .i64 (-71), .str ByteArray.empty, .nils, .nils] r xs) := by
  obtain ⟨csv, hrv, hlv, hV⟩ := hv
  refine call_of (fn := Try.f11) (nt := 70) Try.func11 rfl rfl rfl ?_
  repeat refine wc_seq ?_
  refine wc_region ?_
  refine w_val rfl rfl (op_pure rfl) ?_
  refine w_nil ?_
  refine then_n ?_
  repeat refine wc_seq ?_
  refine wc_region ?_
  refine w_val rfl rfl (op_pure rfl) ?_
  refine w_nil ?_
  refine then_n ?_
  repeat refine wc_seq ?_
  have hK := Keep.refl hok
  have hsv : v.slen = some xs.length := hrv.slen.trans (congrArg some hlv)
  refine wc_region ?_
  refine w_val rfl rfl (op_pure rfl) ?_
  refine w_nil ?_
  refine then_n ?_
  repeat refine wc_seq ?_
  refine wc_block ?_
  refine wc_loop_at (fun j m s1 => ∃ (i : Nat) (f : AV), j = xs.length - i ∧ i ≤ xs.length ∧ m = [(0, v), (3, f), (4, .int .i64 (i : Nat))] ∧ Keep [] s s1 ∧ Bld s.ctr s1.ctr s1 4 StmtLF f (xs.take i)) xs.length
    [(0, v), (3, .nils), (4, .int .i64 ((0 : Nat) : Int))] (Sub.cons rfl (Sub.cons rfl (Sub.cons rfl (Sub.nil _)))) ⟨0, .nils, by simp, by simp, rfl, hK, Bld.nil⟩ ?_
  clear hK
  rintro j m s1 ⟨i, f, rfl, hi, rfl, hK, hB⟩
  have hc1 := hK.ctr
  repeat refine wc_seq ?_
  refine wc_region ?_
  refine w_val rfl rfl (op_pure rfl) ?_
  refine w_val rfl rfl (op_pure rfl) ?_
  refine w_val rfl rfl (op_len rfl rfl rfl rfl rfl (by assumption)) ?_
  refine w_val rfl rfl (op_pure rfl) ?_
  refine w_nil ?_
  refine then_n ?_
  repeat refine wc_seq ?_
  refine wc_condT rfl (fun h12 => ?_) (fun h12 => ?_)
  · simp at h12
    refine wc_skip ?_
    refine then_n ?_
    repeat refine wc_seq ?_
    refine wc_block ?_
    repeat refine wc_seq ?_
    obtain ⟨x, hx⟩ : ∃ x, xs[i]? = some x := ⟨_, List.getElem?_eq_getElem h12⟩
    obtain ⟨ca, hca⟩ : ∃ c, csv[i]? = some c := ⟨_, List.getElem?_eq_getElem (by omega)⟩
    obtain ⟨vt, ve, rfl, hvt, hve0⟩ := hV i x ca hx hca
    obtain ⟨csE, hrE, hlE, hE⟩ := hve0
    have hsE : ve.slen = some x.exprs.length := hrE.slen.trans (congrArg some hlE)
    have hz : ([.int .i64 x.kind, .str x.name, vt, ve] : List AV).all AV.leaf = true := by
      simp only [List.all_cons, List.all_nil, hvt.leaf, hrE.leaf]; rfl
    obtain ⟨hx1, hx2, hx3⟩ := hll x (List.mem_of_getElem? hx)
    refine wc_region ?_
    refine w_val rfl rfl (op_pure rfl) ?_
    refine w_val rfl rfl (op_pure rfl) ?_
    refine w_val rfl rfl (op_idx rfl rfl (natA_cast _ _) rfl rfl rfl rfl (Row.keep0 (by assumption) hK) (by omega)) ?_
    refine w_val rfl rfl (op_load rfl rfl (Row.pt (Row.keep0 (by assumption) hK) (by assumption)) rfl) ?_
    refine w_alloc rfl rfl rfl rfl hK.ok ?_
    intro s2 hp hk2 hc2
    have hK := hK.two hk2
    have hB := hB.keep good_stmt hk2 (fun g hg => by cases hg)
    refine w_store_all rfl rfl rfl rfl rfl (by rfl) hz hK.ok hp (by simp [AV.gs]) ?_
    intro s3 hp' hk3 hc3
    have hp : Pt s3.h (.ptr s1.ctr 0 0) [.int .i64 x.kind, .str x.name, vt, ve] := hp'
    have hPs : ∀ g ∈ (AV.ptr s1.ctr 0 0).gs, s.ctr ≤ g := fun g hg => by rw [List.mem_singleton.1 hg]; exact hc1
    have hK := hK.fresh hk3 hPs
    have hB := hB.keep good_stmt hk3 (fun g hg => by rw [List.mem_singleton.1 hg]; exact Nat.le_refl _)
    refine w_nil ?_
    refine then_n ?_
    repeat refine wc_seq ?_
    refine wc_region ?_
    refine w_val rfl rfl (op_fld rfl rfl rfl rfl (by decide) (by assumption) (Nat.le_of_ble_eq_true rfl)) ?_
    refine w_val rfl rfl (op_load rfl rfl (Pt.fld (by assumption) _ (Nat.le_of_ble_eq_true rfl)) rfl) ?_
    refine w_call rfl rfl (op_call rfl rfl rfl rfl) (lentStrings_ok hK.ok hx1 (hvt.keep0 hK)) ?_
    rintro vt' s4 ⟨hk4, hvt'⟩
    have hK := hK.two hk4
    have hc4 := hk4.ctr
    have hp := hp.keep hk4 (fun _ _ h => by cases h)
    have hB := hB.keep good_stmt hk4 (fun g hg => by cases hg)
    refine w_val rfl rfl (op_fld rfl rfl rfl rfl (by decide) (by assumption) (Nat.le_of_ble_eq_true rfl)) ?_
    refine w_store_fld (o := 2) rfl rfl rfl rfl (by rw [AV.cells_leaf hvt'.1.leaf]; rfl) (by simp only [AV.cells_leaf hvt'.1.leaf, List.all_cons, List.all_nil, hvt'.1.leaf]; rfl) hK.ok hp (by simp [AV.gs]) (by rw [AV.cells_leaf hvt'.1.leaf]; exact Nat.le_of_ble_eq_true rfl) ?_
    intro s5 hp' hk5 hc5
    have hp : Pt s5.h (.ptr s1.ctr 0 0) [.int .i64 x.kind, .str x.name, vt', ve] := by rw [AV.cells_leaf hvt'.1.leaf] at hp'; exact hp'
    have hK := hK.fresh hk5 hPs
    have hB := hB.keep good_stmt hk5 (fun g hg => by rw [List.mem_singleton.1 hg]; exact Nat.le_refl _)
    have hvt' := hvt'.keep hk5 (fun g hg h => by rw [List.mem_singleton.1 hg] at h; have := h.1; omega)
    refine w_nil ?_
    refine then_n ?_
    repeat refine wc_seq ?_
    refine wc_region ?_
    refine w_val rfl rfl (op_pure rfl) ?_
    refine w_nil ?_
    refine then_n ?_
    repeat refine wc_seq ?_
    refine wc_region ?_
    refine w_val rfl rfl (op_pure rfl) ?_
    refine w_nil ?_
    refine then_n ?_
    repeat refine wc_seq ?_
    refine wc_block ?_
    refine wc_loop_at (fun j m s6 => ∃ (k : Nat) (e : AV), j = x.exprs.length - k ∧ k ≤ x.exprs.length ∧ m = [(0, v), (3, f), (4, .int .i64 (i : Nat)), (5, .ptr s1.ctr 0 0), (6, e), (7, .int .i64 (k : Nat))] ∧ Keep [] s s6 ∧ Pt s6.h (.ptr s1.ctr 0 0) [.int .i64 x.kind, .str x.name, vt', ve] ∧
        Bld s.ctr s1.ctr s6 4 StmtLF f (xs.take i) ∧ LentF s6.h (Fr s3.ctr s4.ctr []) 1 sC [.str markB] vt' x.targets ∧ s5.ctr ≤ s6.ctr ∧ Bld s5.ctr s6.ctr s6 1 TermsLF e (x.exprs.take k)) x.exprs.length
      [(0, v), (3, f), (4, .int .i64 (i : Nat)), (5, .ptr s1.ctr 0 0), (6, .nils), (7, .int .i64 ((0 : Nat) : Int))] (Sub.cons rfl (Sub.cons rfl (Sub.cons rfl (Sub.cons rfl (Sub.cons rfl (Sub.cons rfl (Sub.nil _)))))))
      ⟨0, .nils, by simp, by simp, rfl, hK, hp, hB, hvt', Nat.le_refl _, Bld.nil⟩ ?_
    clear hK hp hB hvt'
    rintro j1 m1 s6 ⟨k, e, rfl, hk, rfl, hK, hp, hB, hvt', hc6, hE6⟩
    repeat refine wc_seq ?_
    refine wc_region ?_
    refine w_val rfl rfl (op_pure rfl) ?_
    refine w_val rfl rfl (op_pure rfl) ?_
    refine w_val rfl rfl (op_pure rfl) ?_
    refine w_val rfl rfl (op_idx rfl rfl (natA_cast _ _) rfl rfl rfl rfl (Row.keep0 (by assumption) hK) (by omega)) ?_
    refine w_val rfl rfl (op_fld rfl rfl rfl rfl (by decide) (Row.pt (Row.keep0 (by assumption) hK) (by assumption)) (Nat.le_of_ble_eq_true rfl)) ?_
    refine w_val rfl rfl (op_load rfl rfl (Pt.fld (Row.pt (Row.keep0 (by assumption) hK) (by assumption)) _ (Nat.le_of_ble_eq_true rfl)) rfl) ?_
    refine w_val rfl rfl (op_len rfl rfl rfl rfl rfl (by assumption)) ?_
    refine w_val rfl rfl (op_pure rfl) ?_
    refine w_nil ?_
    refine then_n ?_
    repeat refine wc_seq ?_
    refine wc_condT rfl (fun h30 => ?_) (fun h30 => ?_)
    · simp at h30
      refine wc_skip ?_
      refine then_n ?_
      repeat refine wc_seq ?_
      refine wc_block ?_
      repeat refine wc_seq ?_
      obtain ⟨ts, hts⟩ : ∃ x', x.exprs[k]? = some x' := ⟨_, List.getElem?_eq_getElem h30⟩
      obtain ⟨ce, hce⟩ : ∃ c, csE[k]? = some c := ⟨_, List.getElem?_eq_getElem (by omega)⟩
      obtain ⟨w0, rfl, hw0⟩ := hE k ts ce hts hce
      have htl := hx3 ts (List.mem_of_getElem? hts)
      refine wc_region ?_
      refine w_val rfl rfl (op_pure rfl) ?_
      refine w_val rfl rfl (op_pure rfl) ?_
      refine w_val rfl rfl (op_idx rfl rfl (natA_cast _ _) rfl rfl rfl rfl (Row.keep0 (by assumption) hK) (by omega)) ?_
      refine w_val rfl rfl (op_fld rfl rfl rfl rfl (by decide) (Row.pt (Row.keep0 (by assumption) hK) (by assumption)) (Nat.le_of_ble_eq_true rfl)) ?_
      refine w_val rfl rfl (op_load rfl rfl (Pt.fld (Row.pt (Row.keep0 (by assumption) hK) (by assumption)) _ (Nat.le_of_ble_eq_true rfl)) rfl) ?_
      refine w_val rfl rfl (op_pure rfl) ?_
      refine w_val rfl rfl (op_idx rfl rfl (natA_cast _ _) rfl rfl rfl rfl (Row.keep0 (by assumption) hK) (by omega)) ?_
      refine w_val rfl rfl (op_load rfl rfl (Row.pt (Row.keep0 (by assumption) hK) (by assumption)) rfl) ?_
      refine w_call rfl rfl (op_call rfl rfl rfl rfl) (lentTerms_ok hK.ok htl (hw0.keep0 hK)) ?_
      rintro w s7 ⟨hk7, hw⟩
      have hK := hK.two hk7
      have hc7 := hk7.ctr
      have hp := hp.keep hk7 (fun _ _ h => by cases h)
      have hB := hB.keep good_stmt hk7 (fun g hg => by cases hg)
      have hvt' := hvt'.keep hk7 (fun g hg => by cases hg)
      have hE6 := hE6.keep good_terms hk7 (fun g hg => by cases hg)
      refine w_val rfl rfl (op_pure rfl) ?_
      refine w_nil ?_
      refine then_n ?_
      refine wc_region ?_
      refine w_val rfl rfl (op_pure rfl) ?_
      refine w_val rfl rfl (op_pure rfl) ?_
      refine w_lit1 (c := [w]) rfl rfl rfl rfl rfl rfl rfl (by decide) (by decide) (fill1 hw.1.leaf) (by simp only [List.all_cons, List.all_nil, hw.1.leaf]; rfl) rfl hK.ok ?_
      rintro b8 s8 hb8 hk8 hc8 -
      have hK := hK.two hk8
      have hp := hp.keep hk8 (fun _ _ h => by cases h)
      have hB := hB.keep good_stmt hk8 (fun g hg => by cases hg)
      have hvt' := hvt'.keep hk8 (fun g hg => by cases hg)
      have hE6 := hE6.keep good_terms hk8 (fun g hg => by cases hg)
      have hw := hw.keep hk8 (fun g hg => by cases hg)
      have heg : ∀ g ∈ e.gs, s5.ctr ≤ g ∧ g < s6.ctr := hE6.gs
      refine w_app_bld good_terms (z := ts) (sz := 1) rfl rfl rfl rfl rfl rfl rfl rfl rfl (by decide) rfl hK.ok hE6 (by omega) (by omega) hb8 ⟨w, rfl, hw.mono fun g ⟨q1, q2, _⟩ => ⟨by omega, by omega, fun h => by have := (heg g h).2; omega⟩⟩ (by simp only [List.length_take, maxBytes]; omega) (by simp only [List.length_take, maxBytes]; omega) ?_
      rintro e9 s9 hE9 hk9 -
      have hc9 := hk9.ctr
      rw [take_snoc hts] at hE9
      have hK := hK.fresh hk9 (fun g hg => by have := (heg g hg).1; omega)
      have hp := hp.keep hk9 (fun g hg h => by rw [List.mem_singleton.1 hg] at h; have := (heg _ h).1; omega)
      have hB := hB.keep good_stmt hk9 (fun g hg => by have := (heg g hg).1; omega)
      have hvt' := hvt'.keep hk9 (fun g hg h => by have := (heg g hg).1; have := h.2.1; omega)
      refine w_val rfl rfl (op_pure rfl) ?_
      refine w_nil ?_
      refine out_n ?_
      refine then_n ?_
      refine wc_region ?_
      refine w_val rfl rfl (op_pure rfl) ?_
      refine w_val rfl rfl (op_add rfl rfl (by unfold In64; omega)) ?_
      refine w_val rfl rfl (op_pure rfl) ?_
      refine w_nil ?_
      exact round_n _ _ (by omega) (Sub.cons rfl (Sub.cons rfl (Sub.cons rfl (Sub.cons rfl (Sub.cons rfl (Sub.cons rfl (Sub.nil _))))))) ⟨k + 1, e9, rfl, by omega, rfl, hK, hp, hB, hvt', by omega, hE9⟩
    simp at h30
    obtain rfl : k = x.exprs.length := by omega
    rw [List.take_length] at hE6
    refine wc_exit ?_
    repeat first | refine then_x ?_ | refine round_x ?_ | refine cut_x ?_ | refine out_x' (by decide) ?_
    refine out_x ?_
    refine then_n ?_
    repeat refine wc_seq ?_
    refine wc_region ?_
    refine w_val rfl rfl (op_pure rfl) ?_
    refine w_lit1 (c := [.nils]) rfl rfl rfl rfl rfl rfl rfl (by decide) (by decide) rfl rfl rfl hK.ok ?_
    rintro b8 s8 hb8 hk8 hc8 -
    have hK := hK.two hk8
    have hp := hp.keep hk8 (fun _ _ h => by cases h)
    have hB := hB.keep good_stmt hk8 (fun g hg => by cases hg)
    have hvt' := hvt'.keep hk8 (fun g hg => by cases hg)
    have hE6 := hE6.keep good_terms hk8 (fun g hg => by cases hg)
    have heg : ∀ g ∈ e.gs, s5.ctr ≤ g ∧ g < s6.ctr := hE6.gs
    refine w_app_mark good_terms (sz := 1) rfl rfl rfl rfl rfl rfl rfl rfl rfl (by decide) rfl hK.ok hE6 (by omega) (by omega) hb8 (by simp only [maxBytes]; omega) (by simp only [maxBytes]; omega) ?_
    rintro e9 s9 cse hr9 hl9 hE9 hk9
    have hc9 := hk9.ctr
    have hK := hK.fresh hk9 (fun g hg => by have := (heg g hg).1; omega)
    have hp := hp.keep hk9 (fun g hg h => by rw [List.mem_singleton.1 hg] at h; have := (heg _ h).1; omega)
    have hB := hB.keep good_stmt hk9 (fun g hg => by have := (heg g hg).1; omega)
    have hvt' := hvt'.keep hk9 (fun g hg h => by have := (heg g hg).1; have := h.2.1; omega)
    refine w_val rfl rfl (op_pure rfl) ?_
    refine w_nil ?_
    refine then_n ?_
    repeat refine wc_seq ?_
    refine wc_region ?_
    refine w_val rfl rfl (op_pure rfl) ?_
    refine w_val rfl rfl (op_pure rfl) ?_
    refine w_val rfl rfl (op_pure rfl) ?_
    refine w_val rfl rfl (op_idx rfl rfl (natA_cast _ _) rfl rfl rfl rfl (Row.keep0 (by assumption) hK) (by omega)) ?_
    refine w_val rfl rfl (op_fld rfl rfl rfl rfl (by decide) (Row.pt (Row.keep0 (by assumption) hK) (by assumption)) (Nat.le_of_ble_eq_true rfl)) ?_
    refine w_val rfl rfl (op_load rfl rfl (Pt.fld (Row.pt (Row.keep0 (by assumption) hK) (by assumption)) _ (Nat.le_of_ble_eq_true rfl)) rfl) ?_
    refine w_val rfl rfl (op_len rfl rfl rfl rfl rfl (by assumption)) ?_
    refine w_val rfl rfl (op_cut (l := none) (h := some x.exprs.length) (l' := 0) (h' := x.exprs.length) rfl rfl (optY_some rfl (natA_cast _ _)) rfl rfl rfl rfl hr9 rfl rfl (Nat.zero_le _) (by simp; omega)) ?_
    have hlf : (cutA e9 0 x.exprs.length).leaf = true := (hr9.less hl9).leaf
    refine w_val rfl rfl (op_fld rfl rfl rfl rfl (by decide) (by assumption) (Nat.le_of_ble_eq_true rfl)) ?_
    refine w_store_fld (o := 3) rfl rfl rfl rfl (by rw [AV.cells_leaf hlf]; rfl) (by simp only [AV.cells_leaf hlf, List.all_cons, List.all_nil, hlf]; rfl) hK.ok hp (by simp [AV.gs]) (by rw [AV.cells_leaf hlf]; exact Nat.le_of_ble_eq_true rfl) ?_
    intro s10 hp' hk10 hc10
    have hp : Pt s10.h (.ptr s1.ctr 0 0) [.int .i64 x.kind, .str x.name, vt', cutA e9 0 x.exprs.length] := by rw [AV.cells_leaf hlf] at hp'; exact hp'
    have hK := hK.fresh hk10 hPs
    have hB := hB.keep good_stmt hk10 (fun g hg => by rw [List.mem_singleton.1 hg]; exact Nat.le_refl _)
    have hvt' := hvt'.keep hk10 (fun g hg h => by rw [List.mem_singleton.1 hg] at h; have := h.1; omega)
    have hE9 := hE9.keep good_terms hk10 (fun g hg h => by rw [List.mem_singleton.1 hg] at h; have := h.1; omega)
    refine w_nil ?_
    refine then_n ?_
    refine wc_region ?_
    refine w_val rfl rfl (op_pure rfl) ?_
    refine w_val rfl rfl (op_load rfl rfl (by assumption) rfl) ?_
    refine w_lit1 (c := [.int .i64 x.kind, .str x.name, vt', cutA e9 0 x.exprs.length]) rfl rfl rfl rfl rfl rfl rfl (by decide) (by decide) rfl (by simp only [List.all_cons, List.all_nil, hvt'.1.leaf, hlf]; rfl) rfl hK.ok ?_
    rintro b11 s11 hb11 hk11 hc11 -
    have hK := hK.two hk11
    have hB := hB.keep good_stmt hk11 (fun g hg => by cases hg)
    have hvt' := hvt'.keep hk11 (fun g hg => by cases hg)
    have hE9 := hE9.keep good_terms hk11 (fun g hg => by cases hg)
    have hfg : ∀ g ∈ f.gs, s.ctr ≤ g ∧ g < s1.ctr := hB.gs
    refine w_app_bld good_stmt (z := x) (sz := 4) rfl rfl rfl rfl rfl rfl rfl rfl rfl (by decide) rfl hK.ok hB (by omega) (by omega) hb11
      ⟨vt', _, rfl, hvt'.mono fun g ⟨q1, q2, _⟩ => ⟨by omega, by omega, fun h => by have := (hfg g h).2; omega⟩, hE9.mono good_terms fun g ⟨q1, q2, _⟩ => ⟨by omega, by omega, fun h => by have := (hfg g h).2; omega⟩⟩ (by simp only [List.length_take, maxBytes]; omega) (by simp only [List.length_take, maxBytes]; omega) ?_
    rintro f12 s12 hB12 hk12 -
    rw [take_snoc hx] at hB12
    have hK := hK.fresh hk12 (fun g hg => (hfg g hg).1)
    refine w_val rfl rfl (op_pure rfl) ?_
    refine w_nil ?_
    refine out_n ?_
    refine then_n ?_
    refine wc_region ?_
    refine w_val rfl rfl (op_pure rfl) ?_
    refine w_val rfl rfl (op_add rfl rfl (by unfold In64; omega)) ?_
    refine w_val rfl rfl (op_pure rfl) ?_
    refine w_nil ?_
    exact round_n _ _ (by omega) (Sub.cons rfl (Sub.cons rfl (Sub.cons rfl (Sub.nil _)))) ⟨i + 1, f12, rfl, by omega, rfl, hK, hB12⟩
  simp at h12
  obtain rfl : i = xs.length := by omega
  rw [List.take_length] at hB
  refine wc_exit ?_
  repeat first | refine then_x ?_ | refine round_x ?_ | refine cut_x ?_ | refine out_x' (by decide) ?_
  refine out_x ?_
  refine then_n ?_
  repeat refine wc_seq ?_
  refine wc_region ?_
  refine w_val rfl rfl (op_pure rfl) ?_
  refine w_val rfl rfl (op_pure rfl) ?_
  refine w_lit1 (c := [.int .i64 (-71), .str ByteArray.empty, .nils, .nils]) rfl rfl rfl rfl rfl rfl rfl (by decide) (by decide) rfl rfl rfl hK.ok ?_
  rintro b2 s2 hb2 hk2 hc2 -
  have hK := hK.two hk2
  have hB := hB.keep good_stmt hk2 (fun g hg => by cases hg)
  have hfg : ∀ g ∈ f.gs, s.ctr ≤ g ∧ g < s1.ctr := hB.gs
  refine w_app_mark good_stmt (sz := 4) rfl rfl rfl rfl rfl rfl rfl rfl rfl (by decide) rfl hK.ok hB (by omega) (by omega) hb2 (by simp only [maxBytes]; omega) (by simp only [maxBytes]; omega) ?_
  rintro f3 s3 cs3 hr3 hl3 hL3 hk3
  have hK := hK.fresh hk3 (fun g hg => (hfg g hg).1)
  refine w_val rfl rfl (op_pure rfl) ?_
  refine w_nil ?_
  refine then_n ?_
  repeat refine wc_seq ?_
  refine wc_region ?_
  refine w_val rfl rfl (op_pure rfl) ?_
  refine w_val rfl rfl (op_pure rfl) ?_
  refine w_val rfl rfl (op_len rfl rfl rfl rfl rfl (by assumption)) ?_
  refine w_val rfl rfl (op_cut (l := none) (h := some xs.length) (l' := 0) (h' := xs.length) rfl rfl (optY_some rfl (natA_cast _ _)) rfl rfl rfl rfl hr3 rfl rfl (Nat.zero_le _) (by simp; omega)) ?_
  refine w_val rfl rfl (op_pure rfl) ?_
  refine w_nil ?_
  refine then_n ?_
  refine wc_ret ?_
  repeat first | refine then_r ?_ | refine out_r ?_ | refine round_r ?_ | refine cut_r ?_
  exact ⟨_, rfl, hK, hL3⟩
end Go.Ab
/- Functions: lent, the same, kept. -/
namespace Go.Ab
open Go.Proofs
structure FuncL where
  level : Int
  params : List Int
  results : List Int
  locals : Int
  stack : Int
  code : List InstrL
def FuncL.small (x : FuncL) : Prop := x.params.length ≤ 2097152 ∧ x.results.length ≤ 2097152 ∧ x.code.length ≤ 2097152
def FuncR (h : Tr Grp) (x : FuncL) (c : List AV) : Prop := ∃ vp vr vc, c = [.int .u64 x.level, vp, vr, .int .i64 x.locals, .int .i64 x.stack, vc] ∧ Row h 1 vp (x.params.map lC) ∧ Row h 1 vr (x.results.map lC) ∧ Row h 2 vc (x.code.map inC)
def FuncLF : RP FuncL := fun h F x c => ∃ vp vr vc, c = [.int .u64 x.level, vp, vr, .int .i64 x.locals, .int .i64 x.stack, vc] ∧ LentF h F 1 lC [.int .u64 7171] vp x.params ∧ LentF h F 1 lC [.int .u64 7171] vr x.results ∧ LentF h F 2 inC [.int .i64 (-71), .int .i64 0] vc x.code
def FuncLR (h : Tr Grp) (x : FuncL) (c : List AV) : Prop := ∃ vp vr vc, c = [.int .u64 x.level, vp, vr, .int .i64 x.locals, .int .i64 x.stack, vc] ∧ Lent h 1 lC [.int .u64 7171] vp x.params ∧ Lent h 1 lC [.int .u64 7171] vr x.results ∧ Lent h 2 inC [.int .i64 (-71), .int .i64 0] vc x.code
theorem good_func : Good FuncLF where
  keep := fun ⟨vp, vr, vc, e, h1, h2, h3⟩ h hY => ⟨vp, vr, vc, e, h1.keep h hY, h2.keep h hY, h3.keep h hY⟩
  mono := fun ⟨vp, vr, vc, e, h1, h2, h3⟩ h => ⟨vp, vr, vc, e, h1.mono h, h2.mono h, h3.mono h⟩
theorem FuncLF.to {h : Tr Grp} {F : Nat → Prop} (x : FuncL) (c : List AV) (k : FuncLF h F x c) : FuncLR h x c := by
  obtain ⟨vp, vr, vc, e, h1, h2, h3⟩ := k
  exact ⟨vp, vr, vc, e, h1.1, h2.1, h3.1⟩
theorem FuncLR.to {h : Tr Grp} (x : FuncL) (c : List AV) (k : FuncLR h x c) : FuncR h x c := by
  obtain ⟨vp, vr, vc, e, h1, h2, h3⟩ := k
  exact ⟨vp, vr, vc, e, h1.row, h2.row, h3.row⟩
theorem FuncR.keep0 {s s' : St} {x : FuncL} {c : List AV} (k : FuncR s.h x c) (h : Keep [] s s') : FuncR s'.h x c := by
  obtain ⟨vp, vr, vc, e, h1, h2, h3⟩ := k
  exact ⟨vp, vr, vc, e, h1.keep0 h, h2.keep0 h, h3.keep0 h⟩
theorem FuncLR.keep0 {s s' : St} {x : FuncL} {c : List AV} (k : FuncLR s.h x c) (h : Keep [] s s') : FuncLR s'.h x c := by
  obtain ⟨vp, vr, vc, e, h1, h2, h3⟩ := k
  exact ⟨vp, vr, vc, e, h1.keep h (fun _ _ h => by cases h), h2.keep h (fun _ _ h => by cases h), h3.keep h (fun _ _ h => by cases h)⟩
theorem FuncR.bare {s : St} {x : FuncL} {c : List AV} (k : FuncR s.h x c) : FuncR s.bare.h x c := k
theorem FuncLR.bare {s : St} {x : FuncL} {c : List AV} (k : FuncLR s.h x c) : FuncLR s.bare.h x c := k
theorem FuncR.leaf {h : Tr Grp} {x : FuncL} {c : List AV} (k : FuncR h x c) : c.length = 6 ∧ c.all AV.leaf = true := by
  obtain ⟨vp, vr, vc, rfl, h1, h2, h3⟩ := k
  exact ⟨rfl, by simp only [List.all_cons, List.all_nil, h1.leaf, h2.leaf, h3.leaf]; rfl⟩
set_option maxRecDepth 10000 in
theorem lentFunction_ok {s : St} {c : List AV} {x : FuncL} (hok : s.Ok) (hx : x.small) (hv : FuncR s.h x c) :
    CallS Try.prog Tt Kt 64 [.agg c] s (fun r s' => Keep [] s s' ∧ ∃ c', r = .agg c' ∧ FuncLF s'.h (Fr s.ctr s'.ctr []) x c') := by
  have hz := hv.leaf.2
  obtain ⟨vp, vr, vc, rfl, hvp, hvr, hvc⟩ := hv
  obtain ⟨hx1, hx2, hx3⟩ := hx
  refine call_of (fn := Try.f64) (nt := 16) Try.func64 rfl rfl rfl ?_
  repeat refine wc_seq ?_
  refine wc_region ?_
  refine w_box rfl rfl rfl hz hok ?_
  intro s1 hp1 hk1 hc1
  have hK := (Keep.refl hok).two hk1
  have hp : Pt s1.h (.ptr s.ctr 0 0) [.int .u64 x.level, vp, vr, .int .i64 x.locals, .int .i64 x.stack, vc] := hp1
  refine w_alloc rfl rfl rfl rfl hK.ok ?_
  intro s2 hq hk2 hc2
  have hK := hK.two hk2
  have hp := hp.keep0 hk2
  refine w_nil ?_
  refine then_n ?_
  repeat refine wc_seq ?_
  refine wc_region ?_
  refine w_val rfl rfl (op_fld rfl rfl rfl rfl (by decide) (by assumption) (Nat.le_of_ble_eq_true rfl)) ?_
  refine w_val rfl rfl (op_load rfl rfl (Pt.fld (by assumption) _ (Nat.le_of_ble_eq_true rfl)) rfl) ?_
  refine w_call rfl rfl (op_call rfl rfl rfl rfl) (lentLabels_ok hK.ok hx1 (hvp.keep0 hK)) ?_
  rintro vp' s3 ⟨hk3, hvp'⟩
  have hc3 := hk3.ctr
  have hK := hK.two hk3
  have hp := hp.keep0 hk3
  have hq := hq.keep0 hk3
  refine w_val rfl rfl (op_fld rfl rfl rfl rfl (by decide) (by assumption) (Nat.le_of_ble_eq_true rfl)) ?_
  refine w_store_fld (o := 1) rfl rfl rfl rfl (by rw [AV.cells_leaf hvp'.1.leaf]; rfl) (by simp only [AV.cells_leaf hvp'.1.leaf, List.all_cons, List.all_nil, hvp'.1.leaf]; rfl) hK.ok hp (by simp [AV.gs]) (by rw [AV.cells_leaf hvp'.1.leaf]; exact Nat.le_of_ble_eq_true rfl) ?_
  intro s4 hp' hk4 hc4
  have hp : Pt s4.h (.ptr s.ctr 0 0) [.int .u64 x.level, vp', vr, .int .i64 x.locals, .int .i64 x.stack, vc] := by rw [AV.cells_leaf hvp'.1.leaf] at hp'; exact hp'
  have hK := hK.fresh hk4 (mem_none s)
  have hq := hq.keep hk4 (fun g hg h => by rw [List.mem_singleton.1 hg] at h; have := List.mem_singleton.1 h; omega)
  have hvp' := hvp'.keep hk4 (fun g hg h => by rw [List.mem_singleton.1 hg] at h; have := h.1; omega)
  refine w_nil ?_
  refine then_n ?_
  repeat refine wc_seq ?_
  refine wc_region ?_
  refine w_val rfl rfl (op_fld rfl rfl rfl rfl (by decide) (by assumption) (Nat.le_of_ble_eq_true rfl)) ?_
  refine w_val rfl rfl (op_load rfl rfl (Pt.fld (by assumption) _ (Nat.le_of_ble_eq_true rfl)) rfl) ?_
  refine w_call rfl rfl (op_call rfl rfl rfl rfl) (lentLabels_ok hK.ok hx2 (hvr.keep0 hK)) ?_
  rintro vr' s5 ⟨hk5, hvr'⟩
  have hc5 := hk5.ctr
  have hK := hK.two hk5
  have hp := hp.keep0 hk5
  have hq := hq.keep0 hk5
  have hvp' := hvp'.keep hk5 (fun g hg => by cases hg)
  refine w_val rfl rfl (op_fld rfl rfl rfl rfl (by decide) (by assumption) (Nat.le_of_ble_eq_true rfl)) ?_
  refine w_store_fld (o := 2) rfl rfl rfl rfl (by rw [AV.cells_leaf hvr'.1.leaf]; rfl) (by simp only [AV.cells_leaf hvr'.1.leaf, List.all_cons, List.all_nil, hvr'.1.leaf]; rfl) hK.ok hp (by simp [AV.gs]) (by rw [AV.cells_leaf hvr'.1.leaf]; exact Nat.le_of_ble_eq_true rfl) ?_
  intro s6 hp' hk6 hc6
  have hp : Pt s6.h (.ptr s.ctr 0 0) [.int .u64 x.level, vp', vr', .int .i64 x.locals, .int .i64 x.stack, vc] := by rw [AV.cells_leaf hvr'.1.leaf] at hp'; exact hp'
  have hK := hK.fresh hk6 (mem_none s)
  have hq := hq.keep hk6 (fun g hg h => by rw [List.mem_singleton.1 hg] at h; have := List.mem_singleton.1 h; omega)
  have hvp' := hvp'.keep hk6 (fun g hg h => by rw [List.mem_singleton.1 hg] at h; have := h.1; omega)
  have hvr' := hvr'.keep hk6 (fun g hg h => by rw [List.mem_singleton.1 hg] at h; have := h.1; omega)
  refine w_nil ?_
  refine then_n ?_
  repeat refine wc_seq ?_
  refine wc_region ?_
  refine w_val rfl rfl (op_fld rfl rfl rfl rfl (by decide) (by assumption) (Nat.le_of_ble_eq_true rfl)) ?_
  refine w_val rfl rfl (op_load rfl rfl (Pt.fld (by assumption) _ (Nat.le_of_ble_eq_true rfl)) rfl) ?_
  refine w_call rfl rfl (op_call rfl rfl rfl rfl) (lentCode_ok hK.ok hx3 (hvc.keep0 hK)) ?_
  rintro vc' s7 ⟨hk7, hvc'⟩
  have hc7 := hk7.ctr
  have hK := hK.two hk7
  have hp := hp.keep0 hk7
  have hq := hq.keep0 hk7
  have hvp' := hvp'.keep hk7 (fun g hg => by cases hg)
  have hvr' := hvr'.keep hk7 (fun g hg => by cases hg)
  refine w_val rfl rfl (op_fld rfl rfl rfl rfl (by decide) (by assumption) (Nat.le_of_ble_eq_true rfl)) ?_
  refine w_store_fld (o := 5) rfl rfl rfl rfl (by rw [AV.cells_leaf hvc'.1.leaf]; rfl) (by simp only [AV.cells_leaf hvc'.1.leaf, List.all_cons, List.all_nil, hvc'.1.leaf]; rfl) hK.ok hp (by simp [AV.gs]) (by rw [AV.cells_leaf hvc'.1.leaf]; exact Nat.le_of_ble_eq_true rfl) ?_
  intro s8 hp' hk8 hc8
  have hp : Pt s8.h (.ptr s.ctr 0 0) [.int .u64 x.level, vp', vr', .int .i64 x.locals, .int .i64 x.stack, vc'] := by rw [AV.cells_leaf hvc'.1.leaf] at hp'; exact hp'
  have hK := hK.fresh hk8 (mem_none s)
  have hq := hq.keep hk8 (fun g hg h => by rw [List.mem_singleton.1 hg] at h; have := List.mem_singleton.1 h; omega)
  have hvp' := hvp'.keep hk8 (fun g hg h => by rw [List.mem_singleton.1 hg] at h; have := h.1; omega)
  have hvr' := hvr'.keep hk8 (fun g hg h => by rw [List.mem_singleton.1 hg] at h; have := h.1; omega)
  have hvc' := hvc'.keep hk8 (fun g hg h => by rw [List.mem_singleton.1 hg] at h; have := h.1; omega)
  refine w_nil ?_
  refine then_n ?_
  repeat refine wc_seq ?_
  refine wc_region ?_
  refine w_val rfl rfl (op_load rfl rfl (by assumption) rfl) ?_
  have hz' : ([.int .u64 x.level, vp', vr', .int .i64 x.locals, .int .i64 x.stack, vc'] : List AV).all AV.leaf = true := by
    simp only [List.all_cons, List.all_nil, hvp'.1.leaf, hvr'.1.leaf, hvc'.1.leaf]; rfl
  refine w_store_all rfl rfl rfl rfl rfl (by rfl) hz' hK.ok hq (by simp [AV.gs]) ?_
  intro s9 hq' hk9 hc9
  have hq : Pt s9.h (.ptr s1.ctr 0 0) [.int .u64 x.level, vp', vr', .int .i64 x.locals, .int .i64 x.stack, vc'] := hq'
  have hK := hK.fresh hk9 (fun g hg => by rw [List.mem_singleton.1 hg]; omega)
  have hm : ∀ {a b : Nat}, s2.ctr ≤ a → b ≤ s9.ctr → ∀ g, Fr a b [] g → Fr s.ctr s9.ctr [] g := fun h1 h2 g ⟨q1, q2, _⟩ => ⟨by omega, by omega, fun h => by cases h⟩
  have hvp' := (hvp'.keep hk9 (fun g hg h => by rw [List.mem_singleton.1 hg] at h; have := h.1; omega)).mono (hm (by omega) (by omega))
  have hvr' := (hvr'.keep hk9 (fun g hg h => by rw [List.mem_singleton.1 hg] at h; have := h.1; omega)).mono (hm (by omega) (by omega))
  have hvc' := (hvc'.keep hk9 (fun g hg h => by rw [List.mem_singleton.1 hg] at h; have := h.1; omega)).mono (hm (by omega) (by omega))
  refine w_nil ?_
  refine then_n ?_
  refine wc_ret ?_
  repeat first | refine then_r ?_ | refine out_r ?_ | refine round_r ?_ | refine cut_r ?_
  exact ⟨_, res_cell rfl rfl hq rfl, hK, _, rfl, vp', vr', vc', rfl, hvp', hvr', hvc'⟩
set_option maxRecDepth 10000 in
theorem function_same {s : St} {ca cb : List AV} {x : FuncL} (hok : s.Ok) (hx : x.small) (hva : FuncR s.h x ca) (hvb : FuncR s.h x cb) :
    CallS Try.prog Tt Kt 79 [.agg ca, .agg cb] s (fun v s' => Keep [] s s' ∧ v = .bool true) := by
  have hza := hva.leaf.2
  have hzb := hvb.leaf.2
  obtain ⟨vpa, vra, vca, rfl, hpra, hrra, hcra⟩ := hva
  obtain ⟨vpb, vrb, vcb, rfl, hprb, hrrb, hcrb⟩ := hvb
  obtain ⟨hx1, hx2, hx3⟩ := hx
  refine call_of (fn := Try.f79) (nt := 45) Try.func79 rfl rfl rfl ?_
  repeat refine wc_seq ?_
  refine wc_region ?_
  refine w_box rfl rfl rfl hza hok ?_
  intro s1 hp1 hk1 hc1
  have hK := (Keep.refl hok).two hk1
  have hpa : Pt s1.h (.ptr s.ctr 0 0) [.int .u64 x.level, vpa, vra, .int .i64 x.locals, .int .i64 x.stack, vca] := hp1
  clear hp1
  refine w_box rfl rfl rfl hzb hK.ok ?_
  intro s2 hp2 hk2 hc2
  have hK := hK.two hk2
  have hpa := hpa.keep0 hk2
  have hpb : Pt s2.h (.ptr s1.ctr 0 0) [.int .u64 x.level, vpb, vrb, .int .i64 x.locals, .int .i64 x.stack, vcb] := hp2
  clear hp2
  refine w_val rfl rfl (op_pure rfl) ?_
  refine w_nil ?_
  refine then_n ?_
  repeat refine wc_seq ?_
  refine wc_region ?_
  refine w_val rfl rfl (op_fld rfl rfl rfl rfl (by decide) (by assumption) (Nat.le_of_ble_eq_true rfl)) ?_
  refine w_val rfl rfl (op_load rfl rfl (by assumption) rfl) ?_
  refine w_val rfl rfl (op_fld rfl rfl rfl rfl (by decide) (by assumption) (Nat.le_of_ble_eq_true rfl)) ?_
  refine w_val rfl rfl (op_load rfl rfl (by assumption) rfl) ?_
  refine w_val rfl rfl (op_pure rfl) ?_
  refine w_val rfl rfl (op_pure rfl) ?_
  refine w_split (i := 10) rfl (fun h10 => ?_) (fun h10 => ?_)
  · clear h10
    refine w_val rfl rfl (op_fld rfl rfl rfl rfl (by decide) (by assumption) (Nat.le_of_ble_eq_true rfl)) ?_
    refine w_val rfl rfl (op_load rfl rfl (Pt.fld (by assumption) _ (Nat.le_of_ble_eq_true rfl)) rfl) ?_
    refine w_val rfl rfl (op_fld rfl rfl rfl rfl (by decide) (by assumption) (Nat.le_of_ble_eq_true rfl)) ?_
    refine w_val rfl rfl (op_load rfl rfl (Pt.fld (by assumption) _ (Nat.le_of_ble_eq_true rfl)) rfl) ?_
    refine w_call rfl rfl (op_call rfl rfl rfl rfl) (labels_same hx1 (hpra.keep0 hK) (hprb.keep0 hK)) ?_
    rintro _ sX ⟨eX, rfl⟩
    obtain rfl := eX.symm
    refine w_val rfl rfl (op_pure rfl) ?_
    refine w_val rfl rfl (op_pure rfl) ?_
    refine w_val rfl rfl (op_fld rfl rfl rfl rfl (by decide) (by assumption) (Nat.le_of_ble_eq_true rfl)) ?_
    refine w_val rfl rfl (op_load rfl rfl (Pt.fld (by assumption) _ (Nat.le_of_ble_eq_true rfl)) rfl) ?_
    refine w_val rfl rfl (op_fld rfl rfl rfl rfl (by decide) (by assumption) (Nat.le_of_ble_eq_true rfl)) ?_
    refine w_val rfl rfl (op_load rfl rfl (Pt.fld (by assumption) _ (Nat.le_of_ble_eq_true rfl)) rfl) ?_
    refine w_call rfl rfl (op_call rfl rfl rfl rfl) (labels_same hx2 (hrra.keep0 hK) (hrrb.keep0 hK)) ?_
    rintro _ sX ⟨eX, rfl⟩
    obtain rfl := eX.symm
    refine w_val rfl rfl (op_pure rfl) ?_
    refine w_val rfl rfl (op_pure rfl) ?_
    refine w_val rfl rfl (op_fld rfl rfl rfl rfl (by decide) (by assumption) (Nat.le_of_ble_eq_true rfl)) ?_
    refine w_val rfl rfl (op_load rfl rfl (Pt.fld (by assumption) _ (Nat.le_of_ble_eq_true rfl)) rfl) ?_
    refine w_val rfl rfl (op_fld rfl rfl rfl rfl (by decide) (by assumption) (Nat.le_of_ble_eq_true rfl)) ?_
    refine w_val rfl rfl (op_load rfl rfl (Pt.fld (by assumption) _ (Nat.le_of_ble_eq_true rfl)) rfl) ?_
    refine w_val rfl rfl (op_pure rfl) ?_
    refine w_val rfl rfl (op_pure rfl) ?_
    refine w_val rfl rfl (op_pure rfl) ?_
    refine w_split (i := 31) rfl (fun h31 => ?_) (fun h31 => ?_)
    · clear h31
      refine w_val rfl rfl (op_fld rfl rfl rfl rfl (by decide) (by assumption) (Nat.le_of_ble_eq_true rfl)) ?_
      refine w_val rfl rfl (op_load rfl rfl (Pt.fld (by assumption) _ (Nat.le_of_ble_eq_true rfl)) rfl) ?_
      refine w_val rfl rfl (op_fld rfl rfl rfl rfl (by decide) (by assumption) (Nat.le_of_ble_eq_true rfl)) ?_
      refine w_val rfl rfl (op_load rfl rfl (Pt.fld (by assumption) _ (Nat.le_of_ble_eq_true rfl)) rfl) ?_
      refine w_val rfl rfl (op_pure rfl) ?_
      refine w_val rfl rfl (op_pure rfl) ?_
      refine w_val rfl rfl (op_pure rfl) ?_
      refine w_split (i := 38) rfl (fun h38 => ?_) (fun h38 => ?_)
      · clear h38
        refine w_val rfl rfl (op_fld rfl rfl rfl rfl (by decide) (by assumption) (Nat.le_of_ble_eq_true rfl)) ?_
        refine w_val rfl rfl (op_load rfl rfl (Pt.fld (by assumption) _ (Nat.le_of_ble_eq_true rfl)) rfl) ?_
        refine w_val rfl rfl (op_fld rfl rfl rfl rfl (by decide) (by assumption) (Nat.le_of_ble_eq_true rfl)) ?_
        refine w_val rfl rfl (op_load rfl rfl (Pt.fld (by assumption) _ (Nat.le_of_ble_eq_true rfl)) rfl) ?_
        refine w_call rfl rfl (op_call rfl rfl rfl rfl) (code_same hx3 (hcra.keep0 hK) (hcrb.keep0 hK)) ?_
        rintro _ sX ⟨eX, rfl⟩
        obtain rfl := eX.symm
        refine w_val rfl rfl (op_pure rfl) ?_
        refine w_val rfl rfl (op_pure rfl) ?_
        refine w_nil ?_
        refine then_n ?_
        refine wc_ret ?_
        repeat first | refine then_r ?_ | refine out_r ?_ | refine round_r ?_ | refine cut_r ?_
        exact ⟨_, rfl, hK, rfl⟩
      simp at h38
    simp at h31
  simp at h10
set_option maxRecDepth 10000 in
theorem keptFunction_ok {s : St} {ca cb : List AV} {x : FuncL} (hok : s.Ok) (hx : x.small) (hva : FuncLR s.h x ca) (hvb : FuncR s.h x cb) :
    CallS Try.prog Tt Kt 81 [.agg ca, .agg cb] s (fun v s' => Keep [] s s' ∧ v = .bool true) := by
  have hza := (FuncLR.to x ca hva).leaf.2
  have hzb := hvb.leaf.2
  obtain ⟨vpa, vra, vca, rfl, hpra, hrra, hcra⟩ := hva
  obtain ⟨vpb, vrb, vcb, rfl, hprb, hrrb, hcrb⟩ := hvb
  obtain ⟨hx1, hx2, hx3⟩ := hx
  refine call_of (fn := Try.f81) (nt := 45) Try.func81 rfl rfl rfl ?_
  repeat refine wc_seq ?_
  refine wc_region ?_
  refine w_box rfl rfl rfl hza hok ?_
  intro s1 hp1 hk1 hc1
  have hK := (Keep.refl hok).two hk1
  have hpa : Pt s1.h (.ptr s.ctr 0 0) [.int .u64 x.level, vpa, vra, .int .i64 x.locals, .int .i64 x.stack, vca] := hp1
  clear hp1
  refine w_box rfl rfl rfl hzb hK.ok ?_
  intro s2 hp2 hk2 hc2
  have hK := hK.two hk2
  have hpa := hpa.keep0 hk2
  have hpb : Pt s2.h (.ptr s1.ctr 0 0) [.int .u64 x.level, vpb, vrb, .int .i64 x.locals, .int .i64 x.stack, vcb] := hp2
  clear hp2
  refine w_val rfl rfl (op_pure rfl) ?_
  refine w_nil ?_
  refine then_n ?_
  repeat refine wc_seq ?_
  refine wc_region ?_
  refine w_val rfl rfl (op_fld rfl rfl rfl rfl (by decide) (by assumption) (Nat.le_of_ble_eq_true rfl)) ?_
  refine w_val rfl rfl (op_load rfl rfl (by assumption) rfl) ?_
  refine w_val rfl rfl (op_fld rfl rfl rfl rfl (by decide) (by assumption) (Nat.le_of_ble_eq_true rfl)) ?_
  refine w_val rfl rfl (op_load rfl rfl (by assumption) rfl) ?_
  refine w_val rfl rfl (op_pure rfl) ?_
  refine w_val rfl rfl (op_pure rfl) ?_
  refine w_split (i := 10) rfl (fun h10 => ?_) (fun h10 => ?_)
  · clear h10
    refine w_val rfl rfl (op_fld rfl rfl rfl rfl (by decide) (by assumption) (Nat.le_of_ble_eq_true rfl)) ?_
    refine w_val rfl rfl (op_load rfl rfl (Pt.fld (by assumption) _ (Nat.le_of_ble_eq_true rfl)) rfl) ?_
    refine w_val rfl rfl (op_fld rfl rfl rfl rfl (by decide) (by assumption) (Nat.le_of_ble_eq_true rfl)) ?_
    refine w_val rfl rfl (op_load rfl rfl (Pt.fld (by assumption) _ (Nat.le_of_ble_eq_true rfl)) rfl) ?_
    refine w_val rfl rfl (op_pure rfl) ?_
    refine w_val rfl rfl (op_pure rfl) ?_
    refine w_val rfl rfl (op_pure rfl) ?_
    refine w_split (i := 17) rfl (fun h17 => ?_) (fun h17 => ?_)
    · clear h17
      refine w_val rfl rfl (op_fld rfl rfl rfl rfl (by decide) (by assumption) (Nat.le_of_ble_eq_true rfl)) ?_
      refine w_val rfl rfl (op_load rfl rfl (Pt.fld (by assumption) _ (Nat.le_of_ble_eq_true rfl)) rfl) ?_
      refine w_val rfl rfl (op_fld rfl rfl rfl rfl (by decide) (by assumption) (Nat.le_of_ble_eq_true rfl)) ?_
      refine w_val rfl rfl (op_load rfl rfl (Pt.fld (by assumption) _ (Nat.le_of_ble_eq_true rfl)) rfl) ?_
      refine w_val rfl rfl (op_pure rfl) ?_
      refine w_val rfl rfl (op_pure rfl) ?_
      refine w_val rfl rfl (op_pure rfl) ?_
      refine w_split (i := 24) rfl (fun h24 => ?_) (fun h24 => ?_)
      · clear h24
        refine w_val rfl rfl (op_fld rfl rfl rfl rfl (by decide) (by assumption) (Nat.le_of_ble_eq_true rfl)) ?_
        refine w_val rfl rfl (op_load rfl rfl (Pt.fld (by assumption) _ (Nat.le_of_ble_eq_true rfl)) rfl) ?_
        refine w_val rfl rfl (op_fld rfl rfl rfl rfl (by decide) (by assumption) (Nat.le_of_ble_eq_true rfl)) ?_
        refine w_val rfl rfl (op_load rfl rfl (Pt.fld (by assumption) _ (Nat.le_of_ble_eq_true rfl)) rfl) ?_
        refine w_call rfl rfl (op_call rfl rfl rfl rfl) (keptLabels_ok hx1 (hpra.keep hK (fun _ _ h => by cases h)) (hprb.keep0 hK)) ?_
        rintro _ sX ⟨eX, rfl⟩
        obtain rfl := eX.symm
        refine w_val rfl rfl (op_pure rfl) ?_
        refine w_val rfl rfl (op_pure rfl) ?_
        refine w_val rfl rfl (op_fld rfl rfl rfl rfl (by decide) (by assumption) (Nat.le_of_ble_eq_true rfl)) ?_
        refine w_val rfl rfl (op_load rfl rfl (Pt.fld (by assumption) _ (Nat.le_of_ble_eq_true rfl)) rfl) ?_
        refine w_val rfl rfl (op_fld rfl rfl rfl rfl (by decide) (by assumption) (Nat.le_of_ble_eq_true rfl)) ?_
        refine w_val rfl rfl (op_load rfl rfl (Pt.fld (by assumption) _ (Nat.le_of_ble_eq_true rfl)) rfl) ?_
        refine w_call rfl rfl (op_call rfl rfl rfl rfl) (keptLabels_ok hx2 (hrra.keep hK (fun _ _ h => by cases h)) (hrrb.keep0 hK)) ?_
        rintro _ sX ⟨eX, rfl⟩
        obtain rfl := eX.symm
        refine w_val rfl rfl (op_pure rfl) ?_
        refine w_val rfl rfl (op_pure rfl) ?_
        refine w_val rfl rfl (op_fld rfl rfl rfl rfl (by decide) (by assumption) (Nat.le_of_ble_eq_true rfl)) ?_
        refine w_val rfl rfl (op_load rfl rfl (Pt.fld (by assumption) _ (Nat.le_of_ble_eq_true rfl)) rfl) ?_
        refine w_val rfl rfl (op_fld rfl rfl rfl rfl (by decide) (by assumption) (Nat.le_of_ble_eq_true rfl)) ?_
        refine w_val rfl rfl (op_load rfl rfl (Pt.fld (by assumption) _ (Nat.le_of_ble_eq_true rfl)) rfl) ?_
        refine w_call rfl rfl (op_call rfl rfl rfl rfl) (keptCode_ok hx3 (hcra.keep hK (fun _ _ h => by cases h)) (hcrb.keep0 hK)) ?_
        rintro _ sX ⟨eX, rfl⟩
        obtain rfl := eX.symm
        refine w_val rfl rfl (op_pure rfl) ?_
        refine w_val rfl rfl (op_pure rfl) ?_
        refine w_nil ?_
        refine then_n ?_
        refine wc_ret ?_
        repeat first | refine then_r ?_ | refine out_r ?_ | refine round_r ?_ | refine cut_r ?_
        exact ⟨_, rfl, hK, rfl⟩
      simp at h24
    simp at h17
  simp at h10
end Go.Ab
/- Modules: lent, the same, kept. -/
namespace Go.Ab
open Go.Proofs
structure ModL where
  globals : List Int
  arrays : List ArrL
  channels : List Int
  funcs : List FuncL
def ModL.small (m : ModL) : Prop := m.globals.length ≤ 2097152 ∧ m.arrays.length ≤ 2097152 ∧ m.channels.length ≤ 2097152 ∧ m.funcs.length ≤ 2097152 ∧ ∀ x ∈ m.funcs, x.small
def mkF : List AV := [.int .u64 0, .nils, .nils, .int .i64 0, .int .i64 (-71), .nils]
def ModR (h : Tr Grp) (m : ModL) (c : List AV) : Prop := ∃ vg va vh vf, c = [vg, va, vh, vf] ∧ Row h 1 vg (m.globals.map lC) ∧ Row h 2 va (m.arrays.map aC) ∧ Row h 1 vh (m.channels.map lC) ∧ RowR h 6 FuncR vf m.funcs
def ModLR (h : Tr Grp) (m : ModL) (c : List AV) : Prop := ∃ vg va vh vf, c = [vg, va, vh, vf] ∧ Lent h 1 lC [.int .u64 7171] vg m.globals ∧ Lent h 2 aC [.int .i64 (-71), .int .u64 0] va m.arrays ∧ Lent h 1 lC [.int .u64 7171] vh m.channels ∧ LentR h 6 FuncLR mkF vf m.funcs
def ModLF : RP ModL := fun h F m c => ∃ vg va vh vf, c = [vg, va, vh, vf] ∧ LentF h F 1 lC [.int .u64 7171] vg m.globals ∧ LentF h F 2 aC [.int .i64 (-71), .int .u64 0] va m.arrays ∧ LentF h F 1 lC [.int .u64 7171] vh m.channels ∧ LentRF h F 6 FuncLF mkF vf m.funcs
theorem good_mod : Good ModLF where
  keep := fun ⟨vg, va, vh, vf, e, h1, h2, h3, h4⟩ h hY => ⟨vg, va, vh, vf, e, h1.keep h hY, h2.keep h hY, h3.keep h hY, h4.keep good_func h hY⟩
  mono := fun ⟨vg, va, vh, vf, e, h1, h2, h3, h4⟩ h => ⟨vg, va, vh, vf, e, h1.mono h, h2.mono h, h3.mono h, h4.mono good_func h⟩
theorem ModLF.to {h : Tr Grp} {F : Nat → Prop} {m : ModL} {c : List AV} (k : ModLF h F m c) : ModLR h m c := by
  obtain ⟨vg, va, vh, vf, e, h1, h2, h3, h4⟩ := k
  exact ⟨vg, va, vh, vf, e, h1.1, h2.1, h3.1, h4.to FuncLF.to⟩
theorem ModLR.to {h : Tr Grp} {m : ModL} {c : List AV} (k : ModLR h m c) : ModR h m c := by
  obtain ⟨vg, va, vh, vf, e, h1, h2, h3, h4⟩ := k
  exact ⟨vg, va, vh, vf, e, h1.row, h2.row, h3.row, h4.row FuncLR.to⟩
theorem ModR.keep0 {s s' : St} {m : ModL} {c : List AV} (k : ModR s.h m c) (h : Keep [] s s') : ModR s'.h m c := by
  obtain ⟨vg, va, vh, vf, e, h1, h2, h3, h4⟩ := k
  exact ⟨vg, va, vh, vf, e, h1.keep0 h, h2.keep0 h, h3.keep0 h, h4.keep0 FuncR.keep0 h⟩
theorem ModR.leaf {h : Tr Grp} {m : ModL} {c : List AV} (k : ModR h m c) : c.length = 4 ∧ c.all AV.leaf = true := by
  obtain ⟨vg, va, vh, vf, rfl, h1, h2, h3, css, h4, -⟩ := k
  exact ⟨rfl, by simp only [List.all_cons, List.all_nil, h1.leaf, h2.leaf, h3.leaf, h4.leaf]; rfl⟩
theorem build55 {m : Sy} {a b c d : AV} {x y z w : Operand} (ha : a.leaf = true) (hb : b.leaf = true) (hc : c.leaf = true) (hd : d.leaf = true) (hx : evY m x = some a := by rfl) (hy : evY m y = some b := by rfl) (hz : evY m z = some c := by rfl) (hw : evY m w = some d := by rfl) :
    pureY Tt m (.build 55 #[(0, x), (1, y), (2, z), (3, w)]) = some (.agg [a, b, c, d]) := by
  have e1 : evPartsY m [(0, x), (1, y), (2, z), (3, w)] = some [(0, a), (1, b), (2, c), (3, d)] := by simp only [evPartsY, hx, hy, hz, hw]
  have e2 : Tt 55 = some ⟨.struct [(0, 1, false), (1, 1, false), (2, 1, false), (3, 1, false)], 4, 96, [.nils, .nils, .nils, .nils], false⟩ := by rfl
  simp only [pureY, e2, e1]
  simp [fillA, AV.cells_leaf ha, AV.cells_leaf hb, AV.cells_leaf hc, AV.cells_leaf hd, over]
set_option maxRecDepth 10000 in
theorem lentModule_ok {s : St} {c : List AV} {mm : ModL} (hok : s.Ok) (hm : mm.small) (hv : ModR s.h mm c) :
    CallS Try.prog Tt Kt 27 [.agg c] s (fun r s' => Keep [] s s' ∧ ∃ c', r = .agg c' ∧ ModLF s'.h (Fr s.ctr s'.ctr []) mm c') := by
  have hz := hv.leaf.2
  obtain ⟨vg, va, vh, vf, rfl, hvg, hva, hvh, csf, hrf, hlf, hF⟩ := hv
  obtain ⟨hl1, hl3, hl2, hl4, hsm⟩ := hm
  refine call_of (fn := Try.f27) (nt := 53) Try.func27 rfl rfl rfl ?_
  repeat refine wc_seq ?_
  refine wc_region ?_
  refine w_box rfl rfl rfl hz hok ?_
  intro s1 hp1 hk1 hc1
  have hK := (Keep.refl hok).two hk1
  have hp : Pt s1.h (.ptr s.ctr 0 0) [vg, va, vh, vf] := hp1
  refine w_alloc rfl rfl rfl rfl hK.ok ?_
  intro s2 hq hk2 hc2
  have hK := hK.two hk2
  have hp := hp.keep0 hk2
  refine w_nil ?_
  refine then_n ?_
  repeat refine wc_seq ?_
  refine wc_region ?_
  refine w_val rfl rfl (op_pure rfl) ?_
  refine w_nil ?_
  refine then_n ?_
  repeat refine wc_seq ?_
  refine wc_region ?_
  refine w_val rfl rfl (op_pure rfl) ?_
  refine w_val rfl rfl (op_fld rfl rfl rfl rfl (by decide) (by assumption) (Nat.le_of_ble_eq_true rfl)) ?_
  refine w_val rfl rfl (op_load rfl rfl (Pt.fld (by assumption) _ (Nat.le_of_ble_eq_true rfl)) rfl) ?_
  refine w_append (cs := []) rfl rfl rfl rfl rfl rfl rfl rfl rfl (by decide) hK.ok (row_nils _ _) (fun _ => rfl) (hva.keep0 hK) (by simp only [List.length_map, List.length_nil, maxBytes]; omega) (by simp only [List.length_map, List.length_nil, maxBytes]; omega) ?_
  rintro a3 s3 ha3 hk3 - hg3 hn3 -
  rw [List.nil_append] at ha3
  have hc3 := hk3.ctr
  have hk3 : Keep [] s2 s3 := hk3
  have hK := hK.two hk3
  have hp := hp.keep0 hk3
  have hq := hq.keep0 hk3
  refine w_val rfl rfl (op_pure rfl) ?_
  refine w_nil ?_
  refine then_n ?_
  repeat refine wc_seq ?_
  refine wc_region ?_
  refine w_val rfl rfl (op_pure rfl) ?_
  refine w_val rfl rfl (op_pure rfl) ?_
  refine w_lit1 (c := [.int .i64 (-71), .int .u64 0]) rfl rfl rfl rfl rfl rfl rfl (by decide) (by decide) rfl rfl rfl hK.ok ?_
  rintro b4 s4 hb4 hk4 hc4 -
  have hK := hK.two hk4
  have hp := hp.keep0 hk4
  have hq := hq.keep0 hk4
  have ha3 := ha3.keep0 hk4
  have hg3' : ∀ g ∈ a3.gs, s2.ctr ≤ g := by
    intro g hg
    rcases hg3 with e | e
    · rw [e] at hg; cases hg
    · rw [e] at hg; rw [List.mem_singleton.1 hg]; exact Nat.le_refl _
  refine w_append rfl rfl rfl rfl rfl rfl rfl rfl rfl (by decide) hK.ok ha3 hn3 hb4 (by simp only [List.length_map, List.length_nil, List.length_cons, maxBytes]; omega) (by simp only [List.length_map, List.length_nil, List.length_cons, maxBytes]; omega) ?_
  rintro fa s5 hfa hk5 - hg5 - hne5
  have hc5 := hk5.ctr
  have hK := hK.fresh hk5 (fun g hg => by have := hg3' g hg; have := hK.ctr; omega)
  have hp := hp.keep hk5 (fun g hg h => by rw [List.mem_singleton.1 hg] at h; have := hg3' _ h; omega)
  have hq := hq.keep hk5 (fun g hg h => by rw [List.mem_singleton.1 hg] at h; have := hg3' _ h; omega)
  have hfne : fa.gs ≠ [] := hne5 (by simp)
  have hfl := hfa.lt hK.ok
  have hfg : ∀ g ∈ fa.gs, s2.ctr ≤ g := by
    intro g hg
    rcases hg5 with e | e
    · rw [e] at hg; exact hg3' g hg
    · rw [e] at hg; rw [List.mem_singleton.1 hg]; omega
  clear ha3 hn3 hg3 hb4 hg5 hne5
  refine w_val rfl rfl (op_pure rfl) ?_
  refine w_nil ?_
  refine then_n ?_
  repeat refine wc_seq ?_
  refine wc_region ?_
  refine w_val rfl rfl (op_pure rfl) ?_
  refine w_nil ?_
  refine then_n ?_
  repeat refine wc_seq ?_
  refine wc_region ?_
  refine w_val rfl rfl (op_pure rfl) ?_
  refine w_nil ?_
  refine then_n ?_
  repeat refine wc_seq ?_
  refine wc_block ?_
  refine wc_loop_at (fun j m s6 => ∃ (i : Nat) (f : AV), j = mm.funcs.length - i ∧ i ≤ mm.funcs.length ∧ m = [(1, .ptr s.ctr 0 0), (2, .ptr s1.ctr 0 0), (3, fa), (4, f), (5, .int .i64 (i : Nat))] ∧ Keep [] s s6 ∧ s5.ctr ≤ s6.ctr ∧ Pt s6.h (.ptr s.ctr 0 0) [vg, va, vh, vf] ∧ Pt s6.h (.ptr s1.ctr 0 0) [.nils, .nils, .nils, .nils] ∧
      Row s6.h 2 fa (mm.arrays.map aC ++ [[.int .i64 (-71), .int .u64 0]]) ∧ Bld s5.ctr s6.ctr s6 6 FuncLF f (mm.funcs.take i)) mm.funcs.length
    [(1, .ptr s.ctr 0 0), (2, .ptr s1.ctr 0 0), (3, fa), (4, .nils), (5, .int .i64 ((0 : Nat) : Int))] (Sub.cons rfl (Sub.cons rfl (Sub.cons rfl (Sub.cons rfl (Sub.cons rfl (Sub.nil _))))))
    ⟨0, .nils, by simp, by simp, rfl, hK, Nat.le_refl _, hp, hq, hfa, Bld.nil⟩ ?_
  clear hK hp hq hfa
  rintro j m s6 ⟨i, f, rfl, hi, rfl, hK, hc6, hp, hq, hfa, hB⟩
  have hsf : vf.slen = some mm.funcs.length := hrf.slen.trans (congrArg some hlf)
  repeat refine wc_seq ?_
  refine wc_region ?_
  refine w_val rfl rfl (op_pure rfl) ?_
  refine w_val rfl rfl (op_fld rfl rfl rfl rfl (by decide) (by assumption) (Nat.le_of_ble_eq_true rfl)) ?_
  refine w_val rfl rfl (op_load rfl rfl (Pt.fld (by assumption) _ (Nat.le_of_ble_eq_true rfl)) rfl) ?_
  refine w_val rfl rfl (op_len rfl rfl rfl rfl rfl (by assumption)) ?_
  refine w_val rfl rfl (op_pure rfl) ?_
  refine w_nil ?_
  refine then_n ?_
  repeat refine wc_seq ?_
  refine wc_condT rfl (fun h19 => ?_) (fun h19 => ?_)
  · simp at h19
    refine wc_skip ?_
    refine then_n ?_
    repeat refine wc_seq ?_
    refine wc_block ?_
    repeat refine wc_seq ?_
    obtain ⟨x, hx⟩ : ∃ x, mm.funcs[i]? = some x := ⟨_, List.getElem?_eq_getElem h19⟩
    obtain ⟨cx, hcx⟩ : ∃ c, csf[i]? = some c := ⟨_, List.getElem?_eq_getElem (by omega)⟩
    have hfx := hF i x cx hx hcx
    have hsx := hsm x (List.mem_of_getElem? hx)
    have hcl := hfx.leaf
    obtain ⟨y0, y1, y2, y3, y4, y5, rfl⟩ : ∃ y0 y1 y2 y3 y4 y5, cx = [y0, y1, y2, y3, y4, y5] := by
      obtain ⟨w1, w2, w3, e, -⟩ := hfx
      exact ⟨_, _, _, _, _, _, e⟩
    refine wc_region ?_
    refine w_val rfl rfl (op_fld rfl rfl rfl rfl (by decide) (by assumption) (Nat.le_of_ble_eq_true rfl)) ?_
    refine w_val rfl rfl (op_load rfl rfl (Pt.fld (by assumption) _ (Nat.le_of_ble_eq_true rfl)) rfl) ?_
    refine w_val rfl rfl (op_pure rfl) ?_
    refine w_val rfl rfl (op_idx rfl rfl (natA_cast _ _) rfl rfl rfl rfl (Row.keep0 (by assumption) hK) (by omega)) ?_
    refine w_val rfl rfl (op_load rfl rfl (Pt.keep0 (Row.pt (by assumption) (by assumption)) hK) rfl) ?_
    refine w_call rfl rfl (op_call rfl rfl rfl rfl) (lentFunction_ok hK.ok hsx (hfx.keep0 hK)) ?_
    rintro r7 s7 ⟨hk7, c7, rfl, hf7⟩
    have hc7 := hk7.ctr
    have hK := hK.two hk7
    have hp := hp.keep0 hk7
    have hq := hq.keep0 hk7
    have hfa := hfa.keep0 hk7
    have hB := hB.keep good_func hk7 (fun g hg => by cases hg)
    have hl7 := (FuncLR.to x c7 (hf7.to x c7)).leaf
    refine w_alloc rfl rfl rfl rfl hK.ok ?_
    intro s8 hv hk8 hc8
    have hK := hK.two hk8
    have hp := hp.keep0 hk8
    have hq := hq.keep0 hk8
    have hfa := hfa.keep0 hk8
    have hB := hB.keep good_func hk8 (fun g hg => by cases hg)
    have hf7 := good_func.keep hf7 hk8 (fun g hg => by cases hg)
    refine w_store_all rfl rfl rfl rfl hl7.1 (by rw [show (AV.agg c7).cells = c7 from rfl, hl7.1]; rfl) hl7.2 hK.ok hv (by simp [AV.gs]) ?_
    intro s9 hv hk9 hc9
    have hv : Pt s9.h (.ptr s7.ctr 0 0) c7 := hv
    have hK := hK.fresh hk9 (fun g hg => by rw [List.mem_singleton.1 hg]; have := hK.ctr; omega)
    have hp := hp.keep hk9 (fun g hg h => by rw [List.mem_singleton.1 hg] at h; have := List.mem_singleton.1 h; omega)
    have hq := hq.keep hk9 (fun g hg h => by rw [List.mem_singleton.1 hg] at h; have := List.mem_singleton.1 h; omega)
    have hfa := hfa.keep hk9 (fun g hg h => by have := List.mem_singleton.1 h; have := hfl g hg; omega)
    have hB := hB.keep good_func hk9 (fun g hg => by rw [List.mem_singleton.1 hg]; omega)
    have hf7 := good_func.keep hf7 hk9 (fun g hg h => by rw [List.mem_singleton.1 hg] at h; have := h.2.1; omega)
    obtain ⟨z0, z1, z2, z3, z4, z5, rfl⟩ : ∃ z0 z1 z2 z3 z4 z5, c7 = [z0, z1, z2, z3, z4, z5] := by
      obtain ⟨w1, w2, w3, e, -⟩ := hf7
      exact ⟨_, _, _, _, _, _, e⟩
    refine w_nil ?_
    refine then_n ?_
    refine wc_region ?_
    refine w_val rfl rfl (op_pure rfl) ?_
    refine w_val rfl rfl (op_load rfl rfl (by assumption) rfl) ?_
    refine w_lit1 (c := [z0, z1, z2, z3, z4, z5]) rfl rfl rfl rfl rfl rfl rfl (by decide) (by decide) rfl hl7.2 rfl hK.ok ?_
    rintro b10 s10 hb10 hk10 hc10 -
    have hK := hK.two hk10
    have hp := hp.keep0 hk10
    have hq := hq.keep0 hk10
    have hfa := hfa.keep0 hk10
    have hB := hB.keep good_func hk10 (fun g hg => by cases hg)
    have hf7 := good_func.keep hf7 hk10 (fun g hg => by cases hg)
    have hBg := hB.gs
    refine w_app_bld good_func (z := x) (sz := 6) rfl rfl rfl rfl rfl rfl rfl rfl rfl (by decide) rfl hK.ok hB (by omega) (by omega) hb10 (good_func.mono hf7 fun g ⟨q1, q2, _⟩ => ⟨by omega, by omega, fun h => by have := (hBg g h).2; omega⟩) (by simp only [List.length_take, maxBytes]; omega) (by simp only [List.length_take, maxBytes]; omega) ?_
    rintro f11 s11 hB11 hk11 -
    have hc11 := hk11.ctr
    rw [take_snoc hx] at hB11
    have hK := hK.fresh hk11 (fun g hg => by have := (hBg g hg).1; omega)
    have hp := hp.keep hk11 (fun g hg h => by rw [List.mem_singleton.1 hg] at h; have := (hBg _ h).1; omega)
    have hq := hq.keep hk11 (fun g hg h => by rw [List.mem_singleton.1 hg] at h; have := (hBg _ h).1; omega)
    have hfa := hfa.keep hk11 (fun g hg h => by have := (hBg _ h).1; have := hfl g hg; omega)
    refine w_val rfl rfl (op_pure rfl) ?_
    refine w_nil ?_
    refine out_n ?_
    refine then_n ?_
    refine wc_region ?_
    refine w_val rfl rfl (op_pure rfl) ?_
    refine w_val rfl rfl (op_add rfl rfl (by unfold In64; omega)) ?_
    refine w_val rfl rfl (op_pure rfl) ?_
    refine w_nil ?_
    exact round_n _ _ (by omega) (Sub.cons rfl (Sub.cons rfl (Sub.cons rfl (Sub.cons rfl (Sub.cons rfl (Sub.nil _)))))) ⟨i + 1, f11, rfl, by omega, rfl, hK, by omega, hp, hq, hfa, hB11⟩
  simp at h19
  obtain rfl : i = mm.funcs.length := by omega
  rw [List.take_length] at hB
  refine wc_exit ?_
  repeat first | refine then_x ?_ | refine round_x ?_ | refine cut_x ?_ | refine out_x' (by decide) ?_
  refine out_x ?_
  refine then_n ?_
  repeat refine wc_seq ?_
  refine wc_region ?_
  refine w_val rfl rfl (op_pure rfl) ?_
  refine w_val rfl rfl (op_pure rfl) ?_
  refine w_lit1 (c := [.int .u64 0, .nils, .nils, .int .i64 0, .int .i64 (-71), .nils]) rfl rfl rfl rfl rfl rfl rfl (by decide) (by decide) rfl rfl rfl hK.ok ?_
  rintro b7 s7 hb7 hk7 hc7 -
  have hK := hK.two hk7
  have hp := hp.keep0 hk7
  have hq := hq.keep0 hk7
  have hfa := hfa.keep0 hk7
  have hB := hB.keep good_func hk7 (fun g hg => by cases hg)
  have hBg := hB.gs
  refine w_app_mark good_func (sz := 6) rfl rfl rfl rfl rfl rfl rfl rfl rfl (by decide) rfl hK.ok hB (by omega) (by omega) hb7 (by simp only [maxBytes]; omega) (by simp only [maxBytes]; omega) ?_
  rintro f8 s8 cs8 hr8 hl8 hL8 hk8
  have hc8 := hk8.ctr
  have hK := hK.fresh hk8 (fun g hg => by have := (hBg g hg).1; omega)
  have hp := hp.keep hk8 (fun g hg h => by rw [List.mem_singleton.1 hg] at h; have := (hBg _ h).1; omega)
  have hq := hq.keep hk8 (fun g hg h => by rw [List.mem_singleton.1 hg] at h; have := (hBg _ h).1; omega)
  have hfa := hfa.keep hk8 (fun g hg h => by have := (hBg _ h).1; have := hfl g hg; omega)
  have hsv : va.slen = some mm.arrays.length := hva.slenF
  have hfn : ∀ g j o, fa ≠ .ptr g j o := fun g j o e => by rw [e] at hfa; exact hfa.elim
  have hfn8 : ∀ g j o, f8 ≠ .ptr g j o := fun g j o e => by rw [e] at hr8; exact hr8.elim
  have hfc : (cutA fa 0 mm.arrays.length).leaf = true := (hfa.less (by simp)).leaf
  have hfc8 : (cutA f8 0 mm.funcs.length).leaf = true := (hr8.less hl8).leaf
  clear hB
  refine w_val rfl rfl (op_pure rfl) ?_
  refine w_nil ?_
  refine then_n ?_
  repeat refine wc_seq ?_
  have hR := Keep.refl (s := s8) (hK.ok)
  refine wc_draw (Old s8 [s1.ctr]) (by kernel_rfl) rfl ?_
  refine wo_val (fun _ => rfl) rfl rfl (op_fld rfl rfl rfl rfl (by decide) (by assumption) (Nat.le_of_ble_eq_true rfl)) ?_
  refine wo_load hR rfl rfl (by assumption) rfl (by intro g hg h; have e1 := List.mem_singleton.1 hg; have e2 := List.mem_singleton.1 h; omega) rfl rfl ?_
  refine wo_call hR rfl rfl (fun _ => rfl) (op_call rfl rfl rfl rfl) (lentLabels_ok hR.ok hl1 (hvg.keep0 (hK.two hR)).bare) (fun _ _ h => h.1) ?_
  rintro vg' s9 ⟨hk9, hg9⟩ hR
  have hg9 : LentF (s9.join s8).h (Fr s8.ctr (s9.join s8).ctr []) 1 lC [.int .u64 7171] vg' mm.globals := hg9
  have hk9 : Keep [] s8 (s9.join s8) := hk9.joined
  generalize s9.join s8 = t9 at hg9 hk9 hR ⊢
  have hc9 := hk9.ctr
  refine wo_val (fun _ => rfl) rfl rfl (op_pure rfl) ?_
  refine wo_val (fun _ => rfl) rfl rfl (op_fld rfl rfl rfl rfl (by decide) (Pt.bare (Pt.keep0 (by assumption) hR)) (Nat.le_of_ble_eq_true rfl)) ?_
  refine wo_load hR rfl rfl (Pt.fld (by assumption) _ (Nat.le_of_ble_eq_true rfl)) rfl (by intro g hg h; have e1 := List.mem_singleton.1 hg; have e2 := List.mem_singleton.1 h; omega) rfl rfl ?_
  refine wo_val (fun _ => rfl) rfl rfl (op_len rfl rfl rfl rfl rfl (by assumption)) ?_
  refine wo_slice rfl hfn rfl rfl (op_cut (l := none) (h := some mm.arrays.length) (l' := 0) (h' := mm.arrays.length) rfl rfl (optY_some rfl (natA_cast _ _)) rfl rfl rfl rfl (hfa.keep0 hR).bare rfl rfl (Nat.zero_le _) (by simp)) ?_
  refine wo_val (fun _ => rfl) rfl rfl (op_fld rfl rfl rfl rfl (by decide) (Pt.bare (Pt.keep0 (by assumption) hR)) (Nat.le_of_ble_eq_true rfl)) ?_
  refine wo_load hR rfl rfl (Pt.fld (by assumption) _ (Nat.le_of_ble_eq_true rfl)) rfl (by intro g hg h; have e1 := List.mem_singleton.1 hg; have e2 := List.mem_singleton.1 h; omega) rfl rfl ?_
  refine wo_call hR rfl rfl (fun _ => rfl) (op_call rfl rfl rfl rfl) (lentLabels_ok hR.ok hl2 (hvh.keep0 (hK.two hR)).bare) (fun _ _ h => h.1) ?_
  rintro vh' s10 ⟨hk10, hg10⟩ hR
  have hg10 : LentF (s10.join t9).h (Fr t9.ctr (s10.join t9).ctr []) 1 lC [.int .u64 7171] vh' mm.channels := hg10
  have hk10 : Keep [] t9 (s10.join t9) := hk10.joined
  generalize s10.join t9 = t10 at hg10 hk10 hR ⊢
  have hc10 := hk10.ctr
  have hg9 := hg9.keep hk10 (by intro g hg; cases hg)
  refine wo_val (fun _ => rfl) rfl rfl (op_pure rfl) ?_
  refine wo_val (fun _ => rfl) rfl rfl (op_fld rfl rfl rfl rfl (by decide) (Pt.bare (Pt.keep0 (by assumption) hR)) (Nat.le_of_ble_eq_true rfl)) ?_
  refine wo_load hR rfl rfl (Pt.fld (by assumption) _ (Nat.le_of_ble_eq_true rfl)) rfl (by intro g hg h; have e1 := List.mem_singleton.1 hg; have e2 := List.mem_singleton.1 h; omega) rfl rfl ?_
  refine wo_val (fun _ => rfl) rfl rfl (op_len rfl rfl rfl rfl rfl (by assumption)) ?_
  refine wo_slice rfl hfn8 rfl rfl (op_cut (l := none) (h := some mm.funcs.length) (l' := 0) (h' := mm.funcs.length) rfl rfl (optY_some rfl (natA_cast _ _)) rfl rfl rfl rfl (hr8.keep0 hR).bare rfl rfl (Nat.zero_le _) (by simp; omega)) ?_
  refine wo_val (fun _ => rfl) rfl rfl (op_pure (build55 hg9.1.leaf hfc hg10.1.leaf hfc8)) ?_
  have hz' : ([vg', cutA fa 0 mm.arrays.length, vh', cutA f8 0 mm.funcs.length] : List AV).all AV.leaf = true := by
    simp only [List.all_cons, List.all_nil, hg9.1.leaf, hfc, hg10.1.leaf, hfc8]; rfl
  refine wo_store_all (p := .ptr s1.ctr 0 0) hR (fun g hg => hg) rfl rfl rfl rfl rfl (by rfl) hz' (hq.keep0 hR) (by simp [AV.gs]) ?_
  intro s11 hq' hk11 hc11
  have hq : Pt s11.h (.ptr s1.ctr 0 0) [vg', cutA fa 0 mm.arrays.length, vh', cutA f8 0 mm.funcs.length] := hq'
  have hK := (hK.two hR).fresh hk11 (fun g hg => by rw [List.mem_singleton.1 hg]; omega)
  have hd : ∀ {F : Nat → Prop}, (∀ g, F g → s1.ctr < g) → ∀ g ∈ (AV.ptr s1.ctr 0 0).gs, ¬ F g := fun h g hg hF => by rw [List.mem_singleton.1 hg] at hF; have := h _ hF; omega
  have hg9 := (hg9.keep hk11 (hd fun g h => by have := h.1; omega)).mono (F' := Fr s.ctr s11.ctr []) fun g ⟨q1, q2, _⟩ => ⟨by omega, by omega, fun h => by cases h⟩
  have hg10 := (hg10.keep hk11 (hd fun g h => by have := h.1; omega)).mono (F' := Fr s.ctr s11.ctr []) fun g ⟨q1, q2, _⟩ => ⟨by omega, by omega, fun h => by cases h⟩
  have hL8 := ((hL8.keep good_func hR (fun g hg => by cases hg)).keep good_func hk11 (hd fun g h => by have := h.1; omega)).mono (F' := Fr s.ctr s11.ctr []) good_func fun g ⟨q1, q2, _⟩ => ⟨by omega, by omega, fun h => by cases h⟩
  have hA8 : LentF s11.h (Fr s.ctr s11.ctr []) 2 aC [.int .i64 (-71), .int .u64 0] (cutA fa 0 mm.arrays.length) mm.arrays := by
    have h1 := (hfa.keep0 hR).keep hk11 (fun g hg h => by have := List.mem_singleton.1 h; have := hfg g hg; omega)
    refine ⟨⟨fa, rfl, hfne, h1⟩, ?_⟩
    rw [cutA_gs]
    exact fun g hg => ⟨by have := hfg g hg; omega, by have := hfl g hg; omega, fun h => by cases h⟩
  refine wd_nil ?_
  refine then_n ?_
  refine wc_ret ?_
  repeat first | refine then_r ?_ | refine out_r ?_ | refine round_r ?_ | refine cut_r ?_
  exact ⟨_, res_cell rfl rfl hq rfl, hK, _, rfl, _, _, _, _, rfl, hg9, hA8, hg10, hL8⟩
set_option maxRecDepth 10000 in
theorem module_same {s : St} {ca cb : List AV} {mm : ModL} (hok : s.Ok) (hm : mm.small) (hva : ModR s.h mm ca) (hvb : ModR s.h mm cb) :
    CallS Try.prog Tt Kt 30 [.agg ca, .agg cb] s (fun v s' => Keep [] s s' ∧ v = .bool true) := by
  have hza := hva.leaf.2
  have hzb := hvb.leaf.2
  obtain ⟨vga, vaa, vha, vfa, rfl, hga, haa, hha, hfa⟩ := hva
  obtain ⟨vgb, vab, vhb, vfb, rfl, hgb, hab, hhb, hfb⟩ := hvb
  obtain ⟨hl1, hl3, hl2, hl4, hsm⟩ := hm
  refine call_of (fn := Try.f30) (nt := 76) Try.func30 rfl rfl rfl ?_
  repeat refine wc_seq ?_
  refine wc_region ?_
  refine w_box rfl rfl rfl hza hok ?_
  intro s1 hp1 hk1 hc1
  have hK := (Keep.refl hok).two hk1
  have hpa : Pt s1.h (.ptr s.ctr 0 0) [vga, vaa, vha, vfa] := hp1
  clear hp1
  refine w_box rfl rfl rfl hzb hK.ok ?_
  intro s2 hp2 hk2 hc2
  have hK := hK.two hk2
  have hpa := hpa.keep0 hk2
  have hpb : Pt s2.h (.ptr s1.ctr 0 0) [vgb, vab, vhb, vfb] := hp2
  clear hp2
  have hK0 := hK
  have hK := Keep.refl hK0.ok
  have hga := hga.keep0 hK0
  have hha := hha.keep0 hK0
  have hraa := haa.keep0 hK0
  obtain ⟨csf, hrfa, hlf, hF⟩ := hfa
  have hrfa := hrfa.keep0 hK0
  have hsfa : vfa.slen = some mm.funcs.length := hrfa.slen.trans (congrArg some hlf)
  have hgb := hgb.keep0 hK0
  have hhb := hhb.keep0 hK0
  have hab := hab.keep0 hK0
  obtain ⟨csb, hrfb, hlb, hFb⟩ := hfb
  have hrfb := hrfb.keep0 hK0
  have hsfb : vfb.slen = some mm.funcs.length := hrfb.slen.trans (congrArg some hlb)
  refine w_val rfl rfl (op_pure rfl) ?_
  refine w_nil ?_
  refine then_n ?_
  repeat refine wc_seq ?_
  refine wc_region ?_
  refine w_val rfl rfl (op_fld rfl rfl rfl rfl (by decide) (by assumption) (Nat.le_of_ble_eq_true rfl)) ?_
  refine w_val rfl rfl (op_load rfl rfl (by assumption) rfl) ?_
  refine w_val rfl rfl (op_fld rfl rfl rfl rfl (by decide) (by assumption) (Nat.le_of_ble_eq_true rfl)) ?_
  refine w_val rfl rfl (op_load rfl rfl (by assumption) rfl) ?_
  refine w_call rfl rfl (op_call rfl rfl rfl rfl) (labels_same hl1 hga hgb) ?_
  rintro _ sX ⟨eX, rfl⟩
  obtain rfl := eX.symm
  refine w_val rfl rfl (op_pure rfl) ?_
  refine w_val rfl rfl (op_pure rfl) ?_
  refine w_val rfl rfl (op_fld rfl rfl rfl rfl (by decide) (by assumption) (Nat.le_of_ble_eq_true rfl)) ?_
  refine w_val rfl rfl (op_load rfl rfl (Pt.fld (by assumption) _ (Nat.le_of_ble_eq_true rfl)) rfl) ?_
  refine w_val rfl rfl (op_fld rfl rfl rfl rfl (by decide) (by assumption) (Nat.le_of_ble_eq_true rfl)) ?_
  refine w_val rfl rfl (op_load rfl rfl (Pt.fld (by assumption) _ (Nat.le_of_ble_eq_true rfl)) rfl) ?_
  refine w_call rfl rfl (op_call rfl rfl rfl rfl) (labels_same hl2 hha hhb) ?_
  rintro _ sX ⟨eX, rfl⟩
  obtain rfl := eX.symm
  refine w_val rfl rfl (op_pure rfl) ?_
  refine w_val rfl rfl (op_pure rfl) ?_
  refine w_val rfl rfl (op_pure rfl) ?_
  refine w_val rfl rfl (op_fld rfl rfl rfl rfl (by decide) (by assumption) (Nat.le_of_ble_eq_true rfl)) ?_
  refine w_val rfl rfl (op_load rfl rfl (Pt.fld (by assumption) _ (Nat.le_of_ble_eq_true rfl)) rfl) ?_
  refine w_val rfl rfl (op_len rfl rfl rfl rfl rfl (Row.slenF (by assumption))) ?_
  refine w_val rfl rfl (op_fld rfl rfl rfl rfl (by decide) (by assumption) (Nat.le_of_ble_eq_true rfl)) ?_
  refine w_val rfl rfl (op_load rfl rfl (Pt.fld (by assumption) _ (Nat.le_of_ble_eq_true rfl)) rfl) ?_
  refine w_val rfl rfl (op_len rfl rfl rfl rfl rfl (Row.slenF (by assumption))) ?_
  refine w_val rfl rfl (op_pure rfl) ?_
  refine w_val rfl rfl (op_pure rfl) ?_
  refine w_val rfl rfl (op_pure rfl) ?_
  refine w_split (i := 30) rfl (fun h30 => ?_) (fun h30 => ?_)
  · simp at h30
  clear h30
  refine w_val rfl rfl (op_fld rfl rfl rfl rfl (by decide) (by assumption) (Nat.le_of_ble_eq_true rfl)) ?_
  refine w_val rfl rfl (op_load rfl rfl (Pt.fld (by assumption) _ (Nat.le_of_ble_eq_true rfl)) rfl) ?_
  refine w_val rfl rfl (op_len rfl rfl rfl rfl rfl (by assumption)) ?_
  refine w_val rfl rfl (op_fld rfl rfl rfl rfl (by decide) (by assumption) (Nat.le_of_ble_eq_true rfl)) ?_
  refine w_val rfl rfl (op_load rfl rfl (Pt.fld (by assumption) _ (Nat.le_of_ble_eq_true rfl)) rfl) ?_
  refine w_val rfl rfl (op_len rfl rfl rfl rfl rfl (by assumption)) ?_
  refine w_val rfl rfl (op_pure rfl) ?_
  refine w_val rfl rfl (op_pure rfl) ?_
  refine w_nil ?_
  refine then_n ?_
  repeat refine wc_seq ?_
  refine wc_condT rfl (fun h38 => ?_) (fun h38 => ?_)
  · simp at h38
  clear h38
  refine wc_skip ?_
  refine then_n ?_
  repeat refine wc_seq ?_
  refine wc_region ?_
  refine w_val rfl rfl (op_pure rfl) ?_
  refine w_nil ?_
  refine then_n ?_
  repeat refine wc_seq ?_
  refine wc_block ?_
  refine wc_loop_at (fun j m s' => ∃ i : Nat, j = mm.arrays.length - i ∧ i ≤ mm.arrays.length ∧ s' = s2 ∧ m = [(2, .ptr s.ctr 0 0), (3, .ptr s1.ctr 0 0), (5, .int .i64 (i : Nat))]) mm.arrays.length
    [(2, .ptr s.ctr 0 0), (3, .ptr s1.ctr 0 0), (5, .int .i64 ((0 : Nat) : Int))] (Sub.cons rfl (Sub.cons rfl (Sub.cons rfl (Sub.nil _)))) ⟨0, by simp, by simp, rfl, rfl⟩ ?_
  rintro j m sX ⟨i, rfl, hi, eX, rfl⟩
  obtain rfl := eX.symm
  repeat refine wc_seq ?_
  refine wc_region ?_
  refine w_val rfl rfl (op_pure rfl) ?_
  refine w_val rfl rfl (op_fld rfl rfl rfl rfl (by decide) (by assumption) (Nat.le_of_ble_eq_true rfl)) ?_
  refine w_val rfl rfl (op_load rfl rfl (Pt.fld (by assumption) _ (Nat.le_of_ble_eq_true rfl)) rfl) ?_
  refine w_val rfl rfl (op_len rfl rfl rfl rfl rfl (Row.slenF (by assumption))) ?_
  refine w_val rfl rfl (op_pure rfl) ?_
  refine w_nil ?_
  refine then_n ?_
  repeat refine wc_seq ?_
  refine wc_condT rfl (fun h43 => ?_) (fun h43 => ?_)
  · simp at h43
    refine wc_skip ?_
    refine then_n ?_
    repeat refine wc_seq ?_
    refine wc_block ?_
    repeat refine wc_seq ?_
    obtain ⟨x, hx⟩ : ∃ x, mm.arrays[i]? = some x := ⟨_, List.getElem?_eq_getElem h43⟩
    refine wc_draw (fun _ => True) (by kernel_rfl) rfl ?_
    refine wd_val (fun _ => trivial) rfl rfl (op_fld rfl rfl rfl rfl (by decide) (by assumption) (Nat.le_of_ble_eq_true rfl)) ?_
    refine wd_val (fun _ => trivial) rfl rfl (op_load rfl rfl (Pt.fld (by assumption) _ (Nat.le_of_ble_eq_true rfl)) rfl) ?_
    refine wd_val (fun _ => trivial) rfl rfl (op_pure rfl) ?_
    refine wd_val (fun _ => trivial) rfl rfl (op_idxF rfl rfl (natA_cast _ _) rfl rfl rfl rfl (by assumption) (by omega)) ?_
    refine wd_val (fun _ => trivial) rfl rfl (op_load rfl rfl (Row.mk_pt (by assumption) (by assumption)) rfl) ?_
    refine wd_val (fun _ => trivial) rfl rfl (op_fld rfl rfl rfl rfl (by decide) (by assumption) (Nat.le_of_ble_eq_true rfl)) ?_
    refine wd_val (fun _ => trivial) rfl rfl (op_load rfl rfl (Pt.fld (by assumption) _ (Nat.le_of_ble_eq_true rfl)) rfl) ?_
    refine wd_val (fun _ => trivial) rfl rfl (op_pure rfl) ?_
    refine wd_val (fun _ => trivial) rfl rfl (op_idxF rfl rfl (natA_cast _ _) rfl rfl rfl rfl (by assumption) (by omega)) ?_
    refine wd_val (fun _ => trivial) rfl rfl (op_load rfl rfl (Row.mk_pt (by assumption) (by assumption)) rfl) ?_
    refine wd_val (fun _ => trivial) rfl rfl (op_pure rfl) ?_
    refine wd_nil ?_
    refine then_n ?_
    refine wc_condT rfl (fun h56 => ?_) (fun h56 => ?_)
    · simp at h56
    clear h56
    refine wc_skip ?_
    refine out_n ?_
    refine then_n ?_
    refine wc_region ?_
    refine w_val rfl rfl (op_pure rfl) ?_
    refine w_val rfl rfl (op_add rfl rfl (by unfold In64; omega)) ?_
    refine w_val rfl rfl (op_pure rfl) ?_
    refine w_nil ?_
    exact round_n _ _ (by omega) (Sub.cons rfl (Sub.cons rfl (Sub.cons rfl (Sub.nil _)))) ⟨i + 1, rfl, by omega, rfl, rfl⟩
  simp at h43
  refine wc_exit ?_
  repeat first | refine then_x ?_ | refine round_x ?_ | refine cut_x ?_ | refine out_x' (by decide) ?_
  refine out_x ?_
  refine then_n ?_
  repeat refine wc_seq ?_
  refine wc_region ?_
  refine w_val rfl rfl (op_pure rfl) ?_
  refine w_nil ?_
  refine then_n ?_
  repeat refine wc_seq ?_
  refine wc_block ?_
  refine wc_loop_at (fun j m s' => ∃ i : Nat, j = mm.funcs.length - i ∧ i ≤ mm.funcs.length ∧ Keep [] s2 s' ∧ m = [(2, .ptr s.ctr 0 0), (3, .ptr s1.ctr 0 0), (6, .int .i64 (i : Nat))]) mm.funcs.length
    [(2, .ptr s.ctr 0 0), (3, .ptr s1.ctr 0 0), (6, .int .i64 ((0 : Nat) : Int))] (Sub.cons rfl (Sub.cons rfl (Sub.cons rfl (Sub.nil _)))) ⟨0, by simp, by simp, hK, rfl⟩ ?_
  clear hK
  rintro j m s3 ⟨i, rfl, hi, hK, rfl⟩
  repeat refine wc_seq ?_
  refine wc_region ?_
  refine w_val rfl rfl (op_pure rfl) ?_
  refine w_val rfl rfl (op_fld rfl rfl rfl rfl (by decide) (Pt.keep0 (by assumption) hK) (Nat.le_of_ble_eq_true rfl)) ?_
  refine w_val rfl rfl (op_load rfl rfl (Pt.fld (Pt.keep0 (by assumption) hK) _ (Nat.le_of_ble_eq_true rfl)) rfl) ?_
  refine w_val rfl rfl (op_len rfl rfl rfl rfl rfl (by assumption)) ?_
  refine w_val rfl rfl (op_pure rfl) ?_
  refine w_nil ?_
  refine then_n ?_
  repeat refine wc_seq ?_
  refine wc_condT rfl (fun h61 => ?_) (fun h61 => ?_)
  · simp at h61
    refine wc_skip ?_
    refine then_n ?_
    repeat refine wc_seq ?_
    refine wc_block ?_
    repeat refine wc_seq ?_
    obtain ⟨x, hx⟩ : ∃ x, mm.funcs[i]? = some x := ⟨_, List.getElem?_eq_getElem h61⟩
    obtain ⟨ca, hca⟩ : ∃ c, csf[i]? = some c := ⟨_, List.getElem?_eq_getElem (by omega)⟩
    obtain ⟨cb, hcb⟩ : ∃ c, csb[i]? = some c := ⟨_, List.getElem?_eq_getElem (by omega)⟩
    have hfa := hF i x ca hx hca
    have hfb := hFb i x cb hx hcb
    have hsx := hsm x (List.mem_of_getElem? hx)
    obtain ⟨y0, y1, y2, y3, y4, y5, rfl⟩ : ∃ y0 y1 y2 y3 y4 y5, ca = [y0, y1, y2, y3, y4, y5] := by
      obtain ⟨w1, w2, w3, e, -⟩ := hfa
      exact ⟨_, _, _, _, _, _, e⟩
    obtain ⟨z0, z1, z2, z3, z4, z5, rfl⟩ : ∃ y0 y1 y2 y3 y4 y5, cb = [y0, y1, y2, y3, y4, y5] := by
      obtain ⟨w1, w2, w3, e, -⟩ := hfb
      exact ⟨_, _, _, _, _, _, e⟩
    have hpa3 := hpa.keep0 hK
    have hpb3 := hpb.keep0 hK
    have hrfa3 := hrfa.keep0 hK
    have hrfb3 := hrfb.keep0 hK
    have hR := Keep.refl (s := s3) (hK.ok)
    refine wc_draw (Old s3 []) (by kernel_rfl) rfl ?_
    refine wo_val (fun _ => rfl) rfl rfl (op_fld rfl rfl rfl rfl (by decide) (by assumption) (Nat.le_of_ble_eq_true rfl)) ?_
    refine wo_load hR rfl rfl (Pt.fld (by assumption) _ (Nat.le_of_ble_eq_true rfl)) rfl (fun _ _ h => by cases h) rfl rfl ?_
    refine wo_val (fun _ => rfl) rfl rfl (op_pure rfl) ?_
    refine wo_val (fun _ => rfl) rfl rfl (op_idx rfl rfl (natA_cast _ _) rfl rfl rfl rfl (by assumption) (by omega)) ?_
    refine wo_load hR rfl rfl (Row.pt (by assumption) (by assumption)) rfl (fun _ _ h => by cases h) rfl rfl ?_
    refine wo_val (fun _ => rfl) rfl rfl (op_fld rfl rfl rfl rfl (by decide) (by assumption) (Nat.le_of_ble_eq_true rfl)) ?_
    refine wo_load hR rfl rfl (Pt.fld (by assumption) _ (Nat.le_of_ble_eq_true rfl)) rfl (fun _ _ h => by cases h) rfl rfl ?_
    refine wo_val (fun _ => rfl) rfl rfl (op_pure rfl) ?_
    refine wo_val (fun _ => rfl) rfl rfl (op_idx rfl rfl (natA_cast _ _) rfl rfl rfl rfl (by assumption) (by omega)) ?_
    refine wo_load hR rfl rfl (Row.pt (by assumption) (by assumption)) rfl (fun _ _ h => by cases h) rfl rfl ?_
    refine wo_call hR rfl rfl (fun _ => rfl) (op_call rfl rfl rfl rfl) (function_same hR.ok hsx (hfa.keep0 (hK0.two (hK.two hR))).bare (hfb.keep0 (hK0.two (hK.two hR))).bare) (fun _ _ h => h.1) ?_
    rintro _ s4 ⟨hk4, rfl⟩ hR
    have hK := hK.two hR
    refine wo_val (fun _ => rfl) rfl rfl (op_pure rfl) ?_
    refine wd_nil ?_
    refine then_n ?_
    refine wc_cond_f rfl ?_
    refine wc_skip ?_
    refine out_n ?_
    refine then_n ?_
    refine wc_region ?_
    refine w_val rfl rfl (op_pure rfl) ?_
    refine w_val rfl rfl (op_add rfl rfl (by unfold In64; omega)) ?_
    refine w_val rfl rfl (op_pure rfl) ?_
    refine w_nil ?_
    exact round_n _ _ (by omega) (Sub.cons rfl (Sub.cons rfl (Sub.cons rfl (Sub.nil _)))) ⟨i + 1, rfl, by omega, hK, rfl⟩
  simp at h61
  refine wc_exit ?_
  repeat first | refine then_x ?_ | refine round_x ?_ | refine cut_x ?_ | refine out_x' (by decide) ?_
  refine out_x ?_
  refine then_n ?_
  repeat refine wc_seq ?_
  refine wc_region ?_
  refine w_val rfl rfl (op_pure rfl) ?_
  refine w_nil ?_
  refine then_n ?_
  refine wc_ret ?_
  repeat first | refine then_r ?_ | refine out_r ?_ | refine round_r ?_ | refine cut_r ?_
  exact ⟨_, rfl, hK0.two hK, rfl⟩
set_option maxRecDepth 10000 in
theorem keptModule_ok {s : St} {ca cb : List AV} {mm : ModL} (hok : s.Ok) (hm : mm.small) (hva : ModLR s.h mm ca) (hvb : ModR s.h mm cb) :
    CallS Try.prog Tt Kt 31 [.agg ca, .agg cb] s (fun v s' => Keep [] s s' ∧ v = .bool true) := by
  have hza := hva.to.leaf.2
  have hzb := hvb.leaf.2
  obtain ⟨vga, vaa, vha, vfa, rfl, hga, haa, hha, hfa⟩ := hva
  obtain ⟨vgb, vab, vhb, vfb, rfl, hgb, hab, hhb, hfb⟩ := hvb
  obtain ⟨hl1, hl3, hl2, hl4, hsm⟩ := hm
  refine call_of (fn := Try.f31) (nt := 110) Try.func31 rfl rfl rfl ?_
  repeat refine wc_seq ?_
  refine wc_region ?_
  refine w_box rfl rfl rfl hza hok ?_
  intro s1 hp1 hk1 hc1
  have hK := (Keep.refl hok).two hk1
  have hpa : Pt s1.h (.ptr s.ctr 0 0) [vga, vaa, vha, vfa] := hp1
  clear hp1
  refine w_box rfl rfl rfl hzb hK.ok ?_
  intro s2 hp2 hk2 hc2
  have hK := hK.two hk2
  have hpa := hpa.keep0 hk2
  have hpb : Pt s2.h (.ptr s1.ctr 0 0) [vgb, vab, vhb, vfb] := hp2
  clear hp2
  have hK0 := hK
  have hK := Keep.refl hK0.ok
  have hga := hga.keep hK0 (fun _ _ h => by cases h)
  have hha := hha.keep hK0 (fun _ _ h => by cases h)
  have haa := haa.keep hK0 (fun _ _ h => by cases h)
  have hraa := haa.row
  obtain ⟨ua, rfl, hua, hra⟩ := haa
  have hra1 := Lent.more hra
  have hpta := hra1.mk_pt'
  obtain ⟨uf, csf, rfl, huf, hrf, hlf, hF⟩ := hfa
  have hrf := hrf.keep0 hK0
  have hrfa := hrf.less hlf
  have hrf1 := hrf.more hlf
  have hptf := hrf1.mark hlf
  have hsfa : (cutA uf 0 mm.funcs.length).slen = some mm.funcs.length := hrfa.slen.trans (congrArg some hlf)
  have hgb := hgb.keep0 hK0
  have hhb := hhb.keep0 hK0
  have hab := hab.keep0 hK0
  obtain ⟨csb, hrfb, hlb, hFb⟩ := hfb
  have hrfb := hrfb.keep0 hK0
  have hsfb : vfb.slen = some mm.funcs.length := hrfb.slen.trans (congrArg some hlb)
  refine w_val rfl rfl (op_pure rfl) ?_
  refine w_nil ?_
  refine then_n ?_
  repeat refine wc_seq ?_
  refine wc_region ?_
  refine w_val rfl rfl (op_fld rfl rfl rfl rfl (by decide) (by assumption) (Nat.le_of_ble_eq_true rfl)) ?_
  refine w_val rfl rfl (op_load rfl rfl (by assumption) rfl) ?_
  refine w_val rfl rfl (op_fld rfl rfl rfl rfl (by decide) (by assumption) (Nat.le_of_ble_eq_true rfl)) ?_
  refine w_val rfl rfl (op_load rfl rfl (by assumption) rfl) ?_
  refine w_call rfl rfl (op_call rfl rfl rfl rfl) (keptLabels_ok hl1 hga hgb) ?_
  rintro _ sX ⟨eX, rfl⟩
  obtain rfl := eX.symm
  refine w_val rfl rfl (op_pure rfl) ?_
  refine w_val rfl rfl (op_pure rfl) ?_
  refine w_val rfl rfl (op_fld rfl rfl rfl rfl (by decide) (by assumption) (Nat.le_of_ble_eq_true rfl)) ?_
  refine w_val rfl rfl (op_load rfl rfl (Pt.fld (by assumption) _ (Nat.le_of_ble_eq_true rfl)) rfl) ?_
  refine w_val rfl rfl (op_fld rfl rfl rfl rfl (by decide) (by assumption) (Nat.le_of_ble_eq_true rfl)) ?_
  refine w_val rfl rfl (op_load rfl rfl (Pt.fld (by assumption) _ (Nat.le_of_ble_eq_true rfl)) rfl) ?_
  refine w_call rfl rfl (op_call rfl rfl rfl rfl) (keptLabels_ok hl2 hha hhb) ?_
  rintro _ sX ⟨eX, rfl⟩
  obtain rfl := eX.symm
  refine w_val rfl rfl (op_pure rfl) ?_
  refine w_val rfl rfl (op_pure rfl) ?_
  refine w_val rfl rfl (op_pure rfl) ?_
  refine w_val rfl rfl (op_fld rfl rfl rfl rfl (by decide) (by assumption) (Nat.le_of_ble_eq_true rfl)) ?_
  refine w_val rfl rfl (op_load rfl rfl (Pt.fld (by assumption) _ (Nat.le_of_ble_eq_true rfl)) rfl) ?_
  refine w_val rfl rfl (op_len rfl rfl rfl rfl rfl (Row.slenF (by assumption))) ?_
  refine w_val rfl rfl (op_fld rfl rfl rfl rfl (by decide) (by assumption) (Nat.le_of_ble_eq_true rfl)) ?_
  refine w_val rfl rfl (op_load rfl rfl (Pt.fld (by assumption) _ (Nat.le_of_ble_eq_true rfl)) rfl) ?_
  refine w_val rfl rfl (op_len rfl rfl rfl rfl rfl (Row.slenF (by assumption))) ?_
  refine w_val rfl rfl (op_pure rfl) ?_
  refine w_val rfl rfl (op_pure rfl) ?_
  refine w_val rfl rfl (op_pure rfl) ?_
  refine w_split (i := 32) rfl (fun h32 => ?_) (fun h32 => ?_)
  · simp at h32
  clear h32
  refine w_val rfl rfl (op_fld rfl rfl rfl rfl (by decide) (by assumption) (Nat.le_of_ble_eq_true rfl)) ?_
  refine w_val rfl rfl (op_load rfl rfl (Pt.fld (by assumption) _ (Nat.le_of_ble_eq_true rfl)) rfl) ?_
  refine w_val rfl rfl (op_len rfl rfl rfl rfl rfl (by assumption)) ?_
  refine w_val rfl rfl (op_fld rfl rfl rfl rfl (by decide) (by assumption) (Nat.le_of_ble_eq_true rfl)) ?_
  refine w_val rfl rfl (op_load rfl rfl (Pt.fld (by assumption) _ (Nat.le_of_ble_eq_true rfl)) rfl) ?_
  refine w_val rfl rfl (op_len rfl rfl rfl rfl rfl (by assumption)) ?_
  refine w_val rfl rfl (op_pure rfl) ?_
  refine w_val rfl rfl (op_pure rfl) ?_
  refine w_nil ?_
  refine then_n ?_
  repeat refine wc_seq ?_
  refine wc_condT rfl (fun h40 => ?_) (fun h40 => ?_)
  · simp at h40
  clear h40
  refine wc_skip ?_
  refine then_n ?_
  repeat refine wc_seq ?_
  refine wc_region ?_
  refine w_val rfl rfl (op_pure rfl) ?_
  refine w_nil ?_
  refine then_n ?_
  repeat refine wc_seq ?_
  refine wc_block ?_
  refine wc_loop_at (fun j m s' => ∃ i : Nat, j = mm.arrays.length - i ∧ i ≤ mm.arrays.length ∧ s' = s2 ∧ m = [(2, .ptr s.ctr 0 0), (3, .ptr s1.ctr 0 0), (5, .int .i64 (i : Nat))]) mm.arrays.length
    [(2, .ptr s.ctr 0 0), (3, .ptr s1.ctr 0 0), (5, .int .i64 ((0 : Nat) : Int))] (Sub.cons rfl (Sub.cons rfl (Sub.cons rfl (Sub.nil _)))) ⟨0, by simp, by simp, rfl, rfl⟩ ?_
  rintro j m sX ⟨i, rfl, hi, eX, rfl⟩
  obtain rfl := eX.symm
  repeat refine wc_seq ?_
  refine wc_region ?_
  refine w_val rfl rfl (op_pure rfl) ?_
  refine w_val rfl rfl (op_fld rfl rfl rfl rfl (by decide) (by assumption) (Nat.le_of_ble_eq_true rfl)) ?_
  refine w_val rfl rfl (op_load rfl rfl (Pt.fld (by assumption) _ (Nat.le_of_ble_eq_true rfl)) rfl) ?_
  refine w_val rfl rfl (op_len rfl rfl rfl rfl rfl (Row.slenF (by assumption))) ?_
  refine w_val rfl rfl (op_pure rfl) ?_
  refine w_nil ?_
  refine then_n ?_
  repeat refine wc_seq ?_
  refine wc_condT rfl (fun h45 => ?_) (fun h45 => ?_)
  · simp at h45
    refine wc_skip ?_
    refine then_n ?_
    repeat refine wc_seq ?_
    refine wc_block ?_
    repeat refine wc_seq ?_
    obtain ⟨x, hx⟩ : ∃ x, mm.arrays[i]? = some x := ⟨_, List.getElem?_eq_getElem h45⟩
    refine wc_draw (fun _ => True) (by kernel_rfl) rfl ?_
    refine wd_val (fun _ => trivial) rfl rfl (op_fld rfl rfl rfl rfl (by decide) (by assumption) (Nat.le_of_ble_eq_true rfl)) ?_
    refine wd_val (fun _ => trivial) rfl rfl (op_load rfl rfl (Pt.fld (by assumption) _ (Nat.le_of_ble_eq_true rfl)) rfl) ?_
    refine wd_val (fun _ => trivial) rfl rfl (op_pure rfl) ?_
    refine wd_val (fun _ => trivial) rfl rfl (op_idxF rfl rfl (natA_cast _ _) rfl rfl rfl rfl (by assumption) (by omega)) ?_
    refine wd_val (fun _ => trivial) rfl rfl (op_load rfl rfl (Row.mk_pt (by assumption) (by assumption)) rfl) ?_
    refine wd_val (fun _ => trivial) rfl rfl (op_fld rfl rfl rfl rfl (by decide) (by assumption) (Nat.le_of_ble_eq_true rfl)) ?_
    refine wd_val (fun _ => trivial) rfl rfl (op_load rfl rfl (Pt.fld (by assumption) _ (Nat.le_of_ble_eq_true rfl)) rfl) ?_
    refine wd_val (fun _ => trivial) rfl rfl (op_pure rfl) ?_
    refine wd_val (fun _ => trivial) rfl rfl (op_idxF rfl rfl (natA_cast _ _) rfl rfl rfl rfl (by assumption) (by omega)) ?_
    refine wd_val (fun _ => trivial) rfl rfl (op_load rfl rfl (Row.mk_pt (by assumption) (by assumption)) rfl) ?_
    refine wd_val (fun _ => trivial) rfl rfl (op_pure rfl) ?_
    refine wd_nil ?_
    refine then_n ?_
    refine wc_condT rfl (fun h58 => ?_) (fun h58 => ?_)
    · simp at h58
    clear h58
    refine wc_skip ?_
    refine out_n ?_
    refine then_n ?_
    refine wc_region ?_
    refine w_val rfl rfl (op_pure rfl) ?_
    refine w_val rfl rfl (op_add rfl rfl (by unfold In64; omega)) ?_
    refine w_val rfl rfl (op_pure rfl) ?_
    refine w_nil ?_
    exact round_n _ _ (by omega) (Sub.cons rfl (Sub.cons rfl (Sub.cons rfl (Sub.nil _)))) ⟨i + 1, rfl, by omega, rfl, rfl⟩
  simp at h45
  refine wc_exit ?_
  repeat first | refine then_x ?_ | refine round_x ?_ | refine cut_x ?_ | refine out_x' (by decide) ?_
  refine out_x ?_
  refine then_n ?_
  repeat refine wc_seq ?_
  refine wc_region ?_
  refine w_val rfl rfl (op_pure rfl) ?_
  refine w_nil ?_
  refine then_n ?_
  repeat refine wc_seq ?_
  refine wc_block ?_
  refine wc_loop_at (fun j m s' => ∃ i : Nat, j = mm.funcs.length - i ∧ i ≤ mm.funcs.length ∧ Keep [] s2 s' ∧ m = [(2, .ptr s.ctr 0 0), (3, .ptr s1.ctr 0 0), (6, .int .i64 (i : Nat))]) mm.funcs.length
    [(2, .ptr s.ctr 0 0), (3, .ptr s1.ctr 0 0), (6, .int .i64 ((0 : Nat) : Int))] (Sub.cons rfl (Sub.cons rfl (Sub.cons rfl (Sub.nil _)))) ⟨0, by simp, by simp, hK, rfl⟩ ?_
  clear hK
  rintro j m s3 ⟨i, rfl, hi, hK, rfl⟩
  repeat refine wc_seq ?_
  refine wc_region ?_
  refine w_val rfl rfl (op_pure rfl) ?_
  refine w_val rfl rfl (op_fld rfl rfl rfl rfl (by decide) (Pt.keep0 (by assumption) hK) (Nat.le_of_ble_eq_true rfl)) ?_
  refine w_val rfl rfl (op_load rfl rfl (Pt.fld (Pt.keep0 (by assumption) hK) _ (Nat.le_of_ble_eq_true rfl)) rfl) ?_
  refine w_val rfl rfl (op_len rfl rfl rfl rfl rfl (by assumption)) ?_
  refine w_val rfl rfl (op_pure rfl) ?_
  refine w_nil ?_
  refine then_n ?_
  repeat refine wc_seq ?_
  refine wc_condT rfl (fun h63 => ?_) (fun h63 => ?_)
  · simp at h63
    refine wc_skip ?_
    refine then_n ?_
    repeat refine wc_seq ?_
    refine wc_block ?_
    repeat refine wc_seq ?_
    obtain ⟨x, hx⟩ : ∃ x, mm.funcs[i]? = some x := ⟨_, List.getElem?_eq_getElem h63⟩
    obtain ⟨ca, hca⟩ : ∃ c, csf[i]? = some c := ⟨_, List.getElem?_eq_getElem (by omega)⟩
    obtain ⟨cb, hcb⟩ : ∃ c, csb[i]? = some c := ⟨_, List.getElem?_eq_getElem (by omega)⟩
    have hfa := hF i x ca hx hca
    have hfb := hFb i x cb hx hcb
    have hsx := hsm x (List.mem_of_getElem? hx)
    obtain ⟨y0, y1, y2, y3, y4, y5, rfl⟩ : ∃ y0 y1 y2 y3 y4 y5, ca = [y0, y1, y2, y3, y4, y5] := by
      obtain ⟨w1, w2, w3, e, -⟩ := hfa
      exact ⟨_, _, _, _, _, _, e⟩
    obtain ⟨z0, z1, z2, z3, z4, z5, rfl⟩ : ∃ y0 y1 y2 y3 y4 y5, cb = [y0, y1, y2, y3, y4, y5] := by
      obtain ⟨w1, w2, w3, e, -⟩ := hfb
      exact ⟨_, _, _, _, _, _, e⟩
    have hpa3 := hpa.keep0 hK
    have hpb3 := hpb.keep0 hK
    have hrfa3 := hrfa.keep0 hK
    have hrfb3 := hrfb.keep0 hK
    have hR := Keep.refl (s := s3) (hK.ok)
    refine wc_draw (Old s3 []) (by kernel_rfl) rfl ?_
    refine wo_val (fun _ => rfl) rfl rfl (op_fld rfl rfl rfl rfl (by decide) (by assumption) (Nat.le_of_ble_eq_true rfl)) ?_
    refine wo_load hR rfl rfl (Pt.fld (by assumption) _ (Nat.le_of_ble_eq_true rfl)) rfl (fun _ _ h => by cases h) rfl rfl ?_
    refine wo_val (fun _ => rfl) rfl rfl (op_pure rfl) ?_
    refine wo_val (fun _ => rfl) rfl rfl (op_idx rfl rfl (natA_cast _ _) rfl rfl rfl rfl (by assumption) (by omega)) ?_
    refine wo_load hR rfl rfl (Row.pt (by assumption) (by assumption)) rfl (fun _ _ h => by cases h) rfl rfl ?_
    refine wo_val (fun _ => rfl) rfl rfl (op_fld rfl rfl rfl rfl (by decide) (by assumption) (Nat.le_of_ble_eq_true rfl)) ?_
    refine wo_load hR rfl rfl (Pt.fld (by assumption) _ (Nat.le_of_ble_eq_true rfl)) rfl (fun _ _ h => by cases h) rfl rfl ?_
    refine wo_val (fun _ => rfl) rfl rfl (op_pure rfl) ?_
    refine wo_val (fun _ => rfl) rfl rfl (op_idx rfl rfl (natA_cast _ _) rfl rfl rfl rfl (by assumption) (by omega)) ?_
    refine wo_load hR rfl rfl (Row.pt (by assumption) (by assumption)) rfl (fun _ _ h => by cases h) rfl rfl ?_
    refine wo_call hR rfl rfl (fun _ => rfl) (op_call rfl rfl rfl rfl) (keptFunction_ok hR.ok hsx (hfa.keep0 (hK0.two (hK.two hR))).bare (hfb.keep0 (hK0.two (hK.two hR))).bare) (fun _ _ h => h.1) ?_
    rintro _ s4 ⟨hk4, rfl⟩ hR
    have hK := hK.two hR
    refine wo_val (fun _ => rfl) rfl rfl (op_pure rfl) ?_
    refine wd_nil ?_
    refine then_n ?_
    refine wc_cond_f rfl ?_
    refine wc_skip ?_
    refine out_n ?_
    refine then_n ?_
    refine wc_region ?_
    refine w_val rfl rfl (op_pure rfl) ?_
    refine w_val rfl rfl (op_add rfl rfl (by unfold In64; omega)) ?_
    refine w_val rfl rfl (op_pure rfl) ?_
    refine w_nil ?_
    exact round_n _ _ (by omega) (Sub.cons rfl (Sub.cons rfl (Sub.cons rfl (Sub.nil _)))) ⟨i + 1, rfl, by omega, hK, rfl⟩
  simp at h63
  refine wc_exit ?_
  repeat first | refine then_x ?_ | refine round_x ?_ | refine cut_x ?_ | refine out_x' (by decide) ?_
  refine out_x ?_
  refine then_n ?_
  repeat refine wc_seq ?_
  refine wc_region ?_
  refine w_val rfl rfl (op_fld rfl rfl rfl rfl (by decide) (Pt.keep0 (by assumption) hK) (Nat.le_of_ble_eq_true rfl)) ?_
  refine w_val rfl rfl (op_load rfl rfl (Pt.fld (Pt.keep0 (by assumption) hK) _ (Nat.le_of_ble_eq_true rfl)) rfl) ?_
  refine w_val rfl rfl (op_fld rfl rfl rfl rfl (by decide) (Pt.keep0 (by assumption) hK) (Nat.le_of_ble_eq_true rfl)) ?_
  refine w_val rfl rfl (op_load rfl rfl (Pt.fld (Pt.keep0 (by assumption) hK) _ (Nat.le_of_ble_eq_true rfl)) rfl) ?_
  refine w_val rfl rfl (op_len rfl rfl rfl rfl rfl (Row.slenF (by assumption))) ?_
  refine w_val rfl rfl (op_add rfl rfl (by unfold In64; omega)) ?_
  refine w_val rfl rfl (op_recut rfl rfl (natA_succ _ _) rfl rfl rfl rfl (hra.keep0 hK) hua (by simp)) ?_
  refine w_val rfl rfl (op_pure rfl) ?_
  refine w_nil ?_
  refine then_n ?_
  repeat refine wc_seq ?_
  refine wc_region ?_
  refine w_val rfl rfl (op_fld rfl rfl rfl rfl (by decide) (Pt.keep0 (by assumption) hK) (Nat.le_of_ble_eq_true rfl)) ?_
  refine w_val rfl rfl (op_load rfl rfl (Pt.fld (Pt.keep0 (by assumption) hK) _ (Nat.le_of_ble_eq_true rfl)) rfl) ?_
  refine w_val rfl rfl (op_fld rfl rfl rfl rfl (by decide) (Pt.keep0 (by assumption) hK) (Nat.le_of_ble_eq_true rfl)) ?_
  refine w_val rfl rfl (op_load rfl rfl (Pt.fld (Pt.keep0 (by assumption) hK) _ (Nat.le_of_ble_eq_true rfl)) rfl) ?_
  refine w_val rfl rfl (op_len rfl rfl rfl rfl rfl (by assumption)) ?_
  refine w_val rfl rfl (op_add rfl rfl (by unfold In64; omega)) ?_
  refine w_val rfl rfl (op_recut rfl rfl (natA_succ _ _) rfl rfl rfl rfl (hrf.keep0 hK) huf (by simp; omega)) ?_
  refine w_val rfl rfl (op_pure rfl) ?_
  refine w_nil ?_
  refine then_n ?_
  repeat refine wc_seq ?_
  refine wc_region ?_
  refine w_val rfl rfl (op_pure rfl) ?_
  refine w_val rfl rfl (op_fld rfl rfl rfl rfl (by decide) (Pt.keep0 (by assumption) hK) (Nat.le_of_ble_eq_true rfl)) ?_
  refine w_val rfl rfl (op_load rfl rfl (Pt.fld (Pt.keep0 (by assumption) hK) _ (Nat.le_of_ble_eq_true rfl)) rfl) ?_
  refine w_val rfl rfl (op_len rfl rfl rfl rfl rfl (Row.slenF (by assumption))) ?_
  refine w_val rfl rfl (op_idx rfl rfl (natA_cast _ _) rfl rfl rfl rfl (Row.keep0 (by assumption) hK) (by (simp; done))) ?_
  refine w_val rfl rfl (op_fld rfl rfl rfl rfl (by decide) (Pt.keep0 (by assumption) hK) (Nat.le_of_ble_eq_true rfl)) ?_
  refine w_val rfl rfl (op_load rfl rfl (Pt.fld (Pt.keep0 (by assumption) hK) _ (Nat.le_of_ble_eq_true rfl)) rfl) ?_
  refine w_val rfl rfl (op_pure rfl) ?_
  refine w_val rfl rfl (op_pure rfl) ?_
  refine w_split (i := 100) rfl (fun h100 => ?_) (fun h100 => ?_)
  · clear h100
    refine w_val rfl rfl (op_pure rfl) ?_
    refine w_val rfl rfl (op_fld rfl rfl rfl rfl (by decide) (Pt.keep0 (by assumption) hK) (Nat.le_of_ble_eq_true rfl)) ?_
    refine w_val rfl rfl (op_load rfl rfl (Pt.fld (Pt.keep0 (by assumption) hK) _ (Nat.le_of_ble_eq_true rfl)) rfl) ?_
    refine w_val rfl rfl (op_len rfl rfl rfl rfl rfl (by assumption)) ?_
    refine w_val rfl rfl (op_idx rfl rfl (natA_cast _ _) rfl rfl rfl rfl (Row.keep0 (by assumption) hK) (by (simp; omega))) ?_
    refine w_val rfl rfl (op_fld rfl rfl rfl rfl (by decide) (Pt.keep0 (by assumption) hK) (Nat.le_of_ble_eq_true rfl)) ?_
    refine w_val rfl rfl (op_load rfl rfl (Pt.fld (Pt.keep0 (by assumption) hK) _ (Nat.le_of_ble_eq_true rfl)) rfl) ?_
    refine w_val rfl rfl (op_pure rfl) ?_
    refine w_val rfl rfl (op_pure rfl) ?_
    refine w_val rfl rfl (op_pure rfl) ?_
    refine w_nil ?_
    refine then_n ?_
    refine wc_ret ?_
    repeat first | refine then_r ?_ | refine out_r ?_ | refine round_r ?_ | refine cut_r ?_
    exact ⟨_, rfl, hK0.two hK, rfl⟩
  simp at h100
end Go.Ab
/- Scopes, max, min, the first of many. -/
namespace Go.Ab
/-- The first that is told. -/
def fo {β : Type} (p : Nat → Option β) : Nat → Option β
  | 0 => none
  | i + 1 => match fo p i with
    | some b => some b
    | none => p i
theorem fo_hit {β : Type} {p : Nat → Option β} {i n : Nat} {b : β} (h : fo p i = none) (hb : p i = some b) (hi : i < n) : fo p n = some b := by
  induction n with
  | zero => omega
  | succ n ih =>
    unfold fo
    by_cases e : i = n
    · subst e; rw [h]; exact hb
    · rw [ih (by omega)]
theorem fo_next {β : Type} {p : Nat → Option β} {i : Nat} (h : fo p i = none) (hb : p i = none) : fo p (i + 1) = none := by
  unfold fo; rw [h]; exact hb
section
variable {P : Program} {T : Tab} {K : FuncId → Option Bool} {nt : Nat} {m : Sy} {s : St} {b : Code} {R : Ex → Sy → St → Prop}
def Sc (R : Ex → Sy → St → Prop) : Ex → Sy → St → Prop
  | .goto _, _, _ => False
  | e, m, s => R e m s
theorem wc_scope (h : WC P T K nt b m s (Sc R)) : WC P T K nt (.scope b) m s R := by
  obtain ⟨N, e, m', s', hq, hn⟩ := h
  have hR : R e m' s' ∧ ∀ l, e ≠ .goto l := by
    cases e with
    | goto l => exact hq.elim
    | normal => exact ⟨hq, fun l h => by cases h⟩
    | ret => exact ⟨hq, fun l h => by cases h⟩
    | exit i => exact ⟨hq, fun l h => by cases h⟩
  refine ⟨N + 2, e, m', s', hR.1, fun n k h1 h2 t ht => ?_⟩
  obtain ⟨t', e1, ht'⟩ := hn n (k - 2) (by omega) (by omega) t ht
  obtain ⟨k, rfl⟩ : ∃ j, k = j + 2 := ⟨k - 2, by omega⟩
  rw [show k + 2 - 2 = k by omega] at e1
  refine ⟨t', ?_, ht'⟩
  simp only [evCode, evCode.evScope, e1]
  cases e with
  | goto l => exact absurd rfl (hR.2 l)
  | _ => rfl
theorem sc_n (h : R .normal m s) : Sc R .normal m s := h
theorem sc_r (h : R .ret m s) : Sc R .ret m s := h
theorem op_max {x y : Operand} {args : Array Operand} {tys : Array TypeId} {a c : Int} (ha : args.toList = [x, y]) (hx : evY m x = some (.int .i64 a)) (hy : evY m y = some (.int .i64 c)) :
    ∀ t, Has t nt m → evOp T (.call ⟨.builtin .max, args, tys⟩) t s = some (.val (.int .i64 (if a < c then c else a)), s) := by
  intro t ht
  have h1 : evsY m [x, y] = some [.int .i64 a, .int .i64 c] := by simp only [evsY, hx, hy]
  simp only [evOp, ha, evsY_ok ht h1, callA, if_true]
theorem op_min {x y : Operand} {args : Array Operand} {tys : Array TypeId} {a c : Int} (ha : args.toList = [x, y]) (hx : evY m x = some (.int .i64 a)) (hy : evY m y = some (.int .i64 c)) :
    ∀ t, Has t nt m → evOp T (.call ⟨.builtin .min, args, tys⟩) t s = some (.val (.int .i64 (if c < a then c else a)), s) := by
  intro t ht
  have h1 : evsY m [x, y] = some [.int .i64 a, .int .i64 c] := by simp only [evsY, hx, hy]
  simp only [evOp, ha, evsY_ok ht h1, callA, if_true]
end
end Go.Ab
/- Drawn regions in which variables are laid early. -/
namespace Go.Ab
section
variable {P : Program} {T : Tab} {K : FuncId → Option Bool} {nt : Nat} {ops : Array Oper}
/-- What an entry of the record must show: j: the operation's place; A: the early variables, by place and group. -/
def EntOk (B : Array Nat) (D : Nat → Prop) (A : List (Nat × Nat)) (j : Nat) (e : Entry) : Prop :=
  (∀ g, e.rd = some g → D g) ∧ (∀ g ∈ e.wr, ¬ D g ∧ ∀ p ∈ A, p.2 = g → aheadB B p.1 j = true) ∧ ∀ g, e.al = some g → (j, g) ∈ A
/-- Operations of a drawn region from the place j on; hs: what was laid early. -/
def WE (P : Program) (T : Tab) (K : FuncId → Option Bool) (nt : Nat) (ops : Array Oper) (D : Nat → Prop) (A : List (Nat × Nat)) (j : Nat) (l : List Oper) (hs : List (Option (Nat × List AV))) (m : Sy) (s : St) (Q : Sy → St → Prop) : Prop :=
  ∃ N m' s', Q m' s' ∧ ∀ n, N ≤ n → ∀ t, Has t nt m → ∃ t' es, evLog T (evCallK P T K n) ops l hs t s = some (t', s', es) ∧ Has t' nt m' ∧ ∀ (i : Nat) (e : Entry), es[i]? = some e → EntOk (Region.before ops) D A (j + i) e
variable {D : Nat → Prop} {A : List (Nat × Nat)} {j : Nat} {rest : List Oper} {hs : List (Option (Nat × List AV))} {m : Sy} {s s0 : St} {Q : Sy → St → Prop} {R : Ex → Sy → St → Prop} {o : Oper}
theorem we_nil (h : Q m s) : WE P T K nt ops D A j [] [] m s Q := ⟨0, m, s, h, fun _ _ t ht => ⟨t, [], rfl, ht, fun i e h => by simp at h⟩⟩
theorem we_cons (hr : ∀ t, Has t nt m → ∀ g, readsA t o.op = some g → D g)
    (h : W1 P T K nt ops o m s.bare fun m1 s1 => (∀ g ∈ s1.wr, ¬ D g ∧ ∀ p ∈ A, p.2 = g → aheadB (Region.before ops) p.1 j = true) ∧ WE P T K nt ops D A (j + 1) rest hs m1 (s1.join s) Q) : WE P T K nt ops D A j (o :: rest) (none :: hs) m s Q := by
  obtain ⟨N, m1, s1, ⟨hw, N', m', s', hq, h'⟩, hn⟩ := h
  refine ⟨max N N', m', s', hq, fun n hn' t ht => ?_⟩
  obtain ⟨t1, e1, ht1⟩ := hn n (by omega) t ht
  obtain ⟨t2, es, e2, ht2, he⟩ := h' n (by omega) t1 ht1
  refine ⟨t2, ⟨if guardA ops t o.guard = some true then readsA t o.op else none, s1.wr, none⟩ :: es, ?_, ht2, ?_⟩
  · rw [evLog, show ({ s with wr := [] } : St) = s.bare from rfl, e1]
    simp only
    rw [show ({ s1 with wr := s1.wr ++ s.wr } : St) = s1.join s from rfl, e2]
  · intro i e hi
    cases i with
    | zero =>
      simp only [List.getElem?_cons_zero, Option.some.injEq] at hi
      subst hi
      refine ⟨fun g hg => ?_, hw, fun g hg => by cases hg⟩
      simp only at hg
      split at hg
      · exact hr t ht g hg
      · cases hg
    | succ i =>
      have := he i e (by simpa using hi)
      rw [show j + (i + 1) = j + 1 + i by omega]
      exact this
/-- A variable that was laid early. -/
theorem we_alloc {d ty : Nat} {pos : String} {af : Array Edge} {e : TypeId} {c : Nat} {cs : List AV} (hd : Nat.ble (d + 1) nt = true) (hA : (j, c) ∈ A) (k : WE P T K nt ops D A (j + 1) rest hs ((d, .ptr c 0 0) :: m) s Q) :
    WE P T K nt ops D A j (⟨some d, .alloc e, ty, pos, af, none⟩ :: rest) (some (c, cs) :: hs) m s Q := by
  obtain ⟨N, m', s', hq, hn⟩ := k
  refine ⟨N, m', s', hq, fun n hn' t ht => ?_⟩
  obtain ⟨t2, es, e2, ht2, he⟩ := hn n hn' (t.set d (.ptr c 0 0)) (ht.set _ (Nat.le_of_ble_eq_true hd))
  refine ⟨t2, ⟨none, [], some c⟩ :: es, ?_, ht2, ?_⟩
  · rw [evLog]
    have : earlyVal T ops ⟨some d, .alloc e, ty, pos, af, none⟩ t c cs = some (.ptr c 0 0) := rfl
    rw [this]
    simp only
    rw [show putA t (some d) (.ptr c 0 0) = t.set d (.ptr c 0 0) from rfl, e2]
  · intro i x hi
    cases i with
    | zero =>
      simp only [List.getElem?_cons_zero, Option.some.injEq] at hi
      subst hi
      exact ⟨fun g hg => by simp at hg, fun g hg => by simp at hg, fun g hg => by cases hg; exact hA⟩
    | succ i =>
      have := he i x (by simpa using hi)
      rw [show j + (i + 1) = j + 1 + i by omega]
      exact this
theorem logOk_ent {B : Array Nat} {l : List Entry} (h : ∀ (i : Nat) (e : Entry), l[i]? = some e → EntOk B D A i e) : logOk B l = true := by
  unfold logOk
  rw [List.all_eq_true]
  intro i _
  cases hi : l[i]? with
  | none => rfl
  | some x =>
    obtain ⟨h1, h2, h3⟩ := h i x hi
    simp only [Bool.and_eq_true]
    constructor
    · cases hrd : x.rd with
      | none => rfl
      | some g =>
        simp only
        rw [List.all_eq_true]
        intro e _
        cases he : l[e]? with
        | none => simp
        | some y =>
          obtain ⟨-, k2, -⟩ := h e y he
          have : y.wr.contains g = false := by
            cases hc : y.wr.contains g with
            | false => rfl
            | true => exact absurd (h1 g hrd) (k2 g (by simpa using hc)).1
          simp only [this, Bool.not_false, Bool.or_true]
    · cases hal : x.al with
      | none => rfl
      | some g =>
        simp only
        rw [List.all_eq_true]
        intro e _
        cases he : l[e]? with
        | none => simp
        | some y =>
          obtain ⟨-, k2, -⟩ := h e y he
          cases hc : y.wr.contains g with
          | false => simp only [hc, Bool.not_false, Bool.or_true]
          | true => rw [(k2 g (by simpa using hc)).2 (i, g) (h3 g hal) rfl]; rfl
theorem wc_early {id : Nat} (hd : drawOk false ops = true) (hh : hoist false T ops.toList [] s = some (s0, hs)) (h : WE P T K nt ops D A 0 ops.toList hs m s0 (R .normal)) : WC P T K nt (.region id ops true) m s R := by
  obtain ⟨N, m', s', hq, hn⟩ := h
  refine ⟨N + 1, .normal, m', s', hq, fun n k hn1 hk t ht => ?_⟩
  obtain ⟨t', es, e1, ht', he⟩ := hn n (by omega) t ht
  obtain ⟨k, rfl⟩ : ∃ j, k = j + 1 := ⟨k - 1, by omega⟩
  refine ⟨t', ?_, ht'⟩
  have : evDraw T (evCallK P T K n) false [] ops t s = some (t', s') := by
    unfold evDraw
    rw [hh]
    simp only [e1]
    rw [if_pos (logOk_ent (D := D) (A := A) fun i e hi => by have := he i e hi; rwa [Nat.zero_add] at this)]
  simp only [evCode, hd, if_true, this]
/- The rules: what is read is old (Old s0 X), what is written is new or one of the early ones. -/
variable {X : List Nat} {d ty : Nat} {pos : String} {af : Array Edge} {g : Option (Nat × Bool)} {op : Op} {v : AV}
theorem we_val (hr : ∀ t, readsA t op = none) (hg : guardY ops m g = some true) (hd : Nat.ble (d + 1) nt = true) (h : ∀ t, Has t nt m → evOp T op t s.bare = some (.val v, s.bare)) (k : WE P T K nt ops D A (j + 1) rest hs ((d, v) :: m) s Q) :
    WE P T K nt ops D A j (⟨some d, op, ty, pos, af, g⟩ :: rest) (none :: hs) m s Q := we_cons (fun t _ g hg => by rw [hr t] at hg; cases hg) (w1_val hg hd h ⟨fun g hg => (by cases hg), k⟩)
theorem we_load {tt : TypeId} {a : Operand} {i : TI} {p : AV} {cs : List AV} (hK : Keep [] s0 s) (hx : evY m a = some p) (hT : T tt = some i) (hp : Pt s0.h p cs) (hc : loadC i cs = some v) (hX : ∀ g ∈ p.gs, g ∉ X) (hg : guardY ops m g = some true) (hd : Nat.ble (d + 1) nt = true)
    (k : WE P T K nt ops (Old s0 X) A (j + 1) rest hs ((d, v) :: m) s Q) : WE P T K nt ops (Old s0 X) A j (⟨some d, .load tt a, ty, pos, af, g⟩ :: rest) (none :: hs) m s Q :=
  have hp' : Pt s.h p cs := hp.keep hK (by intro g _ h; cases h)
  we_cons (fun t ht g hg => by
    have := rd_load ht hx g hg
    exact ⟨hp.lt hK.ok0 g this, hX g this⟩) (w1_val (s' := s.bare) hg hd (op_load (s := s.bare) hx hT (show Pt s.bare.h p cs from hp') hc) ⟨fun g hg => (by cases hg), k⟩)
theorem we_call {f : FuncId} {args : List AV} {R : AV → St → Prop} (hK : Keep [] s0 s) (hA : ∀ p ∈ A, p.2 < s0.ctr) (hg : guardY ops m g = some true) (hd : Nat.ble (d + 1) nt = true) (hr : ∀ t, readsA t op = none) (h : ∀ t, Has t nt m → evOp T op t s.bare = some (.call f args, s.bare)) (hc : CallS P T K f args s.bare R)
    (hw : ∀ v s', R v s' → Keep [] s.bare s') (k : ∀ v s', R v s' → Keep [] s (s'.join s) → WE P T K nt ops (Old s0 X) A (j + 1) rest hs ((d, v) :: m) (s'.join s) Q) : WE P T K nt ops (Old s0 X) A j (⟨some d, op, ty, pos, af, g⟩ :: rest) (none :: hs) m s Q :=
  we_cons (fun t _ g hg => by rw [hr t] at hg; cases hg) (w1_call hg hd h hc fun v s' hr' => by
    have hk := hw v s' hr'
    have key : ∀ g ∈ s'.wr, s0.ctr ≤ g := by
      intro g hg
      rcases hk.wr g hg with h1 | h1 | h1
      · cases h1
      · cases h1
      · exact Nat.le_trans hK.ctr h1
    refine ⟨fun g hg => ⟨fun ho => ?_, fun p hp e => ?_⟩, k v s' hr' hk.joined⟩
    · have := key g hg
      have := ho.1
      omega
    · have := key g hg
      have := hA p hp
      omega)
theorem we_store_all {tt : TypeId} {a x : Operand} {i : TI} {c off : Nat} {u : AV} {old : List AV} (hX : c ∈ X) (hok : s.Ok) (hah : ∀ p ∈ A, p.2 = c → aheadB (Region.before ops) p.1 j = true) (hg : guardY ops m g = some true) (ha : evY m a = some (.ptr c 0 off)) (hx : evY m x = some u) (hT : T tt = some i) (hl : u.cells.length = i.size) (hlo : u.cells.length = old.length)
    (hz : u.cells.all AV.leaf = true) (hp : Pt s.h (.ptr c 0 off) old)
    (k : ∀ s', Pt s'.h (.ptr c 0 off) u.cells → Keep [c] s s' → s'.ctr = s.ctr → WE P T K nt ops (Old s0 X) A (j + 1) rest hs m s' Q) : WE P T K nt ops (Old s0 X) A j (⟨none, .store tt a x, ty, pos, af, g⟩ :: rest) (none :: hs) m s Q := by
  have hokb : s.bare.Ok := hok
  have hpb : rdH s.bare.h c 0 off old.length = some old := hp
  have hw : ∃ G G', s.get c = some G ∧ s.write c 0 off u.cells = some (s.setG c G') := by
    obtain ⟨s', e1, -⟩ := write_over (s := s) hok (show rdH s.h c 0 off old.length = some old from hp) (k := 0) (c := u.cells) (by omega) hz
    rw [Nat.add_zero] at e1
    unfold St.write at e1 ⊢
    simp only [hz, if_true] at e1 ⊢
    split at e1
    · cases e1
    · rename_i G hG
      split at e1
      · cases e1
      · rename_i G' hG'
        exact ⟨G, G', hG, by simp only []⟩
  obtain ⟨s', e1, e2, e3, e4⟩ := write_over hokb hpb (k := 0) (c := u.cells) (by omega) hz
  rw [Nat.add_zero] at e1
  have hwr : ∀ g ∈ s'.wr, g = c := by
    unfold St.write at e1
    simp only [hz, if_true] at e1
    split at e1
    · cases e1
    · split at e1
      · cases e1
      · cases e1
        intro g hg
        exact List.mem_singleton.1 hg
  refine we_cons (fun t _ g hg => by cases hg) (w1_skip (s' := s') hg rfl (fun t ht => ?_) ⟨fun g hg => ?_, k (s'.join s) ?_ e3.joined e4⟩)
  · have hnl : ¬ (u.cells.length ≠ i.size) := fun h => h hl
    simp only [evOp, hT, evY_ok ht ha, evY_ok ht hx, if_neg hnl, e1]
  · rw [hwr g hg]
    exact ⟨fun ho => ho.2 hX, hah⟩
  · show rdH s'.h c 0 off u.cells.length = some u.cells
    rw [hlo, e2]
    unfold over
    simp [hlo]
end
end Go.Ab
/- Empty literals, clipped cuts, is a row nil; what appending leaves of older rows. -/
namespace Go.Ab
/-- A row clipped. -/
def clipA (v : AV) : AV := match v with
  | .slc g j off sz len _ _ => .slc g j (off + 0 * sz) sz (len - 0) (len - 0) true
  | v => v
theorem clipA_gs (v : AV) : (clipA v).gs = v.gs := by cases v <;> rfl
theorem Row.clip {h : Tr Grp} {sz : Nat} {v : AV} {cs : List (List AV)} (k : Row h sz v cs) : Row h sz (clipA v) cs := by
  cases v with
  | slc g j off sz' len lo ex =>
    have hrd := k.rd
    obtain ⟨rfl, h2, rfl, h4, h5, -⟩ := k
    refine ⟨rfl, h2, by simp, Nat.le_refl _, h5, [], ?_⟩
    simp only [Nat.zero_mul, Nat.add_zero, Nat.sub_zero, List.append_nil]
    exact hrd
  | nils => exact k
  | ro nl xs => exact k
  | _ => exact k.elim
section
variable {P : Program} {T : Tab} {K : FuncId → Option Bool} {nt : Nat} {ops : Array Oper} {rest : List Oper} {m : Sy} {s : St} {Q : Sy → St → Prop} {d ty : Nat} {pos : String} {af : Array Edge} {g : Option (Nat × Bool)}
theorem op_clip {tt e : TypeId} {x hi mx : Operand} {i ie : TI} {v vh vm : AV} {cs : List (List AV)} {sz : Nat} (hx : evY m x = some v) (hvh : evY m hi = some vh) (hhi : natA vh = some cs.length) (hvm : evY m mx = some vm) (hmx : natA vm = some cs.length) (hT : T tt = some i) (hs : i.sh = .slice e) (he : T e = some ie) (hz : ie.size = sz)
    (hr : Row s.h sz v cs) (hro : v.gs = [] → v = .nils) : ∀ t, Has t nt m → evOp T (.slice tt x none (some hi) (some mx)) t s = some (.val (clipA v), s) := by
  intro t ht
  obtain ⟨sh, size, bytes, zero, flat⟩ := i
  cases hs
  have ho : optNat t none = some none := rfl
  have hao : arrOk T tt v s = true := by unfold arrOk; simp only [hT]
  have : sliceA T tt v none (some cs.length) (some cs.length) = some (clipA v) := by
    cases v with
    | nils =>
      cases hr
      unfold sliceA
      simp [hT, he, clipA]
    | slc g j off sz' len lo' ex =>
      obtain ⟨rfl, k2, rfl, k4, -⟩ := hr
      have hn : ¬ (ie.size ≠ sz') := fun h => h hz
      have hcond : 0 ≤ cs.length ∧ cs.length ≤ cs.length ∧ cs.length ≤ lo' ∧ (some cs.length).isSome = true := ⟨by omega, by omega, k4, rfl⟩
      unfold sliceA
      simp only [hT, he, if_neg hn, Option.getD_none, Option.getD_some, if_pos hcond, clipA]
    | ro nl xs => cases hro rfl
    | _ => exact hr.elim
  simp only [evOp, evY_ok ht hx, optY_ok ht (optY_some hvh hhi), optY_ok ht (optY_some hvm hmx), ho, hao, if_true, this]
theorem op_isnil {tt : TypeId} {x y : Operand} {i : TI} {e : TypeId} {v : AV} {cs : List (List AV)} {sz yt : Nat} (hx : evY m x = some v) (hy : evY m y = some .nils) (hT : T tt = some i) (hs : i.sh = .slice e) (hr : Row s.h sz v cs) (hg : v.gs ≠ []) :
    ∀ t, Has t nt m → evOp T (.binOp .eql tt x y yt) t s = some (.val (.bool false), s) := by
  intro t ht
  obtain ⟨sh, size, bytes, zero, flat⟩ := i
  cases hs
  have : binA T .eql tt v .nils = some (.bool false) := by
    cases v with
    | slc g j off sz' len lo' ex => simp only [binA, hT]
    | nils => exact (hg rfl).elim
    | ro nl xs => exact (hg rfl).elim
    | _ => exact hr.elim
  simp only [evOp, evY_ok ht hx, evY_ok ht hy, this]
/-- An empty literal. -/
theorem w_lit0 {tt e : TypeId} {i ie : TI} (hg : guardY ops m g = some true) (hd : Nat.ble (d + 1) nt = true) (hT : T tt = some i) (hs : i.sh = .slice e) (he : T e = some ie)
    (hz : ie.zero.length = ie.size) (h0 : ie.size ≠ 0) (hok : s.Ok)
    (k : ∀ v s', Row s'.h ie.size v [] → Keep [] s s' → s'.ctr = s.ctr + 1 → v.gs = [s.ctr] → W P T K nt ops rest ((d, v) :: m) s' Q) : W P T K nt ops (⟨some d, .buildSlice tt 0 #[], ty, pos, af, g⟩ :: rest) m s Q := by
  obtain ⟨sh, size, bytes, zero, flat⟩ := i
  cases hs
  refine w_val hg hd (v := .slc s.ctr 0 0 ie.size 0 0 true) (s' := s.newG ⟨[⟨[], 0, none⟩]⟩) (fun t ht => ?_) (k _ _ ⟨rfl, h0, rfl, Nat.le_refl _, (fun c hc => by cases hc), [], ?_⟩ (newG_keep hok _).1 rfl rfl)
  · have hcond : ¬ (0 * ie.size > 2 ^ 24 ∨ ie.zero.length ≠ ie.size ∨ ie.size = 0) := by
      rintro (h | h | h)
      · omega
      · exact h hz
      · exact h0 h
    simp [evOp, hT, he, evParts, fillA, hz, h0]
  · rw [Nat.zero_mul]
    exact rd_new (s := s) (cs := []) hok
/-- Where a row ends in its group. -/
noncomputable def finA (h : Tr Grp) (v : AV) : Nat := match v with
  | .slc g j off sz len _ _ => match Tr.get h g with
    | some G => match G.vers[j]? with
      | some V => V.delta + off + len * sz
      | none => 0
    | none => 0
  | _ => 0
end
end Go.Ab
/- Appending leaves the rows of the same memory that end ahead of it. -/
namespace Go.Ab
theorem poke_len (U : Ver) (a n : Nat) : (U.poke a n).cells.length = U.cells.length := by simp [Ver.poke]
theorem poke_take (U : Ver) (a n k : Nat) (h : U.delta + k ≤ a) : (U.poke a n).cells.take k = U.cells.take k := by
  refine List.ext_getElem? fun i => ?_
  rw [List.getElem?_take, List.getElem?_take]
  split
  · rename_i hi
    simp only [Ver.poke, List.getElem?_mapIdx]
    cases U.cells[i]? with
    | none => rfl
    | some c => simp only [Option.map_some]; rw [if_neg (by omega)]
  · rfl
theorem over_take (l : List AV) (p : Nat) (c : List AV) (k : Nat) (h : k ≤ p) (hp : p ≤ l.length) : (over l p c).take k = l.take k := by
  unfold over
  rw [List.append_assoc, List.take_append_of_le_length (by rw [List.length_take]; omega), List.take_take, Nat.min_eq_left h]
theorem Row.ahead' {h h' : Tr Grp} {sz g j off sz' len lo : Nat} {ex : Bool} {cs : List (List AV)} {G G' : Grp} {V V' : Ver} (k : Row h sz (.slc g j off sz' len lo ex) cs) (hG : Tr.get h g = some G) (hV : G.vers[j]? = some V) (hG' : Tr.get h' g = some G') (hV' : G'.vers[j]? = some V') (hm : V'.mp = none) (hl : V'.cells.length = V.cells.length)
    (ht : V'.cells.take (off + len * sz') = V.cells.take (off + len * sz')) : Row h' sz (.slc g j off sz' len lo ex) cs := by
  have hrd := k.rd
  obtain ⟨rfl, h2, rfl, h4, h5, rest, h6⟩ := k
  have e1 : G.read j off (lo * sz') = some (cs.flatten ++ rest) := by unfold rdH at h6; rw [hG] at h6; exact h6
  have e2 : G.read j off (cs.length * sz') = some cs.flatten := by unfold rdH at hrd; rw [hG] at hrd; exact hrd
  obtain ⟨V1, q1, q2, q3, q4⟩ := Grp.read_eq e1
  obtain ⟨V2, r1, r2, r3, r4⟩ := Grp.read_eq e2
  rw [hV] at q1 r1
  cases q1
  cases r1
  have hm2 := Nat.mul_le_mul_right sz' h4
  refine ⟨rfl, h2, rfl, h4, h5, ((V'.cells.drop off).take (lo * sz')).drop (cs.length * sz'), ?_⟩
  unfold rdH
  rw [hG', ]
  simp only
  rw [Grp.read_mk hV' hm (by omega)]
  congr 1
  have e3 : ((V'.cells.drop off).take (lo * sz')).take (cs.length * sz') = cs.flatten := by
    rw [List.take_take, Nat.min_eq_left hm2, ← r4]
    have : (V'.cells.take (off + cs.length * sz')).drop off = (V.cells.take (off + cs.length * sz')).drop off := by rw [ht]
    rw [List.drop_take, List.drop_take, Nat.add_sub_cancel_left] at this
    exact this
  rw [← e3, List.take_append_drop]
theorem finA_same {h h' : Tr Grp} {r : AV} (k : ∀ g ∈ r.gs, Tr.get h' g = Tr.get h g) : finA h' r = finA h r := by
  cases r with
  | slc g j off sz len lo ex => simp only [finA, k g (List.mem_cons_self ..)]
  | _ => rfl
theorem Row.same {h h' : Tr Grp} {sz : Nat} {v : AV} {cs : List (List AV)} (k : Row h sz v cs) (e : ∀ g ∈ v.gs, Tr.get h' g = Tr.get h g) : Row h' sz v cs := by
  cases v with
  | slc g j off sz' len lo ex =>
    obtain ⟨h1, h2, h3, h4, h5, rest, h6⟩ := k
    refine ⟨h1, h2, h3, h4, h5, rest, ?_⟩
    unfold rdH at h6 ⊢
    rw [e g (List.mem_cons_self ..)]
    exact h6
  | nils => exact k
  | ro nl xs => exact k
  | _ => exact k.elim
theorem newG_same {s : St} (hok : s.Ok) (G : Grp) {sz : Nat} {r : AV} {rs : List (List AV)} (k : Row s.h sz r rs) : ∀ g ∈ r.gs, Tr.get (s.newG G).h g = Tr.get s.h g := by
  intro g hg
  have := k.lt hok g hg
  simp only [St.newG, Tr.get_set]
  rw [if_neg (by omega)]
theorem Row.ver {h : Tr Grp} {sz g j off sz' len lo : Nat} {ex : Bool} {cs : List (List AV)} (k : Row h sz (.slc g j off sz' len lo ex) cs) : ∃ G V, Tr.get h g = some G ∧ G.vers[j]? = some V ∧ V.mp = none ∧ off + len * sz' ≤ V.cells.length := by
  have hs : sz' = sz := k.1
  subst hs
  have hrd := k.rd
  obtain ⟨G, hG⟩ := rdH_has hrd
  unfold rdH at hrd
  rw [hG] at hrd
  obtain ⟨V, h1, h2, h3, -⟩ := Grp.read_eq hrd
  exact ⟨G, V, hG, h1, h2, h3⟩
theorem finA_eq {h : Tr Grp} {g j off sz len lo : Nat} {ex : Bool} {G : Grp} {V : Ver} (hG : Tr.get h g = some G) (hV : G.vers[j]? = some V) : finA h (.slc g j off sz len lo ex) = V.delta + off + len * sz := by
  simp only [finA, hG, hV]
/-- Rows of a group whose versions are turned behind a place. -/
theorem set_keep {s : St} {g a0 : Nat} {G G' : Grp} (hG : Tr.get s.h g = some G) (hv : ∀ (j : Nat) (V : Ver), G.vers[j]? = some V → ∃ V', G'.vers[j]? = some V' ∧ V'.mp = V.mp ∧ V'.delta = V.delta ∧ V'.cells.length = V.cells.length ∧ ∀ k, V.delta + k ≤ a0 → k ≤ V.cells.length → V'.cells.take k = V.cells.take k)
    {sz' : Nat} {r : AV} {rs : List (List AV)} (k : Row s.h sz' r rs) (hf : ∀ x ∈ r.gs, x = g → finA s.h r ≤ a0) : Row (s.setG g G').h sz' r rs ∧ finA (s.setG g G').h r = finA s.h r := by
  by_cases hin : g ∈ r.gs
  · cases r with
    | slc g2 j off sz2 len lo ex =>
      have e : g = g2 := List.mem_singleton.1 hin
      subst e
      obtain ⟨G1, V, hG1, hV, hm, hl⟩ := k.ver
      rw [hG] at hG1
      cases hG1
      obtain ⟨V', q1, q2, q3, q4, q5⟩ := hv j V hV
      have hfin := hf g hin rfl
      rw [finA_eq hG hV] at hfin
      have hG' : Tr.get (s.setG g G').h g = some G' := by simp only [St.setG, Tr.get_set, if_true]
      refine ⟨k.ahead' hG hV hG' q1 (q2.trans hm) q4 (q5 _ (by omega) hl), ?_⟩
      rw [finA_eq hG' q1, finA_eq hG hV, q3]
    | nils => cases hin
    | ro nl xs => cases hin
    | _ => exact k.elim
  · have hs : ∀ x ∈ r.gs, Tr.get (s.setG g G').h x = Tr.get s.h x := by
      intro x hx
      simp only [St.setG, Tr.get_set]
      rw [if_neg (fun e => hin (by rw [← e]; exact hx))]
    exact ⟨k.same hs, finA_same hs⟩
/-- What appending does to the end of the row, and to other rows. -/
theorem app_keep {s s' : St} {sz bytes : Nat} {a v : AV} {cs ns : List (List AV)} (hok : s.Ok) (hr : Row s.h sz a cs) (hro : a.gs = [] → a = .nils) (h : s.app sz bytes a ns.length ns.flatten = some (v, s')) (hnl : ns.flatten.length = ns.length * sz) :
    (v.gs = a.gs → a.gs ≠ [] → finA s'.h v = finA s.h a + ns.length * sz) ∧ ∀ {sz' : Nat} {r : AV} {rs : List (List AV)}, Row s.h sz' r rs → (∀ g ∈ r.gs, g ∈ a.gs → finA s.h r ≤ finA s.h a) → Row s'.h sz' r rs ∧ finA s'.h r = finA s.h r := by
  unfold St.app at h
  split at h
  · cases h
  · cases a with
    | nils =>
      simp only at h
      split at h
      · cases h
        exact ⟨fun _ k => (k rfl).elim, fun hr' _ => ⟨hr', rfl⟩⟩
      · split at h
        · cases h
          exact ⟨fun _ k => (k rfl).elim, fun hr' _ => ⟨hr'.same (newG_same hok _ hr'), finA_same (newG_same hok _ hr')⟩⟩
        · cases h
    | ro nl xs => cases hro rfl
    | slc g j off sz' len lo ex =>
      obtain ⟨G, V, hG, hV, hm, hl⟩ := hr.ver
      have hsz := hr.1
      subst hsz
      simp only [ne_eq, not_true_eq_false, if_false] at h
      split at h
      · split at h
        · rename_i h0
          cases h
          exact ⟨fun _ _ => by rw [h0]; simp, fun hr' _ => ⟨hr', rfl⟩⟩
        · cases hw : s.write g j (off + len * sz') ns.flatten with
          | none => rw [hw] at h; cases h
          | some s1 =>
            rw [hw] at h
            cases h
            have hw' : G.write j (off + len * sz') ns.flatten = if V.mp.isNone = true ∧ off + len * sz' + ns.flatten.length ≤ V.cells.length then some ⟨G.vers.mapIdx fun k U => if k = j then { V with cells := over V.cells (off + len * sz') ns.flatten } else U.poke (V.delta + (off + len * sz')) ns.flatten.length⟩ else none := by
              unfold Grp.write; rw [hV]
            unfold St.write at hw
            split at hw
            · simp only [St.get, hG, hw'] at hw
              by_cases hc : V.mp.isNone = true ∧ off + len * sz' + ns.flatten.length ≤ V.cells.length
              · rw [if_pos hc] at hw
                simp only [Option.some.injEq] at hw
                subst hw
                refine ⟨fun _ _ => ?_, fun {sz2} {r} {rs} hr' hf => ?_⟩
                · rw [finA_eq hG hV, finA_eq (V := { V with cells := over V.cells (off + len * sz') ns.flatten }) (by simp only [St.setG, Tr.get_set, if_true]; rfl) (by simp [hV])]
                  simp only
                  rw [Nat.add_mul]; omega
                · refine set_keep (a0 := V.delta + (off + len * sz')) hG (fun j2 V2 h2 => ?_) hr' (fun x hx e => ?_)
                  · by_cases e : j2 = j
                    · subst e
                      rw [hV] at h2
                      cases h2
                      refine ⟨{ V with cells := over V.cells (off + len * sz') ns.flatten }, by simp [hV], rfl, rfl, over_len hc.2, fun k k1 _ => ?_⟩
                      exact over_take _ _ _ _ (by omega) hl
                    · refine ⟨V2.poke (V.delta + (off + len * sz')) ns.flatten.length, by simp [h2, e], rfl, rfl, poke_len _ _ _, fun k k1 _ => poke_take _ _ _ _ k1⟩
                  · subst e
                    have := hf x hx (List.mem_cons_self ..)
                    rw [finA_eq hG hV] at this
                    omega
              · rw [if_neg hc] at hw
                cases hw
            · cases hw
      · split at h
        · simp only [St.get, hG] at h
          cases hrd : G.read j off (len * sz') with
          | none => rw [hrd] at h; cases h
          | some old =>
            rw [hrd] at h
            simp only at h
            split at h
            · cases h
              refine ⟨fun e _ => ?_, fun hr' _ => ⟨hr'.same (newG_same hok _ hr'), finA_same (newG_same hok _ hr')⟩⟩
              have e2 : s.ctr = g := by have := e; simp only [AV.gs, List.cons.injEq, and_true] at this; exact this
              rw [← e2, hok _ (Nat.le_refl _)] at hG
              cases hG
            · simp only [hV] at h
              cases h
              refine ⟨fun _ _ => ?_, fun {sz2} {r} {rs} hr' hf => ?_⟩
              · rw [finA_eq hG hV, finA_eq (V := ⟨old ++ ns.flatten, V.delta + off, none⟩) (by simp only [St.setG, Tr.get_set, if_true]; rfl) (by simp)]
                simp only
                rw [Nat.add_mul]; omega
              · refine set_keep (a0 := V.delta + off + len * sz') hG (fun j2 V2 h2 => ?_) hr' (fun x hx e => ?_)
                · have hlt := (List.getElem?_eq_some_iff.1 h2).1
                  refine ⟨V2.poke (V.delta + off + len * sz') (ns.length * sz'), ?_, rfl, rfl, poke_len _ _ _, fun k k1 _ => poke_take _ _ _ _ k1⟩
                  simp only
                  rw [List.getElem?_append_left (by simpa using hlt), List.getElem?_map, h2]; rfl
                · subst e
                  have := hf x hx (List.mem_cons_self ..)
                  rw [finA_eq hG hV] at this
                  exact this
        · cases h
    | _ => exact hr.elim
end Go.Ab
/- Maps with keys that are written in the text. -/
namespace Go.Ab
def MapAt (h : Tr Grp) (g : Nat) (es : List (AV × AV)) : Prop := Tr.get h g = some ⟨[⟨[], 0, some es⟩]⟩
theorem MapAt.keep {X : List Nat} {s s' : St} {g : Nat} {es : List (AV × AV)} (k : MapAt s.h g es) (h : Keep X s s') (hg : g ∉ X) : MapAt s'.h g es := h.keep g hg _ k
theorem MapAt.entries {s : St} {g : Nat} {es : List (AV × AV)} (k : MapAt s.h g es) : s.entries (.mp g) = some es := by
  have k' : Tr.get s.h g = some ⟨[⟨[], 0, some es⟩]⟩ := k
  simp only [St.entries, St.get, k']
theorem setG_keep {s : St} (hok : s.Ok) {g : Nat} {G0 : Grp} (hG : Tr.get s.h g = some G0) (G : Grp) : Keep [g] s (s.setG g G) := by
  refine ⟨hok, fun g' hg' => ?_, Nat.le_refl _, fun g' hg' G' hG' => ?_, fun g' hg' => ?_⟩
  · simp only [St.setG, Tr.get_set] at hg' ⊢
    split
    · rename_i e; subst e; rw [hok _ hg'] at hG; cases hG
    · exact hok g' hg'
  · simp only [St.setG, Tr.get_set]
    rw [if_neg (fun e => hg' (by rw [e]; exact List.mem_cons_self ..)), hG']
  · rcases List.mem_cons.1 hg' with rfl | hg'
    · exact .inr (.inl (List.mem_cons_self ..))
    · exact .inl hg'
def lookV (ie : TI) (es : List (AV × AV)) (k : AV) : Option AV := match mpFind k es 0 with
  | some (some (_, v)) => some v
  | some none => ofCells ie.sh.isAgg ie.zero
  | none => none
section
variable {P : Program} {T : Tab} {K : FuncId → Option Bool} {nt : Nat} {ops : Array Oper} {rest : List Oper} {m : Sy} {s : St} {Q : Sy → St → Prop} {d ty : Nat} {pos : String} {af : Array Edge} {g : Option (Nat × Bool)}
theorem w_makeMap {tt kt et : TypeId} {i : TI} (hg : guardY ops m g = some true) (hd : Nat.ble (d + 1) nt = true) (hT : T tt = some i) (hs : i.sh = .map kt et) (hok : s.Ok)
    (k : ∀ s', MapAt s'.h s.ctr [] → Keep [] s s' → s'.ctr = s.ctr + 1 → W P T K nt ops rest ((d, .mp s.ctr) :: m) s' Q) : W P T K nt ops (⟨some d, .makeMap tt none, ty, pos, af, g⟩ :: rest) m s Q := by
  obtain ⟨sh, size, bytes, zero, flat⟩ := i
  cases hs
  exact w_val hg hd (s' := s.newG ⟨[⟨[], 0, some []⟩]⟩) (fun t _ => by simp only [evOp, hT]) (k _ (newG_keep hok _).2.1 (newG_keep hok _).1 rfl)
theorem w_insert {tt kt et : TypeId} {i : TI} {x y z : Operand} {c : Nat} {es : List (AV × AV)} {vk vx : AV} (hg : guardY ops m g = some true) (hT : T tt = some i) (hs : i.sh = .map kt et) (hx : evY m x = some (.mp c)) (hy : evY m y = some vk) (hz : evY m z = some vx)
    (hko : keyOk T kt vk = true) (hf : mpFind vk es 0 = some none) (hok : s.Ok) (hm : MapAt s.h c es)
    (k : ∀ s', MapAt s'.h c (es ++ [(vk, vx)]) → Keep [c] s s' → s'.ctr = s.ctr → W P T K nt ops rest m s' Q) : W P T K nt ops (⟨none, .insert tt x y z, ty, pos, af, g⟩ :: rest) m s Q := by
  obtain ⟨sh, size, bytes, zero, flat⟩ := i
  cases hs
  refine w_eff hg (s' := s.setG c ⟨[⟨[], 0, some (es ++ [(vk, vx)])⟩]⟩) (fun t ht => ?_) (k _ ?_ (setG_keep hok hm _) rfl)
  · simp only [evOp, hT, evY_ok ht hx, evY_ok ht hy, evY_ok ht hz, hm.entries, hko, hf]
  · unfold MapAt
    simp only [St.setG, Tr.get_set, if_true]
theorem op_lookup {tt kt et : TypeId} {i ie : TI} {x y : Operand} {vm vk v : AV} {es : List (AV × AV)} (hx : evY m x = some vm) (hy : evY m y = some vk) (hT : T tt = some i) (hs : i.sh = .map kt et) (he : T et = some ie) (hes : s.entries vm = some es) (hko : keyOk T kt vk = true) (hv : lookV ie es vk = some v) :
    ∀ t, Has t nt m → evOp T (.lookup tt x y false) t s = some (.val v, s) := by
  intro t ht
  obtain ⟨sh, size, bytes, zero, flat⟩ := i
  cases hs
  unfold lookV at hv
  cases hf : mpFind vk es 0 with
  | none => rw [hf] at hv; cases hv
  | some o =>
    rw [hf] at hv
    cases o with
    | none =>
      simp only at hv
      simp only [evOp, hT, he, evY_ok ht hx, evY_ok ht hy, hes, hko, hf, hv]
      simp
    | some p =>
      obtain ⟨n, u⟩ := p
      cases hv
      simp only [evOp, hT, he, evY_ok ht hx, evY_ok ht hy, hes, hko, hf]
      simp
end
end Go.Ab
/- Drawn regions that write what they have read before: reads and writes have an order. -/
namespace Go.Ab
section
variable {P : Program} {T : Tab} {K : FuncId → Option Bool} {nt : Nat} {ops : Array Oper}
/-- What an entry of the record must show: j: the operation's place; A: the early variables, by place and group. -/
def EntOk2 (B : Array Nat) (D : Nat → Prop) (RL : List Nat) (A : List (Nat × Nat)) (j : Nat) (e : Entry) : Prop :=
  (∀ g, e.rd = some g → D g ∧ j ∈ RL) ∧ (∀ g ∈ e.wr, (¬ D g ∨ ∀ i ∈ RL, aheadB B i j = true ∨ aheadB B j i = true) ∧ ∀ p ∈ A, p.2 = g → aheadB B p.1 j = true) ∧ ∀ g, e.al = some g → (j, g) ∈ A
/-- Operations of a drawn region from the place j on; hs: what was laid early. -/
def WF (P : Program) (T : Tab) (K : FuncId → Option Bool) (nt : Nat) (ops : Array Oper) (D : Nat → Prop) (RL : List Nat) (A : List (Nat × Nat)) (j : Nat) (l : List Oper) (hs : List (Option (Nat × List AV))) (m : Sy) (s : St) (Q : Sy → St → Prop) : Prop :=
  ∃ N m' s', Q m' s' ∧ ∀ n, N ≤ n → ∀ t, Has t nt m → ∃ t' es, evLog T (evCallK P T K n) ops l hs t s = some (t', s', es) ∧ Has t' nt m' ∧ ∀ (i : Nat) (e : Entry), es[i]? = some e → EntOk2 (Region.before ops) D RL A (j + i) e
variable {D : Nat → Prop} {RL : List Nat} {A : List (Nat × Nat)} {j : Nat} {rest : List Oper} {hs : List (Option (Nat × List AV))} {m : Sy} {s s0 : St} {Q : Sy → St → Prop} {R : Ex → Sy → St → Prop} {o : Oper}
theorem wf_nil (h : Q m s) : WF P T K nt ops D RL A j [] [] m s Q := ⟨0, m, s, h, fun _ _ t ht => ⟨t, [], rfl, ht, fun i e h => by simp at h⟩⟩
theorem wf_cons (hr : ∀ t, Has t nt m → ∀ g, readsA t o.op = some g → D g ∧ j ∈ RL)
    (h : W1 P T K nt ops o m s.bare fun m1 s1 => (∀ g ∈ s1.wr, (¬ D g ∨ ∀ i ∈ RL, aheadB (Region.before ops) i j = true ∨ aheadB (Region.before ops) j i = true) ∧ ∀ p ∈ A, p.2 = g → aheadB (Region.before ops) p.1 j = true) ∧ WF P T K nt ops D RL A (j + 1) rest hs m1 (s1.join s) Q) : WF P T K nt ops D RL A j (o :: rest) (none :: hs) m s Q := by
  obtain ⟨N, m1, s1, ⟨hw, N', m', s', hq, h'⟩, hn⟩ := h
  refine ⟨max N N', m', s', hq, fun n hn' t ht => ?_⟩
  obtain ⟨t1, e1, ht1⟩ := hn n (by omega) t ht
  obtain ⟨t2, es, e2, ht2, he⟩ := h' n (by omega) t1 ht1
  refine ⟨t2, ⟨if guardA ops t o.guard = some true then readsA t o.op else none, s1.wr, none⟩ :: es, ?_, ht2, ?_⟩
  · rw [evLog, show ({ s with wr := [] } : St) = s.bare from rfl, e1]
    simp only
    rw [show ({ s1 with wr := s1.wr ++ s.wr } : St) = s1.join s from rfl, e2]
  · intro i e hi
    cases i with
    | zero =>
      simp only [List.getElem?_cons_zero, Option.some.injEq] at hi
      subst hi
      refine ⟨fun g hg => ?_, hw, fun g hg => by cases hg⟩
      simp only at hg
      split at hg
      · exact hr t ht g hg
      · cases hg
    | succ i =>
      have := he i e (by simpa using hi)
      rw [show j + (i + 1) = j + 1 + i by omega]
      exact this
/-- A variable that was laid early. -/
theorem wf_alloc {d ty : Nat} {pos : String} {af : Array Edge} {e : TypeId} {c : Nat} {cs : List AV} (hd : Nat.ble (d + 1) nt = true) (hA : (j, c) ∈ A) (k : WF P T K nt ops D RL A (j + 1) rest hs ((d, .ptr c 0 0) :: m) s Q) :
    WF P T K nt ops D RL A j (⟨some d, .alloc e, ty, pos, af, none⟩ :: rest) (some (c, cs) :: hs) m s Q := by
  obtain ⟨N, m', s', hq, hn⟩ := k
  refine ⟨N, m', s', hq, fun n hn' t ht => ?_⟩
  obtain ⟨t2, es, e2, ht2, he⟩ := hn n hn' (t.set d (.ptr c 0 0)) (ht.set _ (Nat.le_of_ble_eq_true hd))
  refine ⟨t2, ⟨none, [], some c⟩ :: es, ?_, ht2, ?_⟩
  · rw [evLog]
    have : earlyVal T ops ⟨some d, .alloc e, ty, pos, af, none⟩ t c cs = some (.ptr c 0 0) := rfl
    rw [this]
    simp only
    rw [show putA t (some d) (.ptr c 0 0) = t.set d (.ptr c 0 0) from rfl, e2]
  · intro i x hi
    cases i with
    | zero =>
      simp only [List.getElem?_cons_zero, Option.some.injEq] at hi
      subst hi
      exact ⟨fun g hg => by simp at hg, fun g hg => by simp at hg, fun g hg => by cases hg; exact hA⟩
    | succ i =>
      have := he i x (by simpa using hi)
      rw [show j + (i + 1) = j + 1 + i by omega]
      exact this
theorem logOk_ent2 {B : Array Nat} {l : List Entry} (h : ∀ (i : Nat) (e : Entry), l[i]? = some e → EntOk2 B D RL A i e) : logOk B l = true := by
  unfold logOk
  rw [List.all_eq_true]
  intro i _
  cases hi : l[i]? with
  | none => rfl
  | some x =>
    obtain ⟨h1, h2, h3⟩ := h i x hi
    simp only [Bool.and_eq_true]
    constructor
    · cases hrd : x.rd with
      | none => rfl
      | some g =>
        simp only
        rw [List.all_eq_true]
        intro e _
        cases he : l[e]? with
        | none => simp
        | some y =>
          obtain ⟨-, k2, -⟩ := h e y he
          cases hc : y.wr.contains g with
          | false => simp only; rw [hc]; simp
          | true =>
            rcases (k2 g (by simpa using hc)).1 with h4 | h4
            · exact absurd (h1 g hrd).1 h4
            · rcases h4 i (h1 g hrd).2 with h5 | h5
              · rw [h5]; simp
              · rw [h5]; simp
    · cases hal : x.al with
      | none => rfl
      | some g =>
        simp only
        rw [List.all_eq_true]
        intro e _
        cases he : l[e]? with
        | none => simp
        | some y =>
          obtain ⟨-, k2, -⟩ := h e y he
          cases hc : y.wr.contains g with
          | false => simp only [hc, Bool.not_false, Bool.or_true]
          | true => rw [(k2 g (by simpa using hc)).2 (i, g) (h3 g hal) rfl]; rfl
theorem wc_order {id : Nat} (hd : drawOk false ops = true) (hh : hoist false T ops.toList [] s = some (s0, hs)) (h : WF P T K nt ops D RL A 0 ops.toList hs m s0 (R .normal)) : WC P T K nt (.region id ops true) m s R := by
  obtain ⟨N, m', s', hq, hn⟩ := h
  refine ⟨N + 1, .normal, m', s', hq, fun n k hn1 hk t ht => ?_⟩
  obtain ⟨t', es, e1, ht', he⟩ := hn n (by omega) t ht
  obtain ⟨k, rfl⟩ : ∃ j, k = j + 1 := ⟨k - 1, by omega⟩
  refine ⟨t', ?_, ht'⟩
  have : evDraw T (evCallK P T K n) false [] ops t s = some (t', s') := by
    unfold evDraw
    rw [hh]
    simp only [e1]
    rw [if_pos (logOk_ent2 (D := D) (RL := RL) (A := A) fun i e hi => by have := he i e hi; rwa [Nat.zero_add] at this)]
  simp only [evCode, hd, if_true, this]
/- The rules: what is read is old (Old s0 X), what is written is new or one of the early ones. -/
variable {X : List Nat} {d ty : Nat} {pos : String} {af : Array Edge} {g : Option (Nat × Bool)} {op : Op} {v : AV}
theorem wf_val (hr : ∀ t, readsA t op = none) (hg : guardY ops m g = some true) (hd : Nat.ble (d + 1) nt = true) (h : ∀ t, Has t nt m → evOp T op t s.bare = some (.val v, s.bare)) (k : WF P T K nt ops D RL A (j + 1) rest hs ((d, v) :: m) s Q) :
    WF P T K nt ops D RL A j (⟨some d, op, ty, pos, af, g⟩ :: rest) (none :: hs) m s Q := wf_cons (fun t _ g hg => by rw [hr t] at hg; cases hg) (w1_val hg hd h ⟨fun g hg => (by cases hg), k⟩)
theorem wf_load {tt : TypeId} {a : Operand} {i : TI} {p : AV} {cs : List AV} (hK : Keep [] s0 s) (hx : evY m a = some p) (hT : T tt = some i) (hp : Pt s0.h p cs) (hc : loadC i cs = some v) (hX : ∀ g ∈ p.gs, g ∉ X) (hj : j ∈ RL) (hg : guardY ops m g = some true) (hd : Nat.ble (d + 1) nt = true)
    (k : WF P T K nt ops (Old s0 X) RL A (j + 1) rest hs ((d, v) :: m) s Q) : WF P T K nt ops (Old s0 X) RL A j (⟨some d, .load tt a, ty, pos, af, g⟩ :: rest) (none :: hs) m s Q :=
  have hp' : Pt s.h p cs := hp.keep hK (by intro g _ h; cases h)
  wf_cons (fun t ht g hg => by
    have := rd_load ht hx g hg
    exact ⟨⟨hp.lt hK.ok0 g this, hX g this⟩, hj⟩) (w1_val (s' := s.bare) hg hd (op_load (s := s.bare) hx hT (show Pt s.bare.h p cs from hp') hc) ⟨fun g hg => (by cases hg), k⟩)
theorem wf_call {f : FuncId} {args : List AV} {R : AV → St → Prop} (hK : Keep [] s0 s) (hA : ∀ p ∈ A, p.2 < s0.ctr) (hg : guardY ops m g = some true) (hd : Nat.ble (d + 1) nt = true) (hr : ∀ t, readsA t op = none) (h : ∀ t, Has t nt m → evOp T op t s.bare = some (.call f args, s.bare)) (hc : CallS P T K f args s.bare R)
    (hw : ∀ v s', R v s' → Keep [] s.bare s') (k : ∀ v s', R v s' → Keep [] s (s'.join s) → WF P T K nt ops (Old s0 X) RL A (j + 1) rest hs ((d, v) :: m) (s'.join s) Q) : WF P T K nt ops (Old s0 X) RL A j (⟨some d, op, ty, pos, af, g⟩ :: rest) (none :: hs) m s Q :=
  wf_cons (fun t _ g hg => by rw [hr t] at hg; cases hg) (w1_call hg hd h hc fun v s' hr' => by
    have hk := hw v s' hr'
    have key : ∀ g ∈ s'.wr, s0.ctr ≤ g := by
      intro g hg
      rcases hk.wr g hg with h1 | h1 | h1
      · cases h1
      · cases h1
      · exact Nat.le_trans hK.ctr h1
    refine ⟨fun g hg => ⟨.inl fun ho => ?_, fun p hp e => ?_⟩, k v s' hr' hk.joined⟩
    · have := key g hg
      have := ho.1
      omega
    · have := key g hg
      have := hA p hp
      omega)
theorem wf_store_fld {tt : TypeId} {a x : Operand} {i : TI} {c : Nat} {o : Nat} {u : AV} {old : List AV} (hok : s.Ok) (hord : ∀ i ∈ RL, aheadB (Region.before ops) i j = true ∨ aheadB (Region.before ops) j i = true) (hah : ∀ p ∈ A, p.2 = c → aheadB (Region.before ops) p.1 j = true) (hg : guardY ops m g = some true) (ha : evY m a = some (fldA (.ptr c 0 0) o)) (hx : evY m x = some u) (hT : T tt = some i) (hl : u.cells.length = i.size)
    (hz : u.cells.all AV.leaf = true) (hp : Pt s.h (.ptr c 0 0) old) (hlo : o + u.cells.length ≤ old.length)
    (k : ∀ s', Pt s'.h (.ptr c 0 0) (over old o u.cells) → Keep [c] s s' → s'.ctr = s.ctr → WF P T K nt ops (Old s0 X) RL A (j + 1) rest hs m s' Q) : WF P T K nt ops (Old s0 X) RL A j (⟨none, .store tt a x, ty, pos, af, g⟩ :: rest) (none :: hs) m s Q := by
  have hokb : s.bare.Ok := hok
  have hpb : rdH s.bare.h c 0 0 old.length = some old := hp
  obtain ⟨s', e1, e2, e3, e4⟩ := write_over hokb hpb (k := o) (c := u.cells) hlo hz
  have hwr : ∀ g ∈ s'.wr, g = c := by
    unfold St.write at e1
    simp only [hz, if_true] at e1
    split at e1
    · cases e1
    · split at e1
      · cases e1
      · cases e1
        intro g hg
        exact List.mem_singleton.1 hg
  refine wf_cons (fun t _ g hg => by cases hg) (w1_skip (s' := s') hg rfl (fun t ht => ?_) ⟨fun g hg => ?_, k (s'.join s) ?_ e3.joined e4⟩)
  · have hnl : ¬ (u.cells.length ≠ i.size) := fun h => h hl
    have ha' := evY_ok ht ha
    simp only [fldA] at ha'
    simp only [evOp, hT, ha', evY_ok ht hx, if_neg hnl, e1]
  · rw [hwr g hg]
    exact ⟨.inr hord, hah⟩
  · show rdH s'.h c 0 0 (over old o u.cells).length = some _
    rw [over_len hlo]
    exact e2
end
end Go.Ab
/- cap of nothing, append of zeros. -/
namespace Go.Ab
section
variable {P : Program} {T : Tab} {K : FuncId → Option Bool} {nt : Nat} {ops : Array Oper} {rest : List Oper} {m : Sy} {s : St} {Q : Sy → St → Prop} {d ty : Nat} {pos : String} {af : Array Edge} {g : Option (Nat × Bool)}
theorem op_cap_nil {tt : TypeId} {x : Operand} {args : Array Operand} {tys : Array TypeId} {i : TI} {e : TypeId} (ha : args.toList = [x]) (hb : tys.toList = [tt]) (hx : evY m x = some .nils) (hT : T tt = some i) (hs : i.sh = .slice e) :
    ∀ t, Has t nt m → evOp T (.call ⟨.builtin .cap, args, tys⟩) t s = some (.val (.int .i64 0), s) := by
  intro t ht
  obtain ⟨sh, size, bytes, zero, flat⟩ := i
  cases hs
  have h1 : evsY m [x] = some [.nils] := by simp only [evsY, hx]
  simp only [evOp, ha, hb, evsY_ok ht h1, callA, hT]
/-- append(nothing, make(.., n)...). -/
theorem w_appz {tt t' e : TypeId} {x y : Operand} {args : Array Operand} {tys : Array TypeId} {i i' ie : TI} {k' : IntKind} {n : Nat} (hg : guardY ops m g = some true) (hd : Nat.ble (d + 1) nt = true) (h1 : args.toList = [x, y]) (h2 : tys.toList = [tt, t']) (hne : tt ≠ t')
    (hx : evY m x = some .nils) (hy : evY m y = some (.int .i64 n)) (hT : T tt = some i) (hs : i.sh = .slice e) (hT' : T t' = some i') (hs' : i'.sh = .num k') (he : T e = some ie) (h0 : 0 < n) (hb : n * ie.bytes ≤ maxBytes) (hb' : n ≤ 140737488355328) (hz : ie.zero.length = ie.size) (hsz : ie.size ≠ 0) (hl : ie.zero.all AV.leaf = true) (hok : s.Ok)
    (k : ∀ v s', Row s'.h ie.size v (List.replicate n ie.zero) → Keep [] s s' → s'.ctr = s.ctr + 1 → v.gs = [s.ctr] → W P T K nt ops rest ((d, v) :: m) s' Q) : W P T K nt ops (⟨some d, .call ⟨.builtin .append, args, tys⟩, ty, pos, af, g⟩ :: rest) m s Q := by
  obtain ⟨sh, size, bytes, zero, flat⟩ := i
  obtain ⟨sh', size', bytes', zero', flat'⟩ := i'
  cases hs
  cases hs'
  refine w_val hg hd (v := .slc s.ctr 0 0 ie.size n n false) (s' := s.newG ⟨[⟨(List.replicate n ie.zero).flatten, 0, none⟩]⟩) (fun t ht => ?_) (k _ _ ⟨rfl, hsz, by simp, Nat.le_refl _, ?_, [], ?_⟩ (newG_keep hok _).1 rfl rfl)
  · have hev : evsY m [x, y] = some [.nils, .int .i64 n] := by simp only [evsY, hx, hy]
    have hcond : 0 < (n : Int) ∧ (n : Int).toNat * ie.bytes ≤ maxBytes ∧ (n : Int) ≤ 140737488355328 ∧ ie.zero.length = ie.size ∧ ie.size ≠ 0 ∧ ie.zero.all AV.leaf = true := ⟨by omega, by simpa using hb, by omega, hz, hsz, hl⟩
    simp only [evOp, h1, h2, evsY_ok ht hev, callA, if_pos hne, appZeros, hT, hT', he]
    rw [if_pos hcond]
    rfl
  · intro c hc
    rw [List.eq_of_mem_replicate hc]
    exact ⟨hz, hl⟩
  · have : (List.replicate n ie.zero).flatten.length = n * ie.size := by
      rw [flat_len (sz := ie.size) fun c hc => by rw [List.eq_of_mem_replicate hc]; exact hz]
      simp
    rw [List.append_nil, ← this]
    exact rd_new hok
end
end Go.Ab
/- Literals of any length, append in drawn regions, and drawn regions in which literals are laid early (their cells foretold). -/
namespace Go.Ab
section
variable {P : Program} {T : Tab} {K : FuncId → Option Bool} {nt : Nat} {ops : Array Oper} {rest : List Oper} {m : Sy} {s s0 : St} {Q : Sy → St → Prop} {d ty : Nat} {pos : String} {af : Array Edge} {g : Option (Nat × Bool)} {op : Op} {v : AV} {X : List Nat}
/-- What a literal of n elements is. -/
theorem op_lit {tt e : TypeId} {n : Nat} {parts : Array (Nat × Operand)} {i ie : TI} {ps : List (Nat × AV)} {c : List AV} (hT : T tt = some i) (hs : i.sh = .slice e) (he : T e = some ie) (hp : evPartsY m parts.toList = some ps) (hz : ie.zero.length = ie.size) (h0 : ie.size ≠ 0) (h24 : n * ie.size ≤ 2 ^ 24)
    (hf : fillA (fun n => some (n * ie.size, ie.size)) (List.replicate n ie.zero).flatten ps = some c) (hl : c.all AV.leaf = true) : ∀ t, Has t nt m → evOp T (.buildSlice tt n parts) t s = some (.val (.slc s.ctr 0 0 ie.size n n true), s.newG ⟨[⟨c, 0, none⟩]⟩) := by
  intro t ht
  obtain ⟨sh, size, bytes, zero, flat⟩ := i
  cases hs
  have hcond : ¬ (n * ie.size > 2 ^ 24 ∨ ie.zero.length ≠ ie.size ∨ ie.size = 0) := by
    rintro (h | h | h)
    · omega
    · exact h hz
    · exact h0 h
  simp only [evOp, hT, he, evPartsY_ok ht hp, if_neg hcond, hf, hl, if_true]
theorem lit_row {n sz : Nat} {cs : List (List AV)} {c : List AV} (hok : s.Ok) (hc : c = cs.flatten) (hcs : ∀ x ∈ cs, x.length = sz ∧ x.all AV.leaf = true) (hn : n = cs.length) (h0 : sz ≠ 0) : Row (s.newG ⟨[⟨c, 0, none⟩]⟩).h sz (.slc s.ctr 0 0 sz n n true) cs := by
  subst hc hn
  refine ⟨rfl, h0, rfl, Nat.le_refl _, hcs, [], ?_⟩
  rw [List.append_nil, ← flat_len fun c hc => (hcs c hc).1]
  exact rd_new hok
theorem w_lit {tt e : TypeId} {n : Nat} {parts : Array (Nat × Operand)} {i ie : TI} {ps : List (Nat × AV)} {c : List AV} (cs : List (List AV)) (hg : guardY ops m g = some true) (hd : Nat.ble (d + 1) nt = true) (hT : T tt = some i) (hs : i.sh = .slice e) (he : T e = some ie) (hp : evPartsY m parts.toList = some ps) (hz : ie.zero.length = ie.size) (h0 : ie.size ≠ 0) (h24 : n * ie.size ≤ 2 ^ 24)
    (hf : fillA (fun n => some (n * ie.size, ie.size)) (List.replicate n ie.zero).flatten ps = some c) (hl : c.all AV.leaf = true) (hc : c = cs.flatten) (hcs : ∀ x ∈ cs, x.length = ie.size ∧ x.all AV.leaf = true) (hn : n = cs.length) (hok : s.Ok)
    (k : ∀ v s', Row s'.h ie.size v cs → Keep [] s s' → s'.ctr = s.ctr + 1 → v.gs = [s.ctr] → W P T K nt ops rest ((d, v) :: m) s' Q) : W P T K nt ops (⟨some d, .buildSlice tt n parts, ty, pos, af, g⟩ :: rest) m s Q :=
  w_val hg hd (op_lit hT hs he hp hz h0 h24 hf hl) (k _ _ (lit_row hok hc hcs hn h0) (newG_keep hok _).1 rfl rfl)
theorem wo_lit {tt e : TypeId} {n : Nat} {parts : Array (Nat × Operand)} {i ie : TI} {ps : List (Nat × AV)} {c : List AV} (cs : List (List AV)) (hK : Keep [] s0 s) (hg : guardY ops m g = some true) (hd : Nat.ble (d + 1) nt = true) (hT : T tt = some i) (hs : i.sh = .slice e) (he : T e = some ie) (hp : evPartsY m parts.toList = some ps) (hz : ie.zero.length = ie.size) (h0 : ie.size ≠ 0) (h24 : n * ie.size ≤ 2 ^ 24)
    (hf : fillA (fun n => some (n * ie.size, ie.size)) (List.replicate n ie.zero).flatten ps = some c) (hl : c.all AV.leaf = true) (hc : c = cs.flatten) (hcs : ∀ x ∈ cs, x.length = ie.size ∧ x.all AV.leaf = true) (hn : n = cs.length)
    (k : ∀ v s', Row s'.h ie.size v cs → Keep [] s s' → s'.ctr = s.ctr + 1 → v.gs = [s.ctr] → WD P T K nt ops rest ((d, v) :: m) s' (Old s0 X) Q) : WD P T K nt ops (⟨some d, .buildSlice tt n parts, ty, pos, af, g⟩ :: rest) m s (Old s0 X) Q := by
  have hokb : s.bare.Ok := hK.ok
  refine wd_cons (fun t _ g hg => by cases hg) (w1_val hg hd (op_lit (s := s.bare) hT hs he hp hz h0 h24 hf hl) ⟨fun g hg ho => ?_, k _ ((s.bare.newG ⟨[⟨c, 0, none⟩]⟩).join s) (lit_row hokb hc hcs hn h0) (newG_keep hokb _).1.joined rfl rfl⟩)
  have h1 : g = s.ctr := List.mem_singleton.1 hg
  have := ho.1
  have := hK.ctr
  omega
/-- append in a drawn region: what it writes is new. -/
theorem wo_append {tt e : TypeId} {x y : Operand} {args : Array Operand} {tys : Array TypeId} {i ie : TI} {a b : AV} {cs ns : List (List AV)} (hK : Keep [] s0 s) (hA : ∀ g ∈ a.gs, s0.ctr ≤ g ∨ g ∈ X) (hg : guardY ops m g = some true) (hd : Nat.ble (d + 1) nt = true) (h1 : args.toList = [x, y]) (h2 : tys.toList = [tt, tt])
    (hx : evY m x = some a) (hy : evY m y = some b) (hT : T tt = some i) (hs : i.sh = .slice e) (he : T e = some ie) (h0 : ie.size ≠ 0) (ha : Row s.h ie.size a cs) (hro : a.gs = [] → a = .nils) (hb : Row s.h ie.size b ns)
    (hb1 : (cs.length + ns.length) * ie.bytes ≤ maxBytes) (hb2 : cs.length + ns.length ≤ maxBytes)
    (k : ∀ v s', Row s'.h ie.size v (cs ++ ns) → Keep a.gs s s' → s'.ctr ≤ s.ctr + 1 → (v.gs = a.gs ∨ v.gs = [s.ctr]) → (v.gs = [] → v = .nils) → (ns ≠ [] → v.gs ≠ []) → WD P T K nt ops rest ((d, v) :: m) s' (Old s0 X) Q) :
    WD P T K nt ops (⟨some d, .call ⟨.builtin .append, args, tys⟩, ty, pos, af, g⟩ :: rest) m s (Old s0 X) Q := by
  obtain ⟨sh, size, bytes, zero, flat⟩ := i
  cases hs
  have hokb : s.bare.Ok := hK.ok
  obtain ⟨v, s', e1, e2, e3, e4, e5, e6, e7⟩ := app_row hokb h0 (Row.bare ha) hro hb.cells hb1 hb2
  refine wd_cons (fun t _ g hg => by cases hg) (w1_val (v := v) (s' := s') hg hd (fun t ht => ?_) ⟨fun g hg ho => ?_, k v (s'.join s) e2 e3.joined e4 e5 e6 e7⟩)
  · have hev : evsY m [x, y] = some [a, b] := by simp only [evsY, hx, hy]
    simp only [evOp, h1, h2, evsY_ok ht hev, callA, ne_eq, not_true_eq_false, if_false, hT, he, (Row.bare hb).slen, (Row.bare hb).elems, e1]
  · rcases e3.wr g hg with h1 | h1 | h1
    · cases h1
    · rcases hA g h1 with h2 | h2
      · have := ho.1; omega
      · exact ho.2 h2
    · have h2 : s.ctr ≤ g := h1
      have := ho.1
      have := hK.ctr
      omega
/-- Two rows under construction put behind each other. -/
theorem Bld.app {α : Type} {R : RP α} (hG : Good R) {c0 hi c1 hi1 : Nat} {s' : St} {sz : Nat} {f f2 v : AV} {xs ys : List α} {cs ns : List (List AV)} (_hf : Row s.h sz f cs) (hgs : ∀ g ∈ f.gs, c0 ≤ g ∧ g < hi) (hl : cs.length = xs.length) (hx : ∀ (i : Nat) (x : α) (c : List AV), xs[i]? = some x → cs[i]? = some c → R s.h (Fr c0 hi f.gs) x c)
    (hl2 : ns.length = ys.length) (hy : ∀ (i : Nat) (x : α) (c : List AV), ys[i]? = some x → ns[i]? = some c → R s.h (Fr c1 hi1 f2.gs) x c) (h1 : hi ≤ c1) (h2 : hi1 ≤ s.ctr) (h3 : hi ≤ s.ctr) (hc0 : c0 ≤ hi)
    (hv : Row s'.h sz v (cs ++ ns)) (hk : Keep f.gs s s') (hvg : v.gs = f.gs ∨ v.gs = [s.ctr]) (hvn : v.gs = [] → v = .nils) : Bld c0 s'.ctr s' sz R v (xs ++ ys) := by
  have hvl := hv.lt hk.ok
  have hct := hk.ctr
  refine ⟨cs ++ ns, hv, hvn, fun g hg => ⟨?_, hvl g hg⟩, by simp [hl, hl2], fun i x c k1 k2 => ?_⟩
  · rcases hvg with h | h
    · rw [h] at hg; exact (hgs g hg).1
    · rw [h] at hg; rw [List.mem_singleton.1 hg]; omega
  · have hF : ∀ g, c0 ≤ g → g < s.ctr → g ∉ f.gs → Fr c0 s'.ctr v.gs g := by
      intro g k1 k2 k3
      refine ⟨k1, by omega, ?_⟩
      rcases hvg with h | h
      · rw [h]; exact k3
      · rw [h]; intro hm; rw [List.mem_singleton.1 hm] at k2; omega
    by_cases hi' : i < xs.length
    · rw [List.getElem?_append_left hi'] at k1
      rw [List.getElem?_append_left (by omega)] at k2
      exact hG.mono (hG.keep (hx i x c k1 k2) hk fun g hg' hF' => hF'.2.2 hg') fun g k => hF g k.1 (by have := k.2.1; omega) k.2.2
    · rw [List.getElem?_append_right (by omega)] at k1
      rw [List.getElem?_append_right (by omega), hl] at k2
      exact hG.mono (hG.keep (hy _ x c k1 k2) hk fun g hg' hF' => by have := (hgs g hg').2; have := hF'.1; omega) fun g k => hF g (by have := k.1; omega) (by have := k.2.1; omega) fun hm => by have := (hgs g hm).2; have := k.1; omega
end
/- Early literals. -/
section
variable {P : Program} {T : Tab} {K : FuncId → Option Bool} {nt : Nat} {ops : Array Oper}
/-- The first run, that foretells the cells of the early groups. -/
def WG (P : Program) (T : Tab) (K : FuncId → Option Bool) (nt : Nat) (ops : Array Oper) (l : List Oper) (hs : List (Option (Nat × List AV))) (m : Sy) (s : St) (gs : List (List AV)) : Prop :=
  ∃ N, ∀ n, N ≤ n → ∀ t, Has t nt m → evGuess T (evCallK P T K n) ops l hs t s = some gs
variable {D : Nat → Prop} {A : List (Nat × Nat)} {j : Nat} {rest : List Oper} {hs : List (Option (Nat × List AV))} {m : Sy} {s s0 : St} {Q : Sy → St → Prop} {R : Ex → Sy → St → Prop} {o : Oper} {gs : List (List AV)} {d ty : Nat} {pos : String} {af : Array Edge} {g : Option (Nat × Bool)} {op : Op} {v : AV}
theorem wg_nil : WG P T K nt ops [] [] m s [] := ⟨0, fun _ _ _t _ => rfl⟩
theorem wg_cons (h : W1 P T K nt ops o m s fun m1 s1 => WG P T K nt ops rest hs m1 s1 gs) : WG P T K nt ops (o :: rest) (none :: hs) m s ([] :: gs) := by
  obtain ⟨N, m1, s1, ⟨N', h'⟩, hn⟩ := h
  refine ⟨max N N', fun n hn' t ht => ?_⟩
  obtain ⟨t1, e1, ht1⟩ := hn n (by omega) t ht
  have e2 := h' n (by omega) t1 ht1
  simp only [evGuess, e1, e2, Option.map_some]
theorem wg_val (hg : guardY ops m g = some true) (hd : Nat.ble (d + 1) nt = true) (h : ∀ t, Has t nt m → evOp T op t s = some (.val v, s)) (k : WG P T K nt ops rest hs ((d, v) :: m) s gs) : WG P T K nt ops (⟨some d, op, ty, pos, af, g⟩ :: rest) (none :: hs) m s ([] :: gs) := wg_cons (w1_val hg hd h k)
theorem wg_call {f : FuncId} {args : List AV} {R : AV → St → Prop} (hg : guardY ops m g = some true) (hd : Nat.ble (d + 1) nt = true) (h : ∀ t, Has t nt m → evOp T op t s = some (.call f args, s)) (hc : CallS P T K f args s R) (k : ∀ v s', R v s' → WG P T K nt ops rest hs ((d, v) :: m) s' gs) :
    WG P T K nt ops (⟨some d, op, ty, pos, af, g⟩ :: rest) (none :: hs) m s ([] :: gs) := wg_cons (w1_call hg hd h hc k)
/-- A store, or anything else that turns memory: the state is told. -/
theorem wg_eff {s' : St} (hg : guardY ops m g = some true) (h : ∀ t, Has t nt m → evOp T op t s = some (.skip, s')) (k : WG P T K nt ops rest hs m s' gs) : WG P T K nt ops (⟨none, op, ty, pos, af, g⟩ :: rest) (none :: hs) m s ([] :: gs) := wg_cons (w1_skip hg rfl h k)
theorem wg_lit {tt e : TypeId} {n : Nat} {parts : Array (Nat × Operand)} {i ie : TI} {ps : List (Nat × AV)} {c : Nat} {cs cc : List AV} (hd : Nat.ble (d + 1) nt = true) (hT : T tt = some i) (hs' : i.sh = .slice e) (he : T e = some ie) (hp : evPartsY m parts.toList = some ps) (hz : ie.zero.length = ie.size) (h0 : ie.size ≠ 0) (h24 : n * ie.size ≤ 2 ^ 24)
    (hf : fillA (fun n => some (n * ie.size, ie.size)) (List.replicate n ie.zero).flatten ps = some cc) (hl : cc.all AV.leaf = true) (k : WG P T K nt ops rest hs ((d, .slc c 0 0 ie.size n n true) :: m) (s.setG c ⟨[⟨cc, 0, none⟩]⟩) gs) :
    WG P T K nt ops (⟨some d, .buildSlice tt n parts, ty, pos, af, none⟩ :: rest) (some (c, cs) :: hs) m s (cc :: gs) := by
  obtain ⟨N, h⟩ := k
  refine ⟨N, fun n' hn' t ht => ?_⟩
  have e1 := op_lit (s := ⟨c, .leaf, []⟩) hT hs' he hp hz h0 h24 hf hl t ht
  have e2 : (St.newG ⟨c, .leaf, []⟩ ⟨[⟨cc, 0, none⟩]⟩).get c = some ⟨[⟨cc, 0, none⟩]⟩ := by simp only [St.get, St.newG, Tr.get_set, if_true]
  have e3 := h n' hn' _ (ht.set (d := d) (.slc c 0 0 ie.size n n true) (Nat.le_of_ble_eq_true hd))
  simp only [evGuess, guardA, e1, e2, putA, e3, Option.map_some]
theorem eqB_slc {x : AV} {h : Tr Grp} {sz : Nat} {cs : List (List AV)} (k : Row h sz x cs) (hg : x.gs ≠ []) : AV.eqB x x = true := by
  cases x with
  | slc g j o sz len lo ex => simp [AV.eqB]
  | nils => exact (hg rfl).elim
  | ro nl xs => exact (hg rfl).elim
  | _ => exact k.elim
theorem we_lit {tt e : TypeId} {n : Nat} {parts : Array (Nat × Operand)} {i ie : TI} {ps : List (Nat × AV)} {c : Nat} {cc : List AV} (hd : Nat.ble (d + 1) nt = true) (hA : (j, c) ∈ A) (hT : T tt = some i) (hs' : i.sh = .slice e) (he : T e = some ie) (hp : evPartsY m parts.toList = some ps) (hz : ie.zero.length = ie.size) (h0 : ie.size ≠ 0) (h24 : n * ie.size ≤ 2 ^ 24)
    (hf : fillA (fun n => some (n * ie.size, ie.size)) (List.replicate n ie.zero).flatten ps = some cc) (hl : cc.all AV.leaf = true) (heq : AV.eqBs cc cc = true) (k : WE P T K nt ops D A (j + 1) rest hs ((d, .slc c 0 0 ie.size n n true) :: m) s Q) :
    WE P T K nt ops D A j (⟨some d, .buildSlice tt n parts, ty, pos, af, none⟩ :: rest) (some (c, cc) :: hs) m s Q := by
  obtain ⟨N, m', s', hq, hn⟩ := k
  refine ⟨N, m', s', hq, fun n' hn' t ht => ?_⟩
  obtain ⟨t2, es, e2, ht2, he'⟩ := hn n' hn' (t.set d (.slc c 0 0 ie.size n n true)) (ht.set _ (Nat.le_of_ble_eq_true hd))
  refine ⟨t2, ⟨none, [], some c⟩ :: es, ?_, ht2, ?_⟩
  · rw [evLog]
    have e1 := op_lit (s := ⟨c, .leaf, []⟩) hT hs' he hp hz h0 h24 hf hl t ht
    have e3 : (St.newG ⟨c, .leaf, []⟩ ⟨[⟨cc, 0, none⟩]⟩).get c = some ⟨[⟨cc, 0, none⟩]⟩ := by simp only [St.get, St.newG, Tr.get_set, if_true]
    have : earlyVal T ops ⟨some d, .buildSlice tt n parts, ty, pos, af, none⟩ t c cc = some (.slc c 0 0 ie.size n n true) := by
      simp only [earlyVal, guardA, e1, e3, heq, if_true]
    rw [this]
    simp only
    rw [show putA t (some d) (.slc c 0 0 ie.size n n true) = t.set d (.slc c 0 0 ie.size n n true) from rfl, e2]
  · intro i x hi
    cases i with
    | zero =>
      simp only [List.getElem?_cons_zero, Option.some.injEq] at hi
      subst hi
      exact ⟨fun g hg => by simp at hg, fun g hg => by simp at hg, fun g hg => by cases hg; exact hA⟩
    | succ i =>
      have := he' i x (by simpa using hi)
      rw [show j + (i + 1) = j + 1 + i by omega]
      exact this
theorem wc_early2 {id : Nat} {s00 : St} {hs0 : List (Option (Nat × List AV))} (hd : drawOk false ops = false) (hd2 : drawOk true ops = true) (hh0 : hoist true T ops.toList [] s = some (s00, hs0)) (hg : WG P T K nt ops ops.toList hs0 m s00 gs) (hh : hoist true T ops.toList gs s = some (s0, hs)) (h : WE P T K nt ops D A 0 ops.toList hs m s0 (R .normal)) : WC P T K nt (.region id ops true) m s R := by
  obtain ⟨N, m', s', hq, hn⟩ := h
  obtain ⟨N2, hn2⟩ := hg
  refine ⟨max N N2 + 1, .normal, m', s', hq, fun n k hn1 hk t ht => ?_⟩
  obtain ⟨t', es, e1, ht', he⟩ := hn n (by omega) t ht
  obtain ⟨k, rfl⟩ : ∃ j, k = j + 1 := ⟨k - 1, by omega⟩
  refine ⟨t', ?_, ht'⟩
  have h1 : foretold T (evCallK P T K n) ops t s = some gs := by
    unfold foretold
    rw [hh0]
    exact hn2 n (by omega) t ht
  have h2 : evDraw T (evCallK P T K n) true gs ops t s = some (t', s') := by
    unfold evDraw
    rw [hh]
    simp only [e1]
    rw [if_pos (logOk_ent (D := D) (A := A) fun i e hi => by have := he i e hi; rwa [Nat.zero_add] at this)]
  simp only [evCode, hd, hd2, h1, h2, if_true, Bool.false_eq_true, if_false]
end
end Go.Ab
/- Early literals: what is laid, and the first run over it. -/
namespace Go.Ab
section
variable {P : Program} {T : Tab} {K : FuncId → Option Bool} {nt : Nat} {ops : Array Oper} {b : Bool} {rest : List Oper} {o : Oper} {s s' : St} {gs : List (List AV)} {l : List (Option (Nat × List AV))} {cs : List AV} {hs : List (Option (Nat × List AV))} {m : Sy} {g : Option (Nat × Bool)} {ty : Nat} {pos : String} {af : Array Edge}
theorem hoist_skip (h : Oper.early b o = false) (hr : hoist b T rest gs.tail s = some (s', l)) : hoist b T (o :: rest) gs s = some (s', none :: l) := by
  rw [hoist, h, hr]; rfl
theorem hoist_lit (h : Oper.early b o = true) (hc : earlyCells T (gs.headD []) o.op = some cs) (hl : cs.all AV.leaf = true) (hr : hoist b T rest gs.tail (s.newG ⟨[⟨cs, 0, none⟩]⟩) = some (s', l)) : hoist b T (o :: rest) gs s = some (s', some (s.ctr, cs) :: l) := by
  rw [hoist, h, hc]; simp only [hl, if_true, hr]
theorem newG_has (hok : s.Ok) (G : Grp) : Tr.get (s.newG G).h s.ctr = some G := (newG_keep hok G).2.1
theorem setG_row {c n sz : Nat} {rs : List (List AV)} (hc : cs = rs.flatten) (hcs : ∀ x ∈ rs, x.length = sz ∧ x.all AV.leaf = true) (hn : n = rs.length) (h0 : sz ≠ 0) : Row (s.setG c ⟨[⟨cs, 0, none⟩]⟩).h sz (.slc c 0 0 sz n n true) rs := by
  subst hc hn
  refine ⟨rfl, h0, rfl, Nat.le_refl _, hcs, [], ?_⟩
  rw [List.append_nil, ← flat_len fun c hc => (hcs c hc).1]
  unfold rdH
  rw [show Tr.get (s.setG c ⟨[⟨rs.flatten, 0, none⟩]⟩).h c = some ⟨[⟨rs.flatten, 0, none⟩]⟩ by simp only [St.setG, Tr.get_set, if_true]]
  simp only
  rw [Grp.read_mk (V := ⟨rs.flatten, 0, none⟩) rfl rfl (by simp)]
  rw [List.drop_zero, List.take_length]
theorem wg_store_all {tt : TypeId} {a x : Operand} {i : TI} {p u : AV} {old : List AV} (hg : guardY ops m g = some true) (ha : evY m a = some p) (hx : evY m x = some u) (hT : T tt = some i) (hl : u.cells.length = i.size) (hlo : u.cells.length = old.length)
    (hz : u.cells.all AV.leaf = true) (hok : s.Ok) (hp : Pt s.h p old) (hpg : p.gs ≠ [])
    (k : ∀ s', Keep p.gs s s' → WG P T K nt ops rest hs m s' gs) : WG P T K nt ops (⟨none, .store tt a x, ty, pos, af, g⟩ :: rest) (none :: hs) m s ([] :: gs) := by
  cases p with
  | ptr g' j off =>
    obtain ⟨s', e1, e2, e3, e4⟩ := write_over hok hp (k := 0) (c := u.cells) (by omega) hz
    rw [Nat.add_zero] at e1
    refine wg_eff hg (s' := s') (fun t ht => ?_) (k s' e3)
    have hnl : ¬ (u.cells.length ≠ i.size) := fun h => h hl
    simp only [evOp, hT, evY_ok ht ha, evY_ok ht hx, if_neg hnl, e1]
  | rop xs => exact (hpg rfl).elim
  | _ => exact hp.elim
end
end Go.Ab
/- slices.Clip and slices.Clone. -/
namespace Go.Ab
open Go.Proofs
set_option maxRecDepth 10000 in
theorem clipInts_ok {s : St} {v : AV} {cs : List (List AV)} (hv : Row s.h 1 v cs) (hn : v.gs = [] → v = .nils) :
    CallS Try.prog Tt Kt 58 [v] s (fun r s' => s' = s ∧ r = clipA v) := by
  have hsv := hv.slen
  refine call_of (fn := Try.f58) (nt := 9) Try.func58 rfl rfl rfl ?_
  repeat refine wc_seq ?_
  refine wc_region ?_
  refine w_val rfl rfl (op_pure rfl) ?_
  refine w_nil ?_
  refine then_n ?_
  repeat refine wc_seq ?_
  refine wc_region ?_
  refine w_val rfl rfl (op_pure rfl) ?_
  refine w_val rfl rfl (op_pure rfl) ?_
  refine w_val rfl rfl (op_len rfl rfl rfl rfl rfl (by assumption)) ?_
  refine w_val rfl rfl (op_pure rfl) ?_
  refine w_val rfl rfl (op_len rfl rfl rfl rfl rfl (by assumption)) ?_
  refine w_val rfl rfl (op_clip rfl rfl (natA_cast _ _) rfl (natA_cast _ _) rfl rfl rfl rfl hv hn) ?_
  refine w_val rfl rfl (op_pure rfl) ?_
  refine w_nil ?_
  refine then_n ?_
  refine wc_ret ?_
  repeat first | refine then_r ?_ | refine out_r ?_ | refine round_r ?_ | refine cut_r ?_ | refine sc_r ?_
  exact ⟨_, rfl, rfl, rfl⟩
set_option maxRecDepth 10000 in
theorem clipLabels_ok {s : St} {v : AV} {cs : List (List AV)} (hv : Row s.h 1 v cs) (hn : v.gs = [] → v = .nils) :
    CallS Try.prog Tt Kt 71 [v] s (fun r s' => s' = s ∧ r = clipA v) := by
  have hsv := hv.slen
  refine call_of (fn := Try.f71) (nt := 9) Try.func71 rfl rfl rfl ?_
  repeat refine wc_seq ?_
  refine wc_region ?_
  refine w_val rfl rfl (op_pure rfl) ?_
  refine w_nil ?_
  refine then_n ?_
  repeat refine wc_seq ?_
  refine wc_region ?_
  refine w_val rfl rfl (op_pure rfl) ?_
  refine w_val rfl rfl (op_pure rfl) ?_
  refine w_val rfl rfl (op_len rfl rfl rfl rfl rfl (by assumption)) ?_
  refine w_val rfl rfl (op_pure rfl) ?_
  refine w_val rfl rfl (op_len rfl rfl rfl rfl rfl (by assumption)) ?_
  refine w_val rfl rfl (op_clip rfl rfl (natA_cast _ _) rfl (natA_cast _ _) rfl rfl rfl rfl hv hn) ?_
  refine w_val rfl rfl (op_pure rfl) ?_
  refine w_nil ?_
  refine then_n ?_
  refine wc_ret ?_
  repeat first | refine then_r ?_ | refine out_r ?_ | refine round_r ?_ | refine cut_r ?_ | refine sc_r ?_
  exact ⟨_, rfl, rfl, rfl⟩
set_option maxRecDepth 10000 in
theorem clipArrays_ok {s : St} {v : AV} {cs : List (List AV)} (hv : Row s.h 2 v cs) (hn : v.gs = [] → v = .nils) :
    CallS Try.prog Tt Kt 73 [v] s (fun r s' => s' = s ∧ r = clipA v) := by
  have hsv := hv.slen
  refine call_of (fn := Try.f73) (nt := 9) Try.func73 rfl rfl rfl ?_
  repeat refine wc_seq ?_
  refine wc_region ?_
  refine w_val rfl rfl (op_pure rfl) ?_
  refine w_nil ?_
  refine then_n ?_
  repeat refine wc_seq ?_
  refine wc_region ?_
  refine w_val rfl rfl (op_pure rfl) ?_
  refine w_val rfl rfl (op_pure rfl) ?_
  refine w_val rfl rfl (op_len rfl rfl rfl rfl rfl (by assumption)) ?_
  refine w_val rfl rfl (op_pure rfl) ?_
  refine w_val rfl rfl (op_len rfl rfl rfl rfl rfl (by assumption)) ?_
  refine w_val rfl rfl (op_clip rfl rfl (natA_cast _ _) rfl (natA_cast _ _) rfl rfl rfl rfl hv hn) ?_
  refine w_val rfl rfl (op_pure rfl) ?_
  refine w_nil ?_
  refine then_n ?_
  refine wc_ret ?_
  repeat first | refine then_r ?_ | refine out_r ?_ | refine round_r ?_ | refine cut_r ?_ | refine sc_r ?_
  exact ⟨_, rfl, rfl, rfl⟩
set_option maxRecDepth 10000 in
theorem clipFuncs_ok {s : St} {v : AV} {cs : List (List AV)} (hv : Row s.h 6 v cs) (hn : v.gs = [] → v = .nils) :
    CallS Try.prog Tt Kt 75 [v] s (fun r s' => s' = s ∧ r = clipA v) := by
  have hsv := hv.slen
  refine call_of (fn := Try.f75) (nt := 9) Try.func75 rfl rfl rfl ?_
  repeat refine wc_seq ?_
  refine wc_region ?_
  refine w_val rfl rfl (op_pure rfl) ?_
  refine w_nil ?_
  refine then_n ?_
  repeat refine wc_seq ?_
  refine wc_region ?_
  refine w_val rfl rfl (op_pure rfl) ?_
  refine w_val rfl rfl (op_pure rfl) ?_
  refine w_val rfl rfl (op_len rfl rfl rfl rfl rfl (by assumption)) ?_
  refine w_val rfl rfl (op_pure rfl) ?_
  refine w_val rfl rfl (op_len rfl rfl rfl rfl rfl (by assumption)) ?_
  refine w_val rfl rfl (op_clip rfl rfl (natA_cast _ _) rfl (natA_cast _ _) rfl rfl rfl rfl hv hn) ?_
  refine w_val rfl rfl (op_pure rfl) ?_
  refine w_nil ?_
  refine then_n ?_
  refine wc_ret ?_
  repeat first | refine then_r ?_ | refine out_r ?_ | refine round_r ?_ | refine cut_r ?_ | refine sc_r ?_
  exact ⟨_, rfl, rfl, rfl⟩
set_option maxRecDepth 10000 in
theorem cloneCode_ok {s : St} {v : AV} {cs : List (List AV)} (hok : s.Ok) (hl : cs.length ≤ 2097152) (hv : Row s.h 2 v cs) (hg : v.gs ≠ []) :
    CallS Try.prog Tt Kt 55 [v] s (fun r s' => Keep [] s s' ∧ Row s'.h 2 r cs ∧ (∀ g ∈ r.gs, s.ctr ≤ g) ∧ r.gs ≠ []) := by
  refine call_of (fn := Try.f55) (nt := 8) Try.func55 rfl rfl rfl ?_
  repeat refine wc_seq ?_
  refine wc_region ?_
  refine w_val rfl rfl (op_pure rfl) ?_
  refine w_nil ?_
  refine then_n ?_
  repeat refine wc_seq ?_
  refine wc_region ?_
  refine w_val rfl rfl (op_pure rfl) ?_
  refine w_val rfl rfl (op_isnil rfl rfl rfl rfl hv hg) ?_
  refine w_nil ?_
  refine then_n ?_
  repeat refine wc_seq ?_
  refine wc_condT rfl (fun h4 => ?_) (fun h4 => ?_)
  · cases h4
  clear h4
  refine wc_skip ?_
  refine then_n ?_
  repeat refine wc_seq ?_
  refine wc_region ?_
  refine w_lit0 rfl rfl rfl rfl rfl rfl (by decide) hok ?_
  rintro a s1 ha hk1 hc1 hga
  have hv1 := hv.keep0 hk1
  refine w_val rfl rfl (op_pure rfl) ?_
  refine w_append rfl rfl rfl rfl rfl rfl rfl rfl rfl (by decide) hk1.ok ha (fun e => by rw [hga] at e; cases e) hv1 (by simp only [List.length_nil, maxBytes]; omega) (by simp only [List.length_nil, maxBytes]; omega) ?_
  rintro r s2 hr hk2 hc2 hgr - -
  rw [List.nil_append] at hr
  refine w_val rfl rfl (op_pure rfl) ?_
  refine w_nil ?_
  refine then_n ?_
  refine wc_ret ?_
  repeat first | refine then_r ?_ | refine out_r ?_ | refine round_r ?_ | refine cut_r ?_ | refine sc_r ?_
  refine ⟨_, rfl, hk1.fresh hk2 (by rw [hga]; exact mem_none _), hr, ?_, ?_⟩
  · show ∀ g ∈ r.gs, _
    rcases hgr with e | e
    · rw [e, hga]; exact mem_none _
    · rw [e]; intro g hg; rw [List.mem_singleton.1 hg]; omega
  · show r.gs ≠ []
    rcases hgr with e | e
    · rw [e, hga]; exact fun e => by cases e
    · rw [e]; exact fun e => by cases e
set_option maxRecDepth 10000 in
theorem cloneLabels_ok {s : St} {v : AV} {cs : List (List AV)} (hok : s.Ok) (hl : cs.length ≤ 2097152) (hv : Row s.h 1 v cs) (hg : v.gs ≠ []) :
    CallS Try.prog Tt Kt 85 [v] s (fun r s' => Keep [] s s' ∧ Row s'.h 1 r cs ∧ (∀ g ∈ r.gs, s.ctr ≤ g) ∧ r.gs ≠ []) := by
  refine call_of (fn := Try.f85) (nt := 8) Try.func85 rfl rfl rfl ?_
  repeat refine wc_seq ?_
  refine wc_region ?_
  refine w_val rfl rfl (op_pure rfl) ?_
  refine w_nil ?_
  refine then_n ?_
  repeat refine wc_seq ?_
  refine wc_region ?_
  refine w_val rfl rfl (op_pure rfl) ?_
  refine w_val rfl rfl (op_isnil rfl rfl rfl rfl hv hg) ?_
  refine w_nil ?_
  refine then_n ?_
  repeat refine wc_seq ?_
  refine wc_condT rfl (fun h4 => ?_) (fun h4 => ?_)
  · cases h4
  clear h4
  refine wc_skip ?_
  refine then_n ?_
  repeat refine wc_seq ?_
  refine wc_region ?_
  refine w_lit0 rfl rfl rfl rfl rfl rfl (by decide) hok ?_
  rintro a s1 ha hk1 hc1 hga
  have hv1 := hv.keep0 hk1
  refine w_val rfl rfl (op_pure rfl) ?_
  refine w_append rfl rfl rfl rfl rfl rfl rfl rfl rfl (by decide) hk1.ok ha (fun e => by rw [hga] at e; cases e) hv1 (by simp only [List.length_nil, maxBytes]; omega) (by simp only [List.length_nil, maxBytes]; omega) ?_
  rintro r s2 hr hk2 hc2 hgr - -
  rw [List.nil_append] at hr
  refine w_val rfl rfl (op_pure rfl) ?_
  refine w_nil ?_
  refine then_n ?_
  refine wc_ret ?_
  repeat first | refine then_r ?_ | refine out_r ?_ | refine round_r ?_ | refine cut_r ?_ | refine sc_r ?_
  refine ⟨_, rfl, hk1.fresh hk2 (by rw [hga]; exact mem_none _), hr, ?_, ?_⟩
  · show ∀ g ∈ r.gs, _
    rcases hgr with e | e
    · rw [e, hga]; exact mem_none _
    · rw [e]; intro g hg; rw [List.mem_singleton.1 hg]; omega
  · show r.gs ≠ []
    rcases hgr with e | e
    · rw [e, hga]; exact fun e => by cases e
    · rw [e]; exact fun e => by cases e
set_option maxRecDepth 10000 in
theorem cloneArrays_ok {s : St} {v : AV} {cs : List (List AV)} (hok : s.Ok) (hl : cs.length ≤ 2097152) (hv : Row s.h 2 v cs) (hg : v.gs ≠ []) :
    CallS Try.prog Tt Kt 86 [v] s (fun r s' => Keep [] s s' ∧ Row s'.h 2 r cs ∧ (∀ g ∈ r.gs, s.ctr ≤ g) ∧ r.gs ≠ []) := by
  refine call_of (fn := Try.f86) (nt := 8) Try.func86 rfl rfl rfl ?_
  repeat refine wc_seq ?_
  refine wc_region ?_
  refine w_val rfl rfl (op_pure rfl) ?_
  refine w_nil ?_
  refine then_n ?_
  repeat refine wc_seq ?_
  refine wc_region ?_
  refine w_val rfl rfl (op_pure rfl) ?_
  refine w_val rfl rfl (op_isnil rfl rfl rfl rfl hv hg) ?_
  refine w_nil ?_
  refine then_n ?_
  repeat refine wc_seq ?_
  refine wc_condT rfl (fun h4 => ?_) (fun h4 => ?_)
  · cases h4
  clear h4
  refine wc_skip ?_
  refine then_n ?_
  repeat refine wc_seq ?_
  refine wc_region ?_
  refine w_lit0 rfl rfl rfl rfl rfl rfl (by decide) hok ?_
  rintro a s1 ha hk1 hc1 hga
  have hv1 := hv.keep0 hk1
  refine w_val rfl rfl (op_pure rfl) ?_
  refine w_append rfl rfl rfl rfl rfl rfl rfl rfl rfl (by decide) hk1.ok ha (fun e => by rw [hga] at e; cases e) hv1 (by simp only [List.length_nil, maxBytes]; omega) (by simp only [List.length_nil, maxBytes]; omega) ?_
  rintro r s2 hr hk2 hc2 hgr - -
  rw [List.nil_append] at hr
  refine w_val rfl rfl (op_pure rfl) ?_
  refine w_nil ?_
  refine then_n ?_
  refine wc_ret ?_
  repeat first | refine then_r ?_ | refine out_r ?_ | refine round_r ?_ | refine cut_r ?_ | refine sc_r ?_
  refine ⟨_, rfl, hk1.fresh hk2 (by rw [hga]; exact mem_none _), hr, ?_, ?_⟩
  · show ∀ g ∈ r.gs, _
    rcases hgr with e | e
    · rw [e, hga]; exact mem_none _
    · rw [e]; intro g hg; rw [List.mem_singleton.1 hg]; omega
  · show r.gs ≠ []
    rcases hgr with e | e
    · rw [e, hga]; exact fun e => by cases e
    · rw [e]; exact fun e => by cases e
set_option maxRecDepth 10000 in
theorem cloneInts_ok {s : St} {v : AV} {cs : List (List AV)} (hok : s.Ok) (hl : cs.length ≤ 2097152) (hv : Row s.h 1 v cs) (hg : v.gs ≠ []) :
    CallS Try.prog Tt Kt 100 [v] s (fun r s' => Keep [] s s' ∧ Row s'.h 1 r cs ∧ (∀ g ∈ r.gs, s.ctr ≤ g) ∧ r.gs ≠ []) := by
  refine call_of (fn := Try.f100) (nt := 8) Try.func100 rfl rfl rfl ?_
  repeat refine wc_seq ?_
  refine wc_region ?_
  refine w_val rfl rfl (op_pure rfl) ?_
  refine w_nil ?_
  refine then_n ?_
  repeat refine wc_seq ?_
  refine wc_region ?_
  refine w_val rfl rfl (op_pure rfl) ?_
  refine w_val rfl rfl (op_isnil rfl rfl rfl rfl hv hg) ?_
  refine w_nil ?_
  refine then_n ?_
  repeat refine wc_seq ?_
  refine wc_condT rfl (fun h4 => ?_) (fun h4 => ?_)
  · cases h4
  clear h4
  refine wc_skip ?_
  refine then_n ?_
  repeat refine wc_seq ?_
  refine wc_region ?_
  refine w_lit0 rfl rfl rfl rfl rfl rfl (by decide) hok ?_
  rintro a s1 ha hk1 hc1 hga
  have hv1 := hv.keep0 hk1
  refine w_val rfl rfl (op_pure rfl) ?_
  refine w_append rfl rfl rfl rfl rfl rfl rfl rfl rfl (by decide) hk1.ok ha (fun e => by rw [hga] at e; cases e) hv1 (by simp only [List.length_nil, maxBytes]; omega) (by simp only [List.length_nil, maxBytes]; omega) ?_
  rintro r s2 hr hk2 hc2 hgr - -
  rw [List.nil_append] at hr
  refine w_val rfl rfl (op_pure rfl) ?_
  refine w_nil ?_
  refine then_n ?_
  refine wc_ret ?_
  repeat first | refine then_r ?_ | refine out_r ?_ | refine round_r ?_ | refine cut_r ?_ | refine sc_r ?_
  refine ⟨_, rfl, hk1.fresh hk2 (by rw [hga]; exact mem_none _), hr, ?_, ?_⟩
  · show ∀ g ∈ r.gs, _
    rcases hgr with e | e
    · rw [e, hga]; exact mem_none _
    · rw [e]; intro g hg; rw [List.mem_singleton.1 hg]; omega
  · show r.gs ≠ []
    rcases hgr with e | e
    · rw [e, hga]; exact fun e => by cases e
    · rw [e]; exact fun e => by cases e
end Go.Ab
