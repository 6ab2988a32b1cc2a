/- Rows that are the same are found the same. -/
import Derived.Test.YtdpdlmjlahehoaaD1
namespace Go.Ab
open Go.Proofs
def TermsR (h : Tr Grp) (ts : List TermL) (c : List AV) : Prop := ∃ v, c = [v] ∧ Row h 3 v (ts.map tC)
set_option maxRecDepth 10000 in
theorem ints_same {s : St} {a b : AV} {xs : List Int} (hl : xs.length ≤ 2097152) (ha : Row s.h 1 a (xs.map iC)) (hb : Row s.h 1 b (xs.map iC)) :
    CallS Try.prog Tt 14 [a, b] s (fun v s' => s' = s ∧ v = .bool true) := by
  refine call_of (fn := Try.f14) (nt := 26) Try.func14 rfl rfl ?_
  repeat refine wc_seq ?_
  refine wc_region ?_
  refine w_val rfl rfl (op_pure rfl) ?_
  refine w_nil ?_
  refine then_n ?_
  repeat refine wc_seq ?_
  refine wc_region ?_
  refine w_val rfl rfl (op_pure rfl) ?_
  refine w_val rfl rfl (op_len rfl rfl rfl rfl rfl (by first | assumption | exact Row.slenF (by assumption) | exact Row.slen (by assumption) | rfl)) ?_
  refine w_val rfl rfl (op_pure rfl) ?_
  refine w_val rfl rfl (op_len rfl rfl rfl rfl rfl (by first | assumption | exact Row.slenF (by assumption) | exact Row.slen (by assumption) | rfl)) ?_
  refine w_val rfl rfl (op_pure rfl) ?_
  refine w_nil ?_
  refine then_n ?_
  repeat refine wc_seq ?_
  refine wc_condT rfl (fun h10 => ?_) (fun h10 => ?_)
  · simp at h10
  skip
  refine wc_skip ?_
  refine then_n ?_
  repeat refine wc_seq ?_
  refine wc_region ?_
  refine w_val rfl rfl (op_pure rfl) ?_
  refine w_nil ?_
  refine then_n ?_
  repeat refine wc_seq ?_
  refine wc_block ?_
  refine wc_loop_at (fun j m s' => ∃ i : Nat, j = xs.length - i ∧ i ≤ xs.length ∧ s' = s ∧ m = [(0, a), (1, b), (5, .int .i64 (i : Nat))]) xs.length
    [(0, a), (1, b), (5, .int .i64 ((0 : Nat) : Int))] (Sub.cons rfl (Sub.cons rfl (Sub.cons rfl (Sub.nil _)))) ⟨0, by simp, by simp, rfl, rfl⟩ ?_
  rintro j m sX ⟨i, rfl, hi, eX, rfl⟩
  obtain rfl := eX.symm
  repeat refine wc_seq ?_
  refine wc_region ?_
  refine w_val rfl rfl (op_pure rfl) ?_
  refine w_val rfl rfl (op_pure rfl) ?_
  refine w_val rfl rfl (op_len rfl rfl rfl rfl rfl (by first | assumption | exact Row.slenF (by assumption) | exact Row.slen (by assumption) | rfl)) ?_
  refine w_val rfl rfl (op_pure rfl) ?_
  refine w_nil ?_
  refine then_n ?_
  repeat refine wc_seq ?_
  refine wc_condT rfl (fun h14 => ?_) (fun h14 => ?_)
  · simp at h14
    refine wc_skip ?_
    refine then_n ?_
    repeat refine wc_seq ?_
    refine wc_block ?_
    repeat refine wc_seq ?_
    obtain ⟨x, hx⟩ : ∃ x, xs[i]? = some x := ⟨_, List.getElem?_eq_getElem h14⟩
    refine wc_draw (fun _ => True) (by kernel_rfl) rfl ?_
    refine wd_val (fun _ => trivial) rfl rfl (op_pure rfl) ?_
    refine wd_val (fun _ => trivial) rfl rfl (op_pure rfl) ?_
    first | refine wd_val (fun _ => trivial) rfl rfl (op_idxF rfl rfl (by first | exact natA_cast _ _ | exact natA_succ _ _ | exact natA_toNat (by omega) | rfl) rfl rfl rfl rfl (by first | assumption | exact Row.keep0 (by assumption) hK) (by first | omega | (simp; done) | (simp; omega))) ?_ | refine wd_val (fun _ => trivial) rfl rfl (op_idx rfl rfl (by first | exact natA_cast _ _ | exact natA_succ _ _ | exact natA_toNat (by omega) | rfl) rfl rfl rfl rfl (by first | assumption | exact Row.keep0 (by assumption) hK) (by first | omega | (simp; done) | (simp; omega))) ?_
    refine wd_val (fun _ => trivial) rfl rfl (op_load rfl rfl (by first | exact Row.mk_pt (by assumption) (by assumption) | exact Pt.fld (Row.mk_pt (by assumption) (by assumption)) _ (Nat.le_of_ble_eq_true rfl) | exact Row.pt (by assumption) (by assumption) | exact Pt.fld (Row.pt (by assumption) (by assumption)) _ (Nat.le_of_ble_eq_true rfl) | assumption | exact Pt.fld (by assumption) _ (Nat.le_of_ble_eq_true rfl) | exact Row.pt (Row.keep0 (by assumption) hK) (by assumption) | exact Pt.fld (Row.pt (Row.keep0 (by assumption) hK) (by assumption)) _ (Nat.le_of_ble_eq_true rfl) | exact Row.mk_pt (Row.keep0 (by assumption) hK) (by assumption) | exact Pt.fld (Row.mk_pt (Row.keep0 (by assumption) hK) (by assumption)) _ (Nat.le_of_ble_eq_true rfl)) rfl) ?_
    refine wd_val (fun _ => trivial) rfl rfl (op_pure rfl) ?_
    refine wd_val (fun _ => trivial) rfl rfl (op_pure rfl) ?_
    first | refine wd_val (fun _ => trivial) rfl rfl (op_idxF rfl rfl (by first | exact natA_cast _ _ | exact natA_succ _ _ | exact natA_toNat (by omega) | rfl) rfl rfl rfl rfl (by first | assumption | exact Row.keep0 (by assumption) hK) (by first | omega | (simp; done) | (simp; omega))) ?_ | refine wd_val (fun _ => trivial) rfl rfl (op_idx rfl rfl (by first | exact natA_cast _ _ | exact natA_succ _ _ | exact natA_toNat (by omega) | rfl) rfl rfl rfl rfl (by first | assumption | exact Row.keep0 (by assumption) hK) (by first | omega | (simp; done) | (simp; omega))) ?_
    refine wd_val (fun _ => trivial) rfl rfl (op_load rfl rfl (by first | exact Row.mk_pt (by assumption) (by assumption) | exact Pt.fld (Row.mk_pt (by assumption) (by assumption)) _ (Nat.le_of_ble_eq_true rfl) | exact Row.pt (by assumption) (by assumption) | exact Pt.fld (Row.pt (by assumption) (by assumption)) _ (Nat.le_of_ble_eq_true rfl) | assumption | exact Pt.fld (by assumption) _ (Nat.le_of_ble_eq_true rfl) | exact Row.pt (Row.keep0 (by assumption) hK) (by assumption) | exact Pt.fld (Row.pt (Row.keep0 (by assumption) hK) (by assumption)) _ (Nat.le_of_ble_eq_true rfl) | exact Row.mk_pt (Row.keep0 (by assumption) hK) (by assumption) | exact Pt.fld (Row.mk_pt (Row.keep0 (by assumption) hK) (by assumption)) _ (Nat.le_of_ble_eq_true rfl)) rfl) ?_
    refine wd_val (fun _ => trivial) rfl rfl (op_pure rfl) ?_
    refine wd_nil ?_
    refine then_n ?_
    refine wc_condT rfl (fun h25 => ?_) (fun h25 => ?_)
    · simp [ba_refl] at h25
    skip
    refine wc_skip ?_
    refine out_n ?_
    refine then_n ?_
    refine wc_region ?_
    refine w_val rfl rfl (op_pure rfl) ?_
    refine w_val rfl rfl (op_add rfl rfl (by unfold In64; omega)) ?_
    refine w_val rfl rfl (op_pure rfl) ?_
    refine w_nil ?_
    exact round_n _ _ (by omega) (Sub.cons rfl (Sub.cons rfl (Sub.cons rfl (Sub.nil _)))) ⟨i + 1, rfl, by omega, rfl, rfl⟩
  simp at h14
  refine wc_exit ?_
  repeat first | refine then_x ?_ | refine round_x ?_ | refine cut_x ?_ | refine out_x' (by decide) ?_
  refine out_x ?_
  refine then_n ?_
  repeat refine wc_seq ?_
  refine wc_region ?_
  refine w_val rfl rfl (op_pure rfl) ?_
  refine w_nil ?_
  refine then_n ?_
  refine wc_ret ?_
  repeat first | refine then_r ?_ | refine out_r ?_ | refine round_r ?_ | refine cut_r ?_
  exact ⟨_, rfl, rfl, rfl⟩
set_option maxRecDepth 10000 in
theorem strings_same {s : St} {a b : AV} {xs : List ByteArray} (hl : xs.length ≤ 2097152) (ha : Row s.h 1 a (xs.map sC)) (hb : Row s.h 1 b (xs.map sC)) :
    CallS Try.prog Tt 93 [a, b] s (fun v s' => s' = s ∧ v = .bool true) := by
  refine call_of (fn := Try.f93) (nt := 26) Try.func93 rfl rfl ?_
  repeat refine wc_seq ?_
  refine wc_region ?_
  refine w_val rfl rfl (op_pure rfl) ?_
  refine w_nil ?_
  refine then_n ?_
  repeat refine wc_seq ?_
  refine wc_region ?_
  refine w_val rfl rfl (op_pure rfl) ?_
  refine w_val rfl rfl (op_len rfl rfl rfl rfl rfl (by first | assumption | exact Row.slenF (by assumption) | exact Row.slen (by assumption) | rfl)) ?_
  refine w_val rfl rfl (op_pure rfl) ?_
  refine w_val rfl rfl (op_len rfl rfl rfl rfl rfl (by first | assumption | exact Row.slenF (by assumption) | exact Row.slen (by assumption) | rfl)) ?_
  refine w_val rfl rfl (op_pure rfl) ?_
  refine w_nil ?_
  refine then_n ?_
  repeat refine wc_seq ?_
  refine wc_condT rfl (fun h10 => ?_) (fun h10 => ?_)
  · simp at h10
  skip
  refine wc_skip ?_
  refine then_n ?_
  repeat refine wc_seq ?_
  refine wc_region ?_
  refine w_val rfl rfl (op_pure rfl) ?_
  refine w_nil ?_
  refine then_n ?_
  repeat refine wc_seq ?_
  refine wc_block ?_
  refine wc_loop_at (fun j m s' => ∃ i : Nat, j = xs.length - i ∧ i ≤ xs.length ∧ s' = s ∧ m = [(0, a), (1, b), (5, .int .i64 (i : Nat))]) xs.length
    [(0, a), (1, b), (5, .int .i64 ((0 : Nat) : Int))] (Sub.cons rfl (Sub.cons rfl (Sub.cons rfl (Sub.nil _)))) ⟨0, by simp, by simp, rfl, rfl⟩ ?_
  rintro j m sX ⟨i, rfl, hi, eX, rfl⟩
  obtain rfl := eX.symm
  repeat refine wc_seq ?_
  refine wc_region ?_
  refine w_val rfl rfl (op_pure rfl) ?_
  refine w_val rfl rfl (op_pure rfl) ?_
  refine w_val rfl rfl (op_len rfl rfl rfl rfl rfl (by first | assumption | exact Row.slenF (by assumption) | exact Row.slen (by assumption) | rfl)) ?_
  refine w_val rfl rfl (op_pure rfl) ?_
  refine w_nil ?_
  refine then_n ?_
  repeat refine wc_seq ?_
  refine wc_condT rfl (fun h14 => ?_) (fun h14 => ?_)
  · simp at h14
    refine wc_skip ?_
    refine then_n ?_
    repeat refine wc_seq ?_
    refine wc_block ?_
    repeat refine wc_seq ?_
    obtain ⟨x, hx⟩ : ∃ x, xs[i]? = some x := ⟨_, List.getElem?_eq_getElem h14⟩
    refine wc_draw (fun _ => True) (by kernel_rfl) rfl ?_
    refine wd_val (fun _ => trivial) rfl rfl (op_pure rfl) ?_
    refine wd_val (fun _ => trivial) rfl rfl (op_pure rfl) ?_
    first | refine wd_val (fun _ => trivial) rfl rfl (op_idxF rfl rfl (by first | exact natA_cast _ _ | exact natA_succ _ _ | exact natA_toNat (by omega) | rfl) rfl rfl rfl rfl (by first | assumption | exact Row.keep0 (by assumption) hK) (by first | omega | (simp; done) | (simp; omega))) ?_ | refine wd_val (fun _ => trivial) rfl rfl (op_idx rfl rfl (by first | exact natA_cast _ _ | exact natA_succ _ _ | exact natA_toNat (by omega) | rfl) rfl rfl rfl rfl (by first | assumption | exact Row.keep0 (by assumption) hK) (by first | omega | (simp; done) | (simp; omega))) ?_
    refine wd_val (fun _ => trivial) rfl rfl (op_load rfl rfl (by first | exact Row.mk_pt (by assumption) (by assumption) | exact Pt.fld (Row.mk_pt (by assumption) (by assumption)) _ (Nat.le_of_ble_eq_true rfl) | exact Row.pt (by assumption) (by assumption) | exact Pt.fld (Row.pt (by assumption) (by assumption)) _ (Nat.le_of_ble_eq_true rfl) | assumption | exact Pt.fld (by assumption) _ (Nat.le_of_ble_eq_true rfl) | exact Row.pt (Row.keep0 (by assumption) hK) (by assumption) | exact Pt.fld (Row.pt (Row.keep0 (by assumption) hK) (by assumption)) _ (Nat.le_of_ble_eq_true rfl) | exact Row.mk_pt (Row.keep0 (by assumption) hK) (by assumption) | exact Pt.fld (Row.mk_pt (Row.keep0 (by assumption) hK) (by assumption)) _ (Nat.le_of_ble_eq_true rfl)) rfl) ?_
    refine wd_val (fun _ => trivial) rfl rfl (op_pure rfl) ?_
    refine wd_val (fun _ => trivial) rfl rfl (op_pure rfl) ?_
    first | refine wd_val (fun _ => trivial) rfl rfl (op_idxF rfl rfl (by first | exact natA_cast _ _ | exact natA_succ _ _ | exact natA_toNat (by omega) | rfl) rfl rfl rfl rfl (by first | assumption | exact Row.keep0 (by assumption) hK) (by first | omega | (simp; done) | (simp; omega))) ?_ | refine wd_val (fun _ => trivial) rfl rfl (op_idx rfl rfl (by first | exact natA_cast _ _ | exact natA_succ _ _ | exact natA_toNat (by omega) | rfl) rfl rfl rfl rfl (by first | assumption | exact Row.keep0 (by assumption) hK) (by first | omega | (simp; done) | (simp; omega))) ?_
    refine wd_val (fun _ => trivial) rfl rfl (op_load rfl rfl (by first | exact Row.mk_pt (by assumption) (by assumption) | exact Pt.fld (Row.mk_pt (by assumption) (by assumption)) _ (Nat.le_of_ble_eq_true rfl) | exact Row.pt (by assumption) (by assumption) | exact Pt.fld (Row.pt (by assumption) (by assumption)) _ (Nat.le_of_ble_eq_true rfl) | assumption | exact Pt.fld (by assumption) _ (Nat.le_of_ble_eq_true rfl) | exact Row.pt (Row.keep0 (by assumption) hK) (by assumption) | exact Pt.fld (Row.pt (Row.keep0 (by assumption) hK) (by assumption)) _ (Nat.le_of_ble_eq_true rfl) | exact Row.mk_pt (Row.keep0 (by assumption) hK) (by assumption) | exact Pt.fld (Row.mk_pt (Row.keep0 (by assumption) hK) (by assumption)) _ (Nat.le_of_ble_eq_true rfl)) rfl) ?_
    refine wd_val (fun _ => trivial) rfl rfl (op_pure rfl) ?_
    refine wd_nil ?_
    refine then_n ?_
    refine wc_condT rfl (fun h25 => ?_) (fun h25 => ?_)
    · simp [ba_refl] at h25
    skip
    refine wc_skip ?_
    refine out_n ?_
    refine then_n ?_
    refine wc_region ?_
    refine w_val rfl rfl (op_pure rfl) ?_
    refine w_val rfl rfl (op_add rfl rfl (by unfold In64; omega)) ?_
    refine w_val rfl rfl (op_pure rfl) ?_
    refine w_nil ?_
    exact round_n _ _ (by omega) (Sub.cons rfl (Sub.cons rfl (Sub.cons rfl (Sub.nil _)))) ⟨i + 1, rfl, by omega, rfl, rfl⟩
  simp at h14
  refine wc_exit ?_
  repeat first | refine then_x ?_ | refine round_x ?_ | refine cut_x ?_ | refine out_x' (by decide) ?_
  refine out_x ?_
  refine then_n ?_
  repeat refine wc_seq ?_
  refine wc_region ?_
  refine w_val rfl rfl (op_pure rfl) ?_
  refine w_nil ?_
  refine then_n ?_
  refine wc_ret ?_
  repeat first | refine then_r ?_ | refine out_r ?_ | refine round_r ?_ | refine cut_r ?_
  exact ⟨_, rfl, rfl, rfl⟩
set_option maxRecDepth 10000 in
theorem terms_same {s : St} {a b : AV} {xs : List TermL} (hl : xs.length ≤ 2097152) (ha : Row s.h 3 a (xs.map tC)) (hb : Row s.h 3 b (xs.map tC)) :
    CallS Try.prog Tt 95 [a, b] s (fun v s' => s' = s ∧ v = .bool true) := by
  refine call_of (fn := Try.f95) (nt := 26) Try.func95 rfl rfl ?_
  repeat refine wc_seq ?_
  refine wc_region ?_
  refine w_val rfl rfl (op_pure rfl) ?_
  refine w_nil ?_
  refine then_n ?_
  repeat refine wc_seq ?_
  refine wc_region ?_
  refine w_val rfl rfl (op_pure rfl) ?_
  refine w_val rfl rfl (op_len rfl rfl rfl rfl rfl (by first | assumption | exact Row.slenF (by assumption) | exact Row.slen (by assumption) | rfl)) ?_
  refine w_val rfl rfl (op_pure rfl) ?_
  refine w_val rfl rfl (op_len rfl rfl rfl rfl rfl (by first | assumption | exact Row.slenF (by assumption) | exact Row.slen (by assumption) | rfl)) ?_
  refine w_val rfl rfl (op_pure rfl) ?_
  refine w_nil ?_
  refine then_n ?_
  repeat refine wc_seq ?_
  refine wc_condT rfl (fun h10 => ?_) (fun h10 => ?_)
  · simp at h10
  skip
  refine wc_skip ?_
  refine then_n ?_
  repeat refine wc_seq ?_
  refine wc_region ?_
  refine w_val rfl rfl (op_pure rfl) ?_
  refine w_nil ?_
  refine then_n ?_
  repeat refine wc_seq ?_
  refine wc_block ?_
  refine wc_loop_at (fun j m s' => ∃ i : Nat, j = xs.length - i ∧ i ≤ xs.length ∧ s' = s ∧ m = [(0, a), (1, b), (5, .int .i64 (i : Nat))]) xs.length
    [(0, a), (1, b), (5, .int .i64 ((0 : Nat) : Int))] (Sub.cons rfl (Sub.cons rfl (Sub.cons rfl (Sub.nil _)))) ⟨0, by simp, by simp, rfl, rfl⟩ ?_
  rintro j m sX ⟨i, rfl, hi, eX, rfl⟩
  obtain rfl := eX.symm
  repeat refine wc_seq ?_
  refine wc_region ?_
  refine w_val rfl rfl (op_pure rfl) ?_
  refine w_val rfl rfl (op_pure rfl) ?_
  refine w_val rfl rfl (op_len rfl rfl rfl rfl rfl (by first | assumption | exact Row.slenF (by assumption) | exact Row.slen (by assumption) | rfl)) ?_
  refine w_val rfl rfl (op_pure rfl) ?_
  refine w_nil ?_
  refine then_n ?_
  repeat refine wc_seq ?_
  refine wc_condT rfl (fun h14 => ?_) (fun h14 => ?_)
  · simp at h14
    refine wc_skip ?_
    refine then_n ?_
    repeat refine wc_seq ?_
    refine wc_block ?_
    repeat refine wc_seq ?_
    obtain ⟨x, hx⟩ : ∃ x, xs[i]? = some x := ⟨_, List.getElem?_eq_getElem h14⟩
    refine wc_draw (fun _ => True) (by kernel_rfl) rfl ?_
    refine wd_val (fun _ => trivial) rfl rfl (op_pure rfl) ?_
    refine wd_val (fun _ => trivial) rfl rfl (op_pure rfl) ?_
    first | refine wd_val (fun _ => trivial) rfl rfl (op_idxF rfl rfl (by first | exact natA_cast _ _ | exact natA_succ _ _ | exact natA_toNat (by omega) | rfl) rfl rfl rfl rfl (by first | assumption | exact Row.keep0 (by assumption) hK) (by first | omega | (simp; done) | (simp; omega))) ?_ | refine wd_val (fun _ => trivial) rfl rfl (op_idx rfl rfl (by first | exact natA_cast _ _ | exact natA_succ _ _ | exact natA_toNat (by omega) | rfl) rfl rfl rfl rfl (by first | assumption | exact Row.keep0 (by assumption) hK) (by first | omega | (simp; done) | (simp; omega))) ?_
    refine wd_val (fun _ => trivial) rfl rfl (op_load rfl rfl (by first | exact Row.mk_pt (by assumption) (by assumption) | exact Pt.fld (Row.mk_pt (by assumption) (by assumption)) _ (Nat.le_of_ble_eq_true rfl) | exact Row.pt (by assumption) (by assumption) | exact Pt.fld (Row.pt (by assumption) (by assumption)) _ (Nat.le_of_ble_eq_true rfl) | assumption | exact Pt.fld (by assumption) _ (Nat.le_of_ble_eq_true rfl) | exact Row.pt (Row.keep0 (by assumption) hK) (by assumption) | exact Pt.fld (Row.pt (Row.keep0 (by assumption) hK) (by assumption)) _ (Nat.le_of_ble_eq_true rfl) | exact Row.mk_pt (Row.keep0 (by assumption) hK) (by assumption) | exact Pt.fld (Row.mk_pt (Row.keep0 (by assumption) hK) (by assumption)) _ (Nat.le_of_ble_eq_true rfl)) rfl) ?_
    refine wd_val (fun _ => trivial) rfl rfl (op_pure rfl) ?_
    refine wd_val (fun _ => trivial) rfl rfl (op_pure rfl) ?_
    first | refine wd_val (fun _ => trivial) rfl rfl (op_idxF rfl rfl (by first | exact natA_cast _ _ | exact natA_succ _ _ | exact natA_toNat (by omega) | rfl) rfl rfl rfl rfl (by first | assumption | exact Row.keep0 (by assumption) hK) (by first | omega | (simp; done) | (simp; omega))) ?_ | refine wd_val (fun _ => trivial) rfl rfl (op_idx rfl rfl (by first | exact natA_cast _ _ | exact natA_succ _ _ | exact natA_toNat (by omega) | rfl) rfl rfl rfl rfl (by first | assumption | exact Row.keep0 (by assumption) hK) (by first | omega | (simp; done) | (simp; omega))) ?_
    refine wd_val (fun _ => trivial) rfl rfl (op_load rfl rfl (by first | exact Row.mk_pt (by assumption) (by assumption) | exact Pt.fld (Row.mk_pt (by assumption) (by assumption)) _ (Nat.le_of_ble_eq_true rfl) | exact Row.pt (by assumption) (by assumption) | exact Pt.fld (Row.pt (by assumption) (by assumption)) _ (Nat.le_of_ble_eq_true rfl) | assumption | exact Pt.fld (by assumption) _ (Nat.le_of_ble_eq_true rfl) | exact Row.pt (Row.keep0 (by assumption) hK) (by assumption) | exact Pt.fld (Row.pt (Row.keep0 (by assumption) hK) (by assumption)) _ (Nat.le_of_ble_eq_true rfl) | exact Row.mk_pt (Row.keep0 (by assumption) hK) (by assumption) | exact Pt.fld (Row.mk_pt (Row.keep0 (by assumption) hK) (by assumption)) _ (Nat.le_of_ble_eq_true rfl)) rfl) ?_
    refine wd_val (fun _ => trivial) rfl rfl (op_pure rfl) ?_
    refine wd_nil ?_
    refine then_n ?_
    refine wc_condT rfl (fun h25 => ?_) (fun h25 => ?_)
    · simp [ba_refl] at h25
    skip
    refine wc_skip ?_
    refine out_n ?_
    refine then_n ?_
    refine wc_region ?_
    refine w_val rfl rfl (op_pure rfl) ?_
    refine w_val rfl rfl (op_add rfl rfl (by unfold In64; omega)) ?_
    refine w_val rfl rfl (op_pure rfl) ?_
    refine w_nil ?_
    exact round_n _ _ (by omega) (Sub.cons rfl (Sub.cons rfl (Sub.cons rfl (Sub.nil _)))) ⟨i + 1, rfl, by omega, rfl, rfl⟩
  simp at h14
  refine wc_exit ?_
  repeat first | refine then_x ?_ | refine round_x ?_ | refine cut_x ?_ | refine out_x' (by decide) ?_
  refine out_x ?_
  refine then_n ?_
  repeat refine wc_seq ?_
  refine wc_region ?_
  refine w_val rfl rfl (op_pure rfl) ?_
  refine w_nil ?_
  refine then_n ?_
  refine wc_ret ?_
  repeat first | refine then_r ?_ | refine out_r ?_ | refine round_r ?_ | refine cut_r ?_
  exact ⟨_, rfl, rfl, rfl⟩
set_option maxRecDepth 10000 in
theorem exprs_same {s : St} {a b : AV} {xs : List (List TermL)} (hl : xs.length ≤ 2097152) (hll : ∀ ts ∈ xs, ts.length ≤ 2097152) (ha : RowR s.h 1 TermsR a xs) (hb : RowR s.h 1 TermsR b xs) :
    CallS Try.prog Tt 94 [a, b] s (fun v s' => s' = s ∧ v = .bool true) := by
  obtain ⟨csa, ha, hla, hA⟩ := ha
  obtain ⟨csb, hb, hlb, hB⟩ := hb
  have hsa : a.slen = some xs.length := ha.slen.trans (congrArg some hla)
  have hsb : b.slen = some xs.length := hb.slen.trans (congrArg some hlb)
  refine call_of (fn := Try.f94) (nt := 27) Try.func94 rfl rfl ?_
  repeat refine wc_seq ?_
  refine wc_region ?_
  refine w_val rfl rfl (op_pure rfl) ?_
  refine w_nil ?_
  refine then_n ?_
  repeat refine wc_seq ?_
  refine wc_region ?_
  refine w_val rfl rfl (op_pure rfl) ?_
  refine w_val rfl rfl (op_len rfl rfl rfl rfl rfl (by first | assumption | exact Row.slenF (by assumption) | exact Row.slen (by assumption) | rfl)) ?_
  refine w_val rfl rfl (op_pure rfl) ?_
  refine w_val rfl rfl (op_len rfl rfl rfl rfl rfl (by first | assumption | exact Row.slenF (by assumption) | exact Row.slen (by assumption) | rfl)) ?_
  refine w_val rfl rfl (op_pure rfl) ?_
  refine w_nil ?_
  refine then_n ?_
  repeat refine wc_seq ?_
  refine wc_condT rfl (fun h10 => ?_) (fun h10 => ?_)
  · simp at h10
  skip
  refine wc_skip ?_
  refine then_n ?_
  repeat refine wc_seq ?_
  refine wc_region ?_
  refine w_val rfl rfl (op_pure rfl) ?_
  refine w_nil ?_
  refine then_n ?_
  repeat refine wc_seq ?_
  refine wc_block ?_
  refine wc_loop_at (fun j m s' => ∃ i : Nat, j = xs.length - i ∧ i ≤ xs.length ∧ s' = s ∧ m = [(0, a), (1, b), (5, .int .i64 (i : Nat))]) xs.length
    [(0, a), (1, b), (5, .int .i64 ((0 : Nat) : Int))] (Sub.cons rfl (Sub.cons rfl (Sub.cons rfl (Sub.nil _)))) ⟨0, by simp, by simp, rfl, rfl⟩ ?_
  rintro j m sX ⟨i, rfl, hi, eX, rfl⟩
  obtain rfl := eX.symm
  repeat refine wc_seq ?_
  refine wc_region ?_
  refine w_val rfl rfl (op_pure rfl) ?_
  refine w_val rfl rfl (op_pure rfl) ?_
  refine w_val rfl rfl (op_len rfl rfl rfl rfl rfl (by first | assumption | exact Row.slenF (by assumption) | exact Row.slen (by assumption) | rfl)) ?_
  refine w_val rfl rfl (op_pure rfl) ?_
  refine w_nil ?_
  refine then_n ?_
  repeat refine wc_seq ?_
  refine wc_condT rfl (fun h14 => ?_) (fun h14 => ?_)
  · simp at h14
    refine wc_skip ?_
    refine then_n ?_
    repeat refine wc_seq ?_
    refine wc_block ?_
    repeat refine wc_seq ?_
    obtain ⟨x, hx⟩ : ∃ x, xs[i]? = some x := ⟨_, List.getElem?_eq_getElem h14⟩
    obtain ⟨ca, hca⟩ : ∃ c, csa[i]? = some c := ⟨_, List.getElem?_eq_getElem (by omega)⟩
    obtain ⟨cb, hcb⟩ : ∃ c, csb[i]? = some c := ⟨_, List.getElem?_eq_getElem (by omega)⟩
    obtain ⟨va, rfl, hva⟩ := hA i x ca hx hca
    obtain ⟨vb, rfl, hvb⟩ := hB i x cb hx hcb
    have hxl := hll x (List.mem_of_getElem? hx)
    refine wc_draw (fun _ => True) (by kernel_rfl) rfl ?_
    refine wd_val (fun _ => trivial) rfl rfl (op_pure rfl) ?_
    refine wd_val (fun _ => trivial) rfl rfl (op_pure rfl) ?_
    first | refine wd_val (fun _ => trivial) rfl rfl (op_idxF rfl rfl (by first | exact natA_cast _ _ | exact natA_succ _ _ | exact natA_toNat (by omega) | rfl) rfl rfl rfl rfl (by first | assumption | exact Row.keep0 (by assumption) hK) (by first | omega | (simp; done) | (simp; omega))) ?_ | refine wd_val (fun _ => trivial) rfl rfl (op_idx rfl rfl (by first | exact natA_cast _ _ | exact natA_succ _ _ | exact natA_toNat (by omega) | rfl) rfl rfl rfl rfl (by first | assumption | exact Row.keep0 (by assumption) hK) (by first | omega | (simp; done) | (simp; omega))) ?_
    refine wd_val (fun _ => trivial) rfl rfl (op_load rfl rfl (by first | exact Row.mk_pt (by assumption) (by assumption) | exact Pt.fld (Row.mk_pt (by assumption) (by assumption)) _ (Nat.le_of_ble_eq_true rfl) | exact Row.pt (by assumption) (by assumption) | exact Pt.fld (Row.pt (by assumption) (by assumption)) _ (Nat.le_of_ble_eq_true rfl) | assumption | exact Pt.fld (by assumption) _ (Nat.le_of_ble_eq_true rfl) | exact Row.pt (Row.keep0 (by assumption) hK) (by assumption) | exact Pt.fld (Row.pt (Row.keep0 (by assumption) hK) (by assumption)) _ (Nat.le_of_ble_eq_true rfl) | exact Row.mk_pt (Row.keep0 (by assumption) hK) (by assumption) | exact Pt.fld (Row.mk_pt (Row.keep0 (by assumption) hK) (by assumption)) _ (Nat.le_of_ble_eq_true rfl)) rfl) ?_
    refine wd_val (fun _ => trivial) rfl rfl (op_pure rfl) ?_
    refine wd_val (fun _ => trivial) rfl rfl (op_pure rfl) ?_
    first | refine wd_val (fun _ => trivial) rfl rfl (op_idxF rfl rfl (by first | exact natA_cast _ _ | exact natA_succ _ _ | exact natA_toNat (by omega) | rfl) rfl rfl rfl rfl (by first | assumption | exact Row.keep0 (by assumption) hK) (by first | omega | (simp; done) | (simp; omega))) ?_ | refine wd_val (fun _ => trivial) rfl rfl (op_idx rfl rfl (by first | exact natA_cast _ _ | exact natA_succ _ _ | exact natA_toNat (by omega) | rfl) rfl rfl rfl rfl (by first | assumption | exact Row.keep0 (by assumption) hK) (by first | omega | (simp; done) | (simp; omega))) ?_
    refine wd_val (fun _ => trivial) rfl rfl (op_load rfl rfl (by first | exact Row.mk_pt (by assumption) (by assumption) | exact Pt.fld (Row.mk_pt (by assumption) (by assumption)) _ (Nat.le_of_ble_eq_true rfl) | exact Row.pt (by assumption) (by assumption) | exact Pt.fld (Row.pt (by assumption) (by assumption)) _ (Nat.le_of_ble_eq_true rfl) | assumption | exact Pt.fld (by assumption) _ (Nat.le_of_ble_eq_true rfl) | exact Row.pt (Row.keep0 (by assumption) hK) (by assumption) | exact Pt.fld (Row.pt (Row.keep0 (by assumption) hK) (by assumption)) _ (Nat.le_of_ble_eq_true rfl) | exact Row.mk_pt (Row.keep0 (by assumption) hK) (by assumption) | exact Pt.fld (Row.mk_pt (Row.keep0 (by assumption) hK) (by assumption)) _ (Nat.le_of_ble_eq_true rfl)) rfl) ?_
    refine wd_call (fun _ => trivial) rfl rfl (op_call rfl rfl rfl rfl) (terms_same hxl hva hvb) ?_
    rintro _ rfl
    refine wd_val (fun _ => trivial) rfl rfl (op_pure rfl) ?_
    refine wd_nil ?_
    refine then_n ?_
    refine wc_cond_f rfl ?_
    refine wc_skip ?_
    refine out_n ?_
    refine then_n ?_
    refine wc_region ?_
    refine w_val rfl rfl (op_pure rfl) ?_
    refine w_val rfl rfl (op_add rfl rfl (by unfold In64; omega)) ?_
    refine w_val rfl rfl (op_pure rfl) ?_
    refine w_nil ?_
    exact round_n _ _ (by omega) (Sub.cons rfl (Sub.cons rfl (Sub.cons rfl (Sub.nil _)))) ⟨i + 1, rfl, by omega, rfl, rfl⟩
  skip
  refine wc_exit ?_
  repeat first | refine then_x ?_ | refine round_x ?_ | refine cut_x ?_ | refine out_x' (by decide) ?_
  refine out_x ?_
  refine then_n ?_
  repeat refine wc_seq ?_
  refine wc_region ?_
  refine w_val rfl rfl (op_pure rfl) ?_
  refine w_nil ?_
  refine then_n ?_
  refine wc_ret ?_
  repeat first | refine then_r ?_ | refine out_r ?_ | refine round_r ?_ | refine cut_r ?_
  exact ⟨_, rfl, rfl, rfl⟩
-- unused hook: ct26.t
-- unused hook: ct26.f
end Go.Ab
