/- Rows that are lent. -/
import Derived.Test.YtdpdlmjlahehoaaH6
import Derived.Test.YtdpdlmjlahehoaaGT
namespace Go.Ab
open Go.Proofs
def iC (n : Int) : List AV := [.int .i64 n]
def sC (b : ByteArray) : List AV := [.str b]
structure TermL where
  kind : Int
  value : Int
  name : ByteArray
def tC (t : TermL) : List AV := [.int .i64 t.kind, .int .i64 t.value, .str t.name]
def markB : ByteArray := ⟨#[109, 97, 114, 107]⟩
set_option maxRecDepth 10000 in
theorem lentStrings_ok {s : St} {v : AV} {xs : List ByteArray} (hok : s.Ok) (hl : xs.length ≤ 2097152) (hv : Row s.h 1 v (xs.map sC)) :
    CallS Try.prog Tt 48 [v] s (fun r s' => Keep [] s s' ∧ LentF s'.h (Fr s.ctr s'.ctr []) 1 sC [.str markB] r xs) := by
  refine call_of (fn := Try.f48) (nt := 14) Try.func48 rfl rfl ?_
  repeat refine wc_seq ?_
  refine wc_region ?_
  refine w_val rfl rfl (op_pure rfl) ?_
  refine w_nil ?_
  refine then_n ?_
  repeat refine wc_seq ?_
  refine wc_region ?_
  refine w_val rfl rfl (op_pure rfl) ?_
  refine w_nil ?_
  refine then_n ?_
  repeat refine wc_seq ?_
  refine wc_region ?_
  refine w_val rfl rfl (op_pure rfl) ?_
  refine w_val rfl rfl (op_pure rfl) ?_
  refine w_append (cs := []) rfl rfl rfl rfl rfl rfl rfl rfl rfl (by decide) hok (row_nils _ _) (fun _ => rfl) hv (by simp only [List.length_map, List.length_nil, List.length_append, List.length_cons, maxBytes]; omega) (by simp only [List.length_map, List.length_nil, List.length_append, List.length_cons, maxBytes]; omega) ?_
  rintro v1 s1 hv1 hk1 - hg1 hn1 -
  rw [List.nil_append] at hv1
  refine w_val rfl rfl (op_pure rfl) ?_
  refine w_nil ?_
  refine then_n ?_
  repeat refine wc_seq ?_
  refine wc_region ?_
  refine w_val rfl rfl (op_pure rfl) ?_
  refine w_lit1 (c := [.str markB]) rfl rfl rfl rfl rfl rfl rfl (by decide) (by decide) rfl rfl rfl hk1.ok ?_
  rintro v2 s2 hv2 hk2 - -
  have hv1' := hv1.keep hk2 (fun _ _ h => by cases h)
  refine w_append rfl rfl rfl rfl rfl rfl rfl rfl rfl (by decide) hk2.ok hv1' hn1 hv2 (by simp only [List.length_map, List.length_nil, List.length_append, List.length_cons, maxBytes]; omega) (by simp only [List.length_map, List.length_nil, List.length_append, List.length_cons, maxBytes]; omega) ?_
  rintro v3 s3 hv3 hk3 - hg3 - hne3
  refine w_val rfl rfl (op_pure rfl) ?_
  refine w_nil ?_
  refine then_n ?_
  repeat refine wc_seq ?_
  refine wc_region ?_
  refine w_val rfl rfl (op_pure rfl) ?_
  refine w_val rfl rfl (op_pure rfl) ?_
  refine w_val rfl rfl (op_len rfl rfl rfl rfl rfl (by first | assumption | exact Row.slenF (by assumption) | exact Row.slen (by assumption) | rfl)) ?_
  refine w_val rfl rfl (op_cut (l := none) (h := some xs.length) (l' := 0) (h' := xs.length) rfl rfl (optY_some rfl (natA_cast _ _)) rfl rfl rfl rfl hv3 rfl rfl (Nat.zero_le _) (by simp)) ?_
  refine w_val rfl rfl (op_pure rfl) ?_
  refine w_nil ?_
  refine then_n ?_
  refine wc_ret ?_
  repeat first | refine then_r ?_ | refine out_r ?_ | refine round_r ?_ | refine cut_r ?_
  exact ⟨_, rfl, (hk1.two hk2).fresh hk3 (by
      rcases hg1 with e | e
      · rw [e]; exact fun g hg => by cases hg
      · rw [e]; exact mem_none hok), ⟨v3, rfl, hne3 (by simp), hv3⟩, by
      show ∀ g ∈ (cutA v3 0 xs.length).gs, _
      rw [cutA_gs]
      intro g hg
      refine ⟨?_, hv3.lt hk3.ok g hg, fun h => by cases h⟩
      have := hk1.ctr
      have := hk2.ctr
      rcases hg3 with e | e
      · rw [e] at hg
        rcases hg1 with e | e
        · rw [e] at hg; cases hg
        · rw [e] at hg; rw [List.mem_singleton.1 hg]; exact Nat.le_refl _
      · rw [e] at hg; rw [List.mem_singleton.1 hg]; omega⟩
set_option maxRecDepth 10000 in
theorem lentTerms_ok {s : St} {v : AV} {xs : List TermL} (hok : s.Ok) (hl : xs.length ≤ 2097152) (hv : Row s.h 3 v (xs.map tC)) :
    CallS Try.prog Tt 49 [v] s (fun r s' => Keep [] s s' ∧ LentF s'.h (Fr s.ctr s'.ctr []) 3 tC [.int .i64 (-71), .int .i64 0, .str ByteArray.empty] r xs) := by
  refine call_of (fn := Try.f49) (nt := 15) Try.func49 rfl rfl ?_
  repeat refine wc_seq ?_
  refine wc_region ?_
  refine w_val rfl rfl (op_pure rfl) ?_
  refine w_nil ?_
  refine then_n ?_
  repeat refine wc_seq ?_
  refine wc_region ?_
  refine w_val rfl rfl (op_pure rfl) ?_
  refine w_nil ?_
  refine then_n ?_
  repeat refine wc_seq ?_
  refine wc_region ?_
  refine w_val rfl rfl (op_pure rfl) ?_
  refine w_val rfl rfl (op_pure rfl) ?_
  refine w_append (cs := []) rfl rfl rfl rfl rfl rfl rfl rfl rfl (by decide) hok (row_nils _ _) (fun _ => rfl) hv (by simp only [List.length_map, List.length_nil, List.length_append, List.length_cons, maxBytes]; omega) (by simp only [List.length_map, List.length_nil, List.length_append, List.length_cons, maxBytes]; omega) ?_
  rintro v1 s1 hv1 hk1 - hg1 hn1 -
  rw [List.nil_append] at hv1
  refine w_val rfl rfl (op_pure rfl) ?_
  refine w_nil ?_
  refine then_n ?_
  repeat refine wc_seq ?_
  refine wc_region ?_
  refine w_val rfl rfl (op_pure rfl) ?_
  refine w_val rfl rfl (op_pure rfl) ?_
  refine w_lit1 (c := [.int .i64 (-71), .int .i64 0, .str ByteArray.empty]) rfl rfl rfl rfl rfl rfl rfl (by decide) (by decide) rfl rfl rfl hk1.ok ?_
  rintro v2 s2 hv2 hk2 - -
  have hv1' := hv1.keep hk2 (fun _ _ h => by cases h)
  refine w_append rfl rfl rfl rfl rfl rfl rfl rfl rfl (by decide) hk2.ok hv1' hn1 hv2 (by simp only [List.length_map, List.length_nil, List.length_append, List.length_cons, maxBytes]; omega) (by simp only [List.length_map, List.length_nil, List.length_append, List.length_cons, maxBytes]; omega) ?_
  rintro v3 s3 hv3 hk3 - hg3 - hne3
  refine w_val rfl rfl (op_pure rfl) ?_
  refine w_nil ?_
  refine then_n ?_
  repeat refine wc_seq ?_
  refine wc_region ?_
  refine w_val rfl rfl (op_pure rfl) ?_
  refine w_val rfl rfl (op_pure rfl) ?_
  refine w_val rfl rfl (op_len rfl rfl rfl rfl rfl (by first | assumption | exact Row.slenF (by assumption) | exact Row.slen (by assumption) | rfl)) ?_
  refine w_val rfl rfl (op_cut (l := none) (h := some xs.length) (l' := 0) (h' := xs.length) rfl rfl (optY_some rfl (natA_cast _ _)) rfl rfl rfl rfl hv3 rfl rfl (Nat.zero_le _) (by simp)) ?_
  refine w_val rfl rfl (op_pure rfl) ?_
  refine w_nil ?_
  refine then_n ?_
  refine wc_ret ?_
  repeat first | refine then_r ?_ | refine out_r ?_ | refine round_r ?_ | refine cut_r ?_
  exact ⟨_, rfl, (hk1.two hk2).fresh hk3 (by
      rcases hg1 with e | e
      · rw [e]; exact fun g hg => by cases hg
      · rw [e]; exact mem_none hok), ⟨v3, rfl, hne3 (by simp), hv3⟩, by
      show ∀ g ∈ (cutA v3 0 xs.length).gs, _
      rw [cutA_gs]
      intro g hg
      refine ⟨?_, hv3.lt hk3.ok g hg, fun h => by cases h⟩
      have := hk1.ctr
      have := hk2.ctr
      rcases hg3 with e | e
      · rw [e] at hg
        rcases hg1 with e | e
        · rw [e] at hg; cases hg
        · rw [e] at hg; rw [List.mem_singleton.1 hg]; exact Nat.le_refl _
      · rw [e] at hg; rw [List.mem_singleton.1 hg]; omega⟩
end Go.Ab
