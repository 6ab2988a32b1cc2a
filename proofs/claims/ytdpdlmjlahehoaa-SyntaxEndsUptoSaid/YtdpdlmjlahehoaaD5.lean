/- slices.Repeat of one element. -/
import Derived.Test.YtdpdlmjlahehoaaH7
import Derived.Test.YtdpdlmjlahehoaaD4
namespace Go.Ab
open Go.Proofs
theorem and32 {n : Nat} (h : n < 4294967296) : binA Tt .and 44 (.int .u64 n) (.int .u64 4294967295) = some (.int .u64 n) := by
  have h1 : (BitVec.ofInt 64 (n : Int) &&& BitVec.ofInt 64 4294967295).toNat = n := by
    rw [BitVec.toNat_and, BitVec.ofInt_natCast, BitVec.toNat_ofNat, show (BitVec.ofInt 64 4294967295).toNat = 2 ^ 32 - 1 from by decide, Nat.and_two_pow_sub_one_eq_mod]
    omega
  show some (AV.int .u64 (IntKind.u64.wrap (BitVec.ofInt IntKind.u64.bits (n : Int) &&& BitVec.ofInt IntKind.u64.bits 4294967295).toNat)) = _
  rw [show IntKind.u64.bits = 64 from rfl, h1, wrapU64 (by omega) (by omega)]
theorem shr32 {n : Nat} (h : n < 4294967296) : binA Tt .shr 44 (.int .u64 n) (.int .u64 32) = some (.int .u64 0) := by
  show some (AV.int .u64 ((n : Int).fdiv (2 ^ (min (32 : Int).toNat IntKind.u64.bits)))) = _
  have : ((n : Int).fdiv (2 ^ (min (32 : Int).toNat IntKind.u64.bits))) = 0 := by
    rw [show (2 : Int) ^ (min (32 : Int).toNat IntKind.u64.bits) = 4294967296 from by decide, Int.fdiv_eq_ediv_of_nonneg _ (by omega)]
    omega
  rw [this]
theorem mul1 {n : Nat} (h : n < 4294967296) : binA Tt .mul 44 (.int .u64 1) (.int .u64 n) = some (.int .u64 n) := by
  show some (AV.int .u64 (IntKind.u64.wrap (1 * (n : Int)))) = _
  rw [Int.one_mul, wrapU64 (by omega) (by omega)]
theorem mul0 (n : Nat) : binA Tt .mul 44 (.int .u64 0) (.int .u64 n) = some (.int .u64 0) := by
  show some (AV.int .u64 (IntKind.u64.wrap (0 * (n : Int)))) = _
  rw [Int.zero_mul, wrapU64 (by omega) (by omega)]
set_option maxRecDepth 10000 in
theorem mul64_ok {s : St} {n : Nat} (hn : n < 4294967296) : CallS Try.prog Tt 111 [.int .u64 1, .int .u64 n] s (fun v s' => s' = s ∧ v = .tup [.int .u64 0, .int .u64 n]) := by
  refine call_of (fn := Try.f111) (nt := 51) Try.func111 rfl rfl ?_
  repeat refine wc_seq ?_
  refine wc_region ?_
  refine w_val rfl rfl (op_pure rfl) ?_
  refine w_val rfl rfl (op_pure rfl) ?_
  refine w_nil ?_
  refine then_n ?_
  repeat refine wc_seq ?_
  refine wc_region ?_
  refine w_val rfl rfl (op_pure rfl) ?_
  refine w_val rfl rfl (op_bin rfl rfl (v := (.int .u64 1)) (by kernel_rfl)) ?_
  refine w_val rfl rfl (op_pure rfl) ?_
  refine w_nil ?_
  refine then_n ?_
  repeat refine wc_seq ?_
  refine wc_region ?_
  refine w_val rfl rfl (op_pure rfl) ?_
  refine w_val rfl rfl (op_bin rfl rfl (v := (.int .u64 0)) (by kernel_rfl)) ?_
  refine w_val rfl rfl (op_pure rfl) ?_
  refine w_nil ?_
  refine then_n ?_
  repeat refine wc_seq ?_
  refine wc_region ?_
  refine w_val rfl rfl (op_pure rfl) ?_
  refine w_val rfl rfl (op_bin rfl rfl (v := (.int .u64 n)) (and32 hn)) ?_
  refine w_val rfl rfl (op_pure rfl) ?_
  refine w_nil ?_
  refine then_n ?_
  repeat refine wc_seq ?_
  refine wc_region ?_
  refine w_val rfl rfl (op_pure rfl) ?_
  refine w_val rfl rfl (op_bin rfl rfl (v := (.int .u64 0)) (shr32 hn)) ?_
  refine w_val rfl rfl (op_pure rfl) ?_
  refine w_nil ?_
  refine then_n ?_
  repeat refine wc_seq ?_
  refine wc_region ?_
  refine w_val rfl rfl (op_pure rfl) ?_
  refine w_val rfl rfl (op_pure rfl) ?_
  refine w_val rfl rfl (op_bin rfl rfl (v := (.int .u64 n)) (mul1 hn)) ?_
  refine w_val rfl rfl (op_pure rfl) ?_
  refine w_nil ?_
  refine then_n ?_
  repeat refine wc_seq ?_
  refine wc_region ?_
  refine w_val rfl rfl (op_pure rfl) ?_
  refine w_val rfl rfl (op_pure rfl) ?_
  refine w_val rfl rfl (op_bin rfl rfl (v := (.int .u64 0)) (mul0 n)) ?_
  refine w_val rfl rfl (op_pure rfl) ?_
  refine w_val rfl rfl (op_bin rfl rfl (v := (.int .u64 0)) (shr32 hn)) ?_
  refine w_val rfl rfl (op_bin rfl rfl (v := (.int .u64 0)) (by kernel_rfl)) ?_
  refine w_val rfl rfl (op_pure rfl) ?_
  refine w_nil ?_
  refine then_n ?_
  repeat refine wc_seq ?_
  refine wc_region ?_
  refine w_val rfl rfl (op_pure rfl) ?_
  refine w_val rfl rfl (op_bin rfl rfl (v := (.int .u64 0)) (by kernel_rfl)) ?_
  refine w_val rfl rfl (op_pure rfl) ?_
  refine w_nil ?_
  refine then_n ?_
  repeat refine wc_seq ?_
  refine wc_region ?_
  refine w_val rfl rfl (op_pure rfl) ?_
  refine w_val rfl rfl (op_bin rfl rfl (v := (.int .u64 0)) (by kernel_rfl)) ?_
  refine w_val rfl rfl (op_pure rfl) ?_
  refine w_nil ?_
  refine then_n ?_
  repeat refine wc_seq ?_
  refine wc_region ?_
  refine w_val rfl rfl (op_pure rfl) ?_
  refine w_val rfl rfl (op_pure rfl) ?_
  refine w_val rfl rfl (op_pure rfl) ?_
  refine w_val rfl rfl (op_bin rfl rfl (v := (.int .u64 0)) (by kernel_rfl)) ?_
  refine w_val rfl rfl (op_bin rfl rfl (v := (.int .u64 0)) (by kernel_rfl)) ?_
  refine w_val rfl rfl (op_pure rfl) ?_
  refine w_nil ?_
  refine then_n ?_
  repeat refine wc_seq ?_
  refine wc_region ?_
  refine w_val rfl rfl (op_pure rfl) ?_
  refine w_val rfl rfl (op_pure rfl) ?_
  refine w_val rfl rfl (op_bin rfl rfl (v := (.int .u64 0)) (by kernel_rfl)) ?_
  refine w_val rfl rfl (op_pure rfl) ?_
  refine w_val rfl rfl (op_bin rfl rfl (v := (.int .u64 0)) (by kernel_rfl)) ?_
  refine w_val rfl rfl (op_pure rfl) ?_
  refine w_val rfl rfl (op_bin rfl rfl (v := (.int .u64 0)) (by kernel_rfl)) ?_
  refine w_val rfl rfl (op_bin rfl rfl (v := (.int .u64 0)) (by kernel_rfl)) ?_
  refine w_val rfl rfl (op_pure rfl) ?_
  refine w_nil ?_
  refine then_n ?_
  repeat refine wc_seq ?_
  refine wc_region ?_
  refine w_val rfl rfl (op_pure rfl) ?_
  refine w_val rfl rfl (op_pure rfl) ?_
  refine w_val rfl rfl (op_bin rfl rfl (v := (.int .u64 n)) (mul1 hn)) ?_
  refine w_val rfl rfl (op_pure rfl) ?_
  refine w_nil ?_
  refine then_n ?_
  refine wc_ret ?_
  repeat first | refine then_r ?_ | refine out_r ?_ | refine round_r ?_ | refine cut_r ?_
  exact ⟨_, rfl, rfl, rfl⟩
set_option maxRecDepth 10000 in
theorem mul_ok {s : St} {n : Nat} (hn : n < 4294967296) : CallS Try.prog Tt 92 [.int .u64 1, .int .u64 n] s (fun v s' => s' = s ∧ v = .tup [.int .u64 0, .int .u64 n]) := by
  refine call_of (fn := Try.f92) (nt := 30) Try.func92 rfl rfl ?_
  repeat refine wc_seq ?_
  refine wc_region ?_
  refine w_val rfl rfl (op_pure rfl) ?_
  refine w_val rfl rfl (op_pure rfl) ?_
  refine w_nil ?_
  refine then_n ?_
  repeat refine wc_seq ?_
  refine wc_cond_f rfl ?_
  refine wc_skip ?_
  refine then_n ?_
  repeat refine wc_seq ?_
  refine wc_region ?_
  refine w_val rfl rfl (op_pure rfl) ?_
  refine w_val rfl rfl (op_pure rfl) ?_
  refine w_call rfl rfl (op_call rfl rfl rfl rfl) (mul64_ok hn) ?_
  rintro _ sX ⟨eX, rfl⟩
  obtain rfl := eX.symm
  refine w_val rfl rfl (op_pure rfl) ?_
  refine w_val rfl rfl (op_pure rfl) ?_
  refine w_val rfl rfl (op_pure rfl) ?_
  refine w_val rfl rfl (op_pure rfl) ?_
  refine w_val rfl rfl (op_pure rfl) ?_
  refine w_nil ?_
  refine then_n ?_
  repeat refine wc_seq ?_
  refine wc_region ?_
  refine w_val rfl rfl (op_pure rfl) ?_
  refine w_val rfl rfl (op_pure rfl) ?_
  refine w_val rfl rfl (op_pure rfl) ?_
  refine w_val rfl rfl (op_pure rfl) ?_
  refine w_nil ?_
  refine then_n ?_
  refine wc_ret ?_
  repeat first | refine then_r ?_ | refine out_r ?_ | refine round_r ?_ | refine cut_r ?_
  exact ⟨_, rfl, rfl, rfl⟩
set_option maxRecDepth 10000 in
theorem repeat_ok {s : St} {x : AV} {n : Nat} (hok : s.Ok) (hn : n < 4294967296) (hx : Row s.h 1 x [[.int .i64 (-1)]]) :
    CallS Try.prog Tt 50 [x, .int .i64 n] s (fun v s' => Keep [] s s' ∧ s'.ctr = s.ctr + 1 ∧ v.gs = [s.ctr] ∧ Row s'.h 1 v (List.replicate n [.int .i64 (-1)])) := by
  refine call_of (fn := Try.f50) (nt := 48) Try.func50 rfl rfl ?_
  repeat refine wc_seq ?_
  refine wc_region ?_
  refine w_val rfl rfl (op_pure rfl) ?_
  refine w_nil ?_
  refine then_n ?_
  repeat refine wc_seq ?_
  refine wc_region ?_
  refine w_val rfl rfl (op_pure rfl) ?_
  refine w_val rfl rfl (op_pure rfl) ?_
  refine w_nil ?_
  refine then_n ?_
  repeat refine wc_seq ?_
  refine wc_condT rfl (fun h10 => ?_) (fun h10 => ?_)
  · simp at h10; omega
  skip
  refine wc_skip ?_
  refine then_n ?_
  repeat refine wc_seq ?_
  refine wc_region ?_
  refine w_val rfl rfl (op_pure rfl) ?_
  refine w_val rfl rfl (op_len rfl rfl rfl rfl rfl (by first | assumption | exact Row.slenF (by assumption) | exact Row.slen (by assumption) | rfl)) ?_
  refine w_val rfl rfl (op_cv (r := 1) rfl rfl rfl rfl rfl (by rfl)) ?_
  refine w_val rfl rfl (op_pure rfl) ?_
  refine w_val rfl rfl (op_cv (r := (n : Nat)) rfl rfl rfl rfl rfl (wrapU64 (by omega) (by omega))) ?_
  refine w_call rfl rfl (op_call rfl rfl rfl rfl) (mul_ok hn) ?_
  rintro _ sX ⟨eX, rfl⟩
  obtain rfl := eX.symm
  refine w_val rfl rfl (op_pure rfl) ?_
  refine w_val rfl rfl (op_pure rfl) ?_
  refine w_val rfl rfl (op_pure rfl) ?_
  refine w_val rfl rfl (op_pure rfl) ?_
  refine w_val rfl rfl (op_pure rfl) ?_
  refine w_nil ?_
  refine then_n ?_
  repeat refine wc_seq ?_
  refine wc_region ?_
  refine w_val rfl rfl (op_pure rfl) ?_
  refine w_val rfl rfl (op_pure rfl) ?_
  refine w_val rfl rfl (op_pure rfl) ?_
  refine w_split (i := 23) rfl (fun h23 => ?_) (fun h23 => ?_)
  · simp at h23
  skip
  refine w_val rfl rfl (op_pure rfl) ?_
  refine w_val rfl rfl (op_pure rfl) ?_
  refine w_val rfl rfl (op_pure rfl) ?_
  refine w_nil ?_
  refine then_n ?_
  repeat refine wc_seq ?_
  refine wc_condT rfl (fun h26 => ?_) (fun h26 => ?_)
  · simp at h26; omega
  skip
  refine wc_skip ?_
  refine then_n ?_
  repeat refine wc_seq ?_
  refine wc_region ?_
  refine w_val rfl rfl (op_pure rfl) ?_
  refine w_val rfl rfl (op_cv (r := (n : Nat)) rfl rfl rfl rfl rfl (wrap64 (by unfold In64; omega))) ?_
  refine w_make rfl rfl rfl rfl rfl rfl rfl rfl (by decide) rfl (by simp only [maxBytes]; omega) (by omega) hok ?_
  intro nw s1 hn1 hk1 hc1 hg1
  have hx1 := hx.keep0 hk1
  have hng : nw.gs ≠ [] := by rw [hg1]; exact fun h => by cases h
  refine w_val rfl rfl (op_pure rfl) ?_
  refine w_nil ?_
  refine then_n ?_
  repeat refine wc_seq ?_
  refine wc_region ?_
  refine w_val rfl rfl (op_pure rfl) ?_
  refine w_val rfl rfl (op_pure rfl) ?_
  obtain ⟨s2, e2, hr2, hk2, hc2⟩ := op_copy (args := #[.tmp 31, .tmp 32]) (tys := #[24, 24]) (nt := 48) (m := (32, x) :: (31, nw) :: _) (l := 0) (n' := n) rfl rfl rfl rfl (T := Tt) rfl rfl rfl rfl (.inl ⟨rfl, rfl, by simp⟩) hk1.ok hn1 hng hx1 (by simp)
  refine w_val rfl rfl e2 ?_
  refine w_val rfl rfl (op_pure rfl) ?_
  refine w_nil ?_
  refine then_n ?_
  repeat refine wc_seq ?_
  refine wc_block ?_
  refine wc_loop_at (fun j m s' => ∃ (c : Nat) (cs : List (List AV)), j = n - c ∧ c ≤ n ∧ (c = 0 → n = 0) ∧ m = [(7, nw), (8, .int .i64 (c : Nat))] ∧ Keep [] s s' ∧ s'.ctr = s.ctr + 1 ∧ Row s'.h 1 nw cs ∧ cs.length = n ∧ ∀ k, k < c → cs[k]? = some [.int .i64 (-1)]) (n - min 1 n)
    [(7, nw), (8, .int .i64 ((min 1 n : Nat)))] (Sub.cons rfl (Sub.cons rfl (Sub.nil _))) ⟨min 1 n, _, rfl, by omega, by omega, rfl, hk1.fresh hk2 (by rw [hg1]; exact mem_none hok), by omega, hr2, by simp; omega, ?_⟩ ?_
  · intro k hk
    have : k = 0 := by omega
    subst this
    have : min 1 n = 1 := by omega
    simp [this]
  clear hn1 hk1 hc1 hx1 e2 hr2 hk2 hc2
  rintro j m s3 ⟨c, cs, rfl, hc, hc0, rfl, hK, hctr, hR, hlen, hcs⟩
  have hsn : nw.slen = some n := hR.slen.trans (congrArg some hlen)
  repeat refine wc_seq ?_
  refine wc_region ?_
  refine w_val rfl rfl (op_pure rfl) ?_
  refine w_val rfl rfl (op_pure rfl) ?_
  refine w_val rfl rfl (op_len rfl rfl rfl rfl rfl (by first | assumption | exact Row.slenF (by assumption) | exact Row.slen (by assumption) | rfl)) ?_
  refine w_val rfl rfl (op_pure rfl) ?_
  refine w_nil ?_
  refine then_n ?_
  repeat refine wc_seq ?_
  refine wc_condT rfl (fun h37 => ?_) (fun h37 => ?_)
  · simp at h37
    refine wc_skip ?_
    refine then_n ?_
    refine wc_block ?_
    have hcn : cutA nw c n = cutA nw c (c + (n - c)) := by rw [Nat.add_sub_cancel' hc]
    have hRc := hR.cut (Nat.zero_le c) (by omega)
    have hnp : ∀ g j o, nw ≠ .ptr g j o := by
      intro g j o e; rw [e] at hR; exact hR.elim
    refine wc_draw (fun _ => False) (by kernel_rfl) rfl ?_
    refine wdn_val (fun _ _ => rfl) rfl rfl (op_pure rfl) ?_
    refine wdn_val (fun _ _ => rfl) rfl rfl (op_pure rfl) ?_
    refine wdn_val (fun _ _ => rfl) rfl rfl (op_pure rfl) ?_
    refine wdn_val (rd_slice rfl hnp) rfl rfl (op_cut (l := some c) (h := none) (l' := c) (h' := n) rfl (optY_some rfl (natA_cast _ _)) rfl rfl rfl rfl rfl hR rfl hlen hc (by omega)) ?_
    refine wdn_val (fun _ _ => rfl) rfl rfl (op_pure rfl) ?_
    refine wdn_val (fun _ _ => rfl) rfl rfl (op_pure rfl) ?_
    refine wdn_val (rd_slice rfl hnp) rfl rfl (op_cut (l := none) (h := some c) (l' := 0) (h' := c) rfl rfl (optY_some rfl (natA_cast _ _)) rfl rfl rfl rfl hR rfl rfl (Nat.zero_le _) (by omega)) ?_
    obtain ⟨s4, e4, hr4, hk4, hc4⟩ := op_copy (s := s3.bare) (args := #[.tmp 41, .tmp 44]) (tys := #[24, 24]) (nt := 48) (m := (44, cutA nw 0 c) :: (43, .int .i64 (c : Nat)) :: (42, nw) :: (41, cutA nw c n) :: _) (l := c) (n' := n - c) rfl rfl rfl rfl (T := Tt) rfl rfl rfl rfl (.inr hcn) hK.ok hR hng hRc (by omega)
    have hmin : min ((List.drop 0 cs).take (c - 0)).length (n - c) = min c (n - c) := by simp [hlen]
    rw [hmin] at e4 hr4
    refine wdn_mem (fun _ _ => rfl) rfl rfl e4 ?_
    refine wdn_val (fun _ _ => rfl) rfl rfl (op_add rfl rfl (by unfold In64; omega)) ?_
    refine wdn_val (fun _ _ => rfl) rfl rfl (op_pure rfl) ?_
    refine wdn_nil ?_
    refine out_n ?_
    refine round_n _ [(7, nw), (8, .int .i64 ((c + min c (n - c) : Nat)))] ?_ (Sub.cons rfl (Sub.cons rfl (Sub.nil _))) ⟨c + min c (n - c), _, rfl, by omega, by omega, rfl, hK.fresh hk4.joined (by rw [hg1]; exact mem_none hok), hc4.trans hctr, hr4, by simp; omega, ?_⟩
    · omega
    · intro k hk
      by_cases h1 : k < c
      · rw [List.getElem?_append_left (by simp; omega), List.getElem?_append_left (by simp; omega), List.getElem?_take_of_lt h1]
        exact hcs k h1
      · rw [List.getElem?_append_left (by simp; omega), List.getElem?_append_right (by simp; omega)]
        simp only [List.drop_zero, Nat.sub_zero, List.length_take, hlen]
        rw [List.getElem?_take_of_lt (by omega), List.getElem?_take_of_lt (by omega)]
        exact hcs _ (by omega)
  simp at h37
  obtain rfl : c = n := by omega
  refine wc_exit ?_
  repeat first | refine then_x ?_ | refine round_x ?_ | refine cut_x ?_ | refine out_x' (by decide) ?_
  refine out_x ?_
  refine then_n ?_
  repeat refine wc_seq ?_
  refine wc_region ?_
  refine w_val rfl rfl (op_pure rfl) ?_
  refine w_val rfl rfl (op_pure rfl) ?_
  refine w_nil ?_
  refine then_n ?_
  refine wc_ret ?_
  repeat first | refine then_r ?_ | refine out_r ?_ | refine round_r ?_ | refine cut_r ?_
  refine ⟨_, rfl, hK, hctr, hg1, ?_⟩
  have : cs = List.replicate c [.int .i64 (-1)] := by
    refine List.ext_getElem? fun k => ?_
    by_cases h : k < c
    · rw [hcs k h, List.getElem?_replicate, if_pos h]
    · rw [List.getElem?_eq_none (by omega), List.getElem?_eq_none (by simp; omega)]
  rw [← this]; exact hR
end Go.Ab
